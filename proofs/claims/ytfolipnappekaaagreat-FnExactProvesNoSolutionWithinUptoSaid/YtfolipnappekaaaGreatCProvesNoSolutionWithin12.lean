/-
  Part 13 of the proof that the statement FnExactProvesNoSolutionWithin holds.
-/
import Derived.Test.YtfolipnappekaaaGreatCProvesNoSolutionWithin11
import Derived.MapKept
namespace Go.Proofs.YtfolipnappekaaaGreat
open Go.RowKit
section
variable {P:Program} {T:Tab} {X:Ctx} {w w':World} {π:Pi} {H:List (Nat×OB)}
theorem jJ (hT:By P T) {st:St} {a:Act} (h:Ak X π st a w) (dst:Nat) (t:TypeId) (av:AV) (st':St) (he:Pq T st dst t=some (av,st')):
  ∃v' w' π',(Instr.makeMap t none).run P w= .ok v' w'/\Ak X π' st' a w'/\Ao X w' π' st'.heap av v':=by
 unfold Pq at he
 split at he
 ·rename_i v ht
  split at he
  ·rename_i hp
   simp only [Option.some.injEq,Prod.mk.injEq] at he
   obtain ⟨rfl,rfl⟩:=he
   obtain ⟨k,e,h1,h2,h3,h4,h5⟩:=hT.mapOf t v ht
   have gh:(w.alloc (.map #[] 0)).heap[w.heap.size]?=some (.map #[] 0):=heap_alloc_new w _
   refine ⟨.map (some w.heap.size),w.alloc (.map #[] 0),_,rfl,h.replace dst hp (some (Real.one w.heap.size 0 0)) _ (World.grownBy_alloc w _ _) (λr hr=>by cases hr;exact ⟨rfl, .inr (Nat.le_refl _),Dd gh⟩) λm=>?_,?_⟩
   ·refine ⟨_,rfl,rfl,⟨h4,h5⟩, .inr ⟨_,rfl,Dd gh,λh=>h, #[],0,gh,by simp,λ_ _=>rfl,λs y hy=>by cases hy⟩⟩
   ·exact ⟨_,v,_,St.Dq st dst _,Df _ _ _,rfl⟩
  ·cases he
 ·cases he
theorem uD {e:MapEntry} {t:ByteArray} (h:e.key= .string t) (r:List MapEntry):Mc (e::r) t=some e.val:=by
 unfold Mc;rw [if_pos (by rw [h];rfl)]
theorem Pf {e:MapEntry} {t:ByteArray} (h:Ob e.key≠some t) (r:List MapEntry):Mc (e::r) t=Mc r t:=by
 rw [Mc,if_neg h]
theorem mG {s t:ByteArray} (h:t≠s):Ob (.string s)≠some t:=by
 simp only [Ob,ne_eq,Option.some.injEq];exact λe=>h e.symm
theorem kh (s:ByteArray) (x:Value): ∀(es:List MapEntry) (j:Nat) (e:MapEntry),es[j]?=some e->e.key= .string s->(∀k e,k<j->es[k]?=some e->Ob e.key≠some s)->
  ∀t,Mc (es.modify j λe=> {e with key:= .string s,val:=x}) t=if t=s then some x else Mc es t
 | [],j,e,h,_,_,_=>by simp at h
 |a::r,0,e,h,hk,_,t=>by
  simp only [List.getElem?_cons_zero,Option.some.injEq] at h
  subst h
  simp only [List.modify_zero_cons]
  by_cases q7:t=s
  ·subst q7;rw [uD rfl,if_pos rfl]
  ·rw [Pf (mG q7),if_neg q7,Pf (by rw [hk];exact mG q7)]
 |a::r,j+1,e,h,hk,hf,t=>by
  simp only [List.modify_succ_cons]
  have ih:=kh s x r j e (by simpa using h) hk (λk e hk he=>hf (k+1) e (by omega) (by simpa using he)) t
  have h0:=hf 0 a (by omega) rfl
  by_cases ha:Ob a.key=some t
  ·have:t≠s:= λe=>h0 (e▸ha)
   rw [if_neg this]
   simp only [Mc,if_pos ha]
  ·rw [Pf ha,Pf ha,ih]
theorem qi (s:ByteArray) (x:Value) (b:Nat): ∀(es:List MapEntry) (t:ByteArray),Mc (es++ [{key:= .string s,val:=x,born:=b}]) t=match Mc es t with|some v=>some v|none=>if t=s then some x else none
 | [],t=>by
  simp only [List.nil_append]
  by_cases q7:t=s
  ·subst q7;rw [uD rfl];simp [Mc]
  ·rw [Pf (mG q7)];simp [Mc,q7]
 |a::r,t=>by
  simp only [List.cons_append]
  by_cases ha:Ob a.key=some t
  ·simp only [Mc,if_pos ha]
  ·rw [Pf ha,Pf ha];exact qi s x b r t
theorem qX {r:Nat} {es:Array MapEntry} {clock:Nat} (o:Obj) (hb:w.heap[r]?=some (.map es clock)):(setObj r o).run P w= .ok () {w with heap:=w.heap.setIfInBounds r o} :=by simp [setObj,Sem.run,hb]
theorem az (hT:By P T) {st:St} {a:Act} (h:Ak X π st a w) (t:TypeId) (m k x:AV) (vm vk vx:Value) (hm:Ao X w π st.heap m vm) (hk:Ao X w π st.heap k vk) (hx:Ao X w π st.heap x vx) (st':St)
  (he:Ex T st t m k x=some st'): ∃w',(Instr.mapUpdate t vm vk vx).run P w= .ok () w'/\Ak X π st' a w':=by
 unfold Ex at he
 split at he
 ·rename_i v l fr s ht
  have:=bV hk;subst this
  obtain ⟨kt,et,h1,h2,h3,h4,h5⟩:=hT.mapOf t v ht
  split at he
  ·rename_i v' f oI y hl hv
   split at he
   ·rename_i hc
    obtain ⟨rfl,_,_⟩:=hc
    simp only [Option.some.injEq] at he;subst he
    unfold St.at at hl
    obtain ⟨r,vt,mm,g1,g2,rfl⟩:=hm
    obtain ⟨r',g3,g4,g5,g6⟩:=(h.1.heap l).Md hl
    rw [g2] at g3;cases g3
    simp only [Cells] at g6
    rcases g6 with ⟨g6,_⟩|⟨g,g6,hg,_,es,clock,q1,q2,q3,q4⟩
    ·simp at g6
    simp only [List.cons.injEq,Value.map.injEq,Option.some.injEq,and_true] at g6
    subst g6
    have hr:=Tq h.1 (S:= λ_=>False) v' x vx oI y hx hv ⟨λ_ h=>h.elim, .inr λ_ h=>h.elim⟩
    have hxc:Cells w (λ_=>False) v' [vx] y:=Bc.Mv h5 hr
    obtain ⟨res,p1,p2,p3⟩:=dD s es.toList 0 q2
    have Aaf:(Instr.findKey kt (.string s) es.toList).run P w= .ok res w:=by
     unfold Instr.findKey
     simp only [Sem.run_bind,run_underlying h2,Result.andThen_ok,p1,Sem.run_pure]
    have Ahl: ∀w,(Instr.keyThatStays (.string s) (.string s)).run P w= .ok (.string s) w:= λw=>by
     unfold Instr.keyThatStays
     rw [show (10000:Nat)=9999+1 from rfl]
     simp only [Instr.sameBits,DB,decide_true,if_true,Sem.run_pure]
    have done: ∀(lf:Array MapEntry) (DR:Nat),(Instr.mapUpdate t (.map (some r.g)) (.string s) vx).run P w= .ok () {w with heap:=w.heap.setIfInBounds r.g (.map lf DR)} ->
      (∀e∈lf.toList,(Ob e.key).isSome=true)->(∀t,Mc lf.toList t=if t=s then some vx else Mc es.toList t)->
      ∃w',(Instr.mapUpdate t (.map (some r.g)) (.string s) vx).run P w= .ok () w'/\Ak X π (st.Ft l (.Qi v' (eQ f s y))) a w':=by
     intro lf DR Qh e1 e2
     refine ⟨_,Qh,h.set hl trivial (b:= .Qi v' (eQ f s y)) (by rw [g2];exact ⟨rfl,rfl,rfl,by simp,λk hk Ek=>by simp only [Option.map_some,ne_eq,Option.some.injEq] at Ek;simp [Array.getElem?_setIfInBounds_ne (λe=>Ek e.symm)]⟩) λmv=>?_⟩
     refine ⟨r,g2,g4,g5, .inr ⟨r.g,rfl,by simpa using hg,λh=>h,lf,DR,by simp [hg],e1,λt ht=>?_,λt z hz=>?_⟩⟩
     ·rw [e2]
      unfold eQ at ht
      split at ht
      ·cases ht
      ·rename_i Ek;rw [if_neg Ek];exact q3 t ht
     ·rw [e2]
      unfold eQ at hz
      split at hz
      ·rename_i heq
       rw [if_pos heq]
       simp only [Option.some.injEq] at hz;subst hz
       exact ⟨vx,rfl,Cells.flat v' _ _ h4 hxc⟩
      ·rename_i Ek
       rw [if_neg Ek]
       obtain ⟨u,z1,z2⟩:=q4 t z hz
       exact ⟨u,z1,Cells.flat v' _ _ h4 z2⟩
    cases res with
    |none=>
     refine done (es.push {key:= .string s,val:=vx,born:=clock}) (clock+1) ?_ (λe he=>?_) λt=>?_
     ·unfold Instr.mapUpdate
      simp [run_underlying h1,c6 q1,Qp h2,Aaf,qX _ q1]
     ·rw [Array.toList_push] at he
      rcases List.mem_append.1 he with he|he
      ·exact q2 e he
      ·simp only [List.mem_singleton] at he;subst he;rfl
     ·rw [Array.toList_push,qi]
      simp only [Option.map_none] at p2
      by_cases q7:t=s
      ·subst q7;rw [<-p2]
      ·rw [if_neg q7]
       cases Mc es.toList t<;>simp [q7]
    |some pr=>
     obtain ⟨j,vj⟩:=pr
     obtain ⟨_,⟨e0,z1,z2⟩,z3⟩:=p3 j vj rfl
     simp only [Nat.sub_zero] at z1 z3
     refine done (es.modify j λe=> {e with key:= .string s,val:=vx}) clock ?_ (λe he=>?_) λt=>?_
     ·unfold Instr.mapUpdate
      have hj:es[j]?=some e0:=by rw [<-Array.getElem?_toList];exact z1
      simp [run_underlying h1,c6 q1,Qp h2,Aaf,hj,z2,Ahl,qX _ q1]
     ·rw [Array.toList_modify] at he
      obtain ⟨i,hi,rfl⟩:=List.getElem_of_mem he
      rw [List.getElem_modify]
      split
      ·rfl
      ·exact q2 _ (List.getElem_mem _)
     ·rw [Array.toList_modify]
      exact kh s vx es.toList j e0 z1 z2 z3 t
   ·cases he
  ·cases he
 ·cases he
theorem LR {S:Nat->Prop} {e:Ty} {ys:List e.den} {v:Value} (h1:e.size=1) (h:Cells w S (.slice e) [v] ys):
  ∃ad c,v= .slice ad ys.length c/\ ∃cs:List Value,cs.length=ys.length/\(ys= []\/ ∃g o,ad=some ⟨g,o,none⟩/\ ∀j u,cs[j]?=some u->w.cell? ⟨g,o+j,none⟩=some u)/\(∀u∈cs,u.oneCell'=true)/\
   ∀(i:Nat) (y:e.den),ys[i]?=some y-> ∃u,cs[i]?=some u/\Cells w S e [u] y:=by
 obtain ⟨ad,c,rfl,EF⟩:=r8 h
 refine ⟨ad,c,rfl,?_⟩
 rcases EF with rfl|⟨g,o,rfl,news,n1,n2,n3,_,n4⟩
 ·exact ⟨[],rfl, .inl rfl,by simp,λi y hy=>by simp at hy⟩
 ·rw [h1,Nat.mul_one] at n1
  refine ⟨news,n1, .inr ⟨g,o,rfl,n2⟩,n3,λi y hy=>?_⟩
  obtain ⟨es,q1,q2,q3⟩:=n4 i y hy
  rw [h1] at q1
  obtain ⟨u,rfl⟩:=List.length_eq_one_iff.1 q1
  have:=q2 0 u rfl
  rw [h1,Nat.mul_one,Nat.add_zero] at this
  exact ⟨u,this,q3⟩
theorem qS {st:St} {a:Act} (h:Ak X π st a w) {l:Nat} {fr tr:Bool} {e:Ty} {tid:TypeId} {xs ys:List e.den} {r:Real} {off:Nat} {cs:List Value} {cur:Array Value} {ti:TypeId} (hf:e.flat=true) (h1:e.size=1)
  (hp:π l=some r) (hl:Ad st.heap l=some (.arr fr tr e tid xs)) (cW:w.heap[r.g]?=some (.cells cur ti (0,0))) (hle:off+ys.length<=xs.length) (wa:cs.length=ys.length)
  (Ac4: ∀(i:Nat) (y:e.den),ys[i]?=some y-> ∃u,cs[i]?=some u/\Cells w (λ_=>False) e [u] y):
  Ak X π (st.Ft l (.arr fr false e tid (Bs xs off ys))) a (w.setRow r.g (Bs cur.toList (r.o+off) cs).toArray):=by
 have hb:=(h.1.heap l).Md hl
 simp only [Av,Fv,hp] at hb
 obtain ⟨k1,Vc,WX,k2,k3,k4,k5,k6,_⟩:=hb
 rw [cW] at k2
 simp only [Option.some.injEq,Obj.cells.injEq,and_true] at k2
 obtain ⟨rfl,rfl⟩:=k2
 rw [h1,Nat.mul_one] at k3
 have Sq:r.o+off+cs.length<=cur.toList.length:=by simp [k3];omega
 have hsl:(Bs xs off ys).length=xs.length:=Et xs ys off hle
 refine h.set hl (b:= .arr fr false e tid (Bs xs off ys)) ⟨rfl,by omega⟩ (by rw [hp];exact Jb w r.g _) λm=>?_
 simp only [Av,Fv,hp]
 refine ⟨k1,_,_,setRow_heap w r.g cur _ ti _ cW,by rw [List.size_toArray,Et _ _ _ Sq,h1];simpa using k3,k4,by omega,λi x hx=>?_,λh=>by cases h⟩
 rw [Ei _ _ _ _ hle] at hx
 have Ui: ∀(u:Value) (z:e.den),Cells w (λ_=>False) e [u] z\/Cells w (Bj X.w0.heap.size X.Sc π fr) e [u] z->Cells (w.setRow r.g (Bs cur.toList (r.o+off) cs).toArray) (Bj X.w0.heap.size X.Sc π fr) e [u] z:= λu z hz=>hz.elim (Cells.flat e _ _ hf) (Cells.flat e _ _ hf)
 by_cases dO:off<=i/\i<off+ys.length
 ·rw [if_neg (by omega),if_pos dO.2] at hx
  obtain ⟨u,q1,q2⟩:=Ac4 _ x hx
  refine ⟨[u],by simp [h1],λj u' bE=>?_,Ui u x (.inl q2)⟩
  rcases j with _|j
  ·simp only [List.getElem?_cons_zero,Option.some.injEq] at bE;subst bE
   rw [List.getElem?_toArray,Ei _ _ _ _ Sq,h1,Nat.mul_one,Nat.add_zero,if_neg (by omega),if_pos (by omega),<-q1]
   congr 1;omega
  ·simp at bE
 ·have hx':xs[i]?=some x:=by
   by_cases h0:i<off
   ·rw [if_pos h0] at hx;exact hx
   ·rw [if_neg h0,if_neg (by omega)] at hx;exact hx
  obtain ⟨es,q1,q2,q3⟩:=k6 i x hx'
  rw [h1] at q1
  obtain ⟨u,rfl⟩:=List.length_eq_one_iff.1 q1
  refine ⟨[u],by simp [h1],λj u' bE=>?_,Ui u x (.inr q3)⟩
  rcases j with _|j
  ·simp only [List.getElem?_cons_zero,Option.some.injEq] at bE;subst bE
   have:=q2 0 u rfl
   rw [h1,Nat.mul_one,Nat.add_zero] at this
   rw [List.getElem?_toArray,Ei _ _ _ _ Sq,h1,Nat.mul_one,Nat.add_zero]
   by_cases h0:r.o+i<r.o+off
   ·rw [if_pos h0];simpa using this
   ·rw [if_neg h0,if_neg (by omega)];simpa using this
  ·simp at bE
theorem pA (hT:By P T) {st:St} {a:Act} (h:Ak X π st a w) (t t' ty:TypeId) (x y:AV) (vx vy:Value) (hx:Ao X w π st.heap x vx) (hy:Ao X w π st.heap y vy) (av:AV) (st':St)
  (he:dA T st t t' x y=some (av,st')): ∃v' w',(Builtin.copy_ #[t,t'] ty #[vx,vy]).run P w= .ok v' w'/\Ak X π st' a w'/\Ao X w' π st'.heap av v':=by
 unfold dA at he
 split at he
 ·rename_i l off len e gL
  obtain ⟨te,g1,g2,g3,g4⟩:=oG hT gL
  split at he
  ·rename_i hc
   obtain ⟨XQ,hc2,hc3⟩:=hc
   split at he
   ·rename_i fr tr e' tid xs oI ys hl hv
    split at he
    ·rename_i hc4
     obtain ⟨rfl,hc5⟩:=hc4
     rw [g1] at hc5
     simp only [Option.some.injEq] at hc5;subst hc5
     simp only [Option.some.injEq,Prod.mk.injEq] at he
     obtain ⟨rfl,rfl⟩:=he
     unfold St.at at hl
     obtain ⟨h2,h3⟩:=Jv (X:=X) (w:=w) hx hl
     have hyr:=Bc.Mv rfl (Tq h.1 (S:= λ_=>False) _ y vy oI ys hy hv ⟨λ_ h=>h.elim, .inr λ_ h=>h.elim⟩)
     obtain ⟨ad,c,rfl,cs,c1,c2,c3,c4⟩:=LR hc3 hyr
     obtain ⟨inf,hi,Qg,_⟩:=(hT.ty te e' g2).info
     have Am7:(P.info? te).map (·.size)=some 1:=by rw [hi];simp [Qg,hc3]
     have Are: ∀n:Nat,n=min len ys.length->Ao X w π st.heap (.at (.data true (.int .i64) ((min len ys.length:Nat):Int))) (goInt n):= λn hn=>by subst hn;exact Jo _ _ _
     have Aap: ∀(w':World) (H':List (Nat×OB)) (n:Nat),n=min len ys.length->Ao X w' π H' (.at (.data true (.int .i64) ((min len ys.length:Nat):Int))) (goInt n):= λw' H' n hn=>by subst hn;exact Jo _ _ _
     have nothing:min len ys.length=0-> ∀v',(Builtin.copy_ #[t,t'] ty #[vx, .slice ad ys.length c]).run P w= .ok v' w->v'=goInt 0->
       ∃v' w',(Builtin.copy_ #[t,t'] ty #[vx, .slice ad ys.length c]).run P w= .ok v' w'/\Ak X π (st.Ft l (.arr fr false e' te (Bs xs off (ys.take len)))) a w'/\
        Ao X w' π (st.Ft l (.arr fr false e' te (Bs xs off (ys.take len)))).heap (.at (.data true (.int .i64) ((min len ys.length:Nat):Int))) v':=by
      intro h0 v' hr zm
      subst zm
      have Amm:ys.take len= []:=List.eq_nil_of_length_eq_zero (by rw [List.length_take];exact h0)
      refine ⟨_,w,hr,?_,Aap _ _ 0 h0.symm⟩
      rw [Amm]
      have SF:Bs xs off []=xs:=by simp [Bs]
      rw [SF]
      refine h.set hl (b:= .arr fr false e' te xs) ⟨rfl,Nat.le_refl _⟩ (Kx w _) λm=>?_
      have hb:=(h.1.heap l).Md hl
      simp only [Av,Fv] at hb⊢
      cases hp:π l with
      |none=>rw [hp] at hb;exact hb
      |some r=>
       rw [hp] at hb
       obtain ⟨k1,cur,ti,k2,k3,k4,k5,k6,_⟩:=hb
       exact ⟨k1,cur,ti,k2,k3,k4,k5,k6,λh=>by cases h⟩
     cases hp:π l with
     |none=>
      rw [hp] at h3
      obtain ⟨rfl,rfl,rfl⟩:=h3
      refine nothing (by simp) (goInt 0) ?_ rfl
      rcases c2 with c2|⟨g,o,rfl,_⟩
      ·subst c2
       cases ad<;>simp [Builtin.copy_,run_underlying g3,Builtin.lenOf,Builtin.firstCells,sizeOf,typeInfo,hi,loadCells,loadCellsFrom]
      ·simp [Builtin.copy_,run_underlying g3,Builtin.lenOf,Builtin.firstCells,sizeOf,typeInfo,hi,loadCells,loadCellsFrom]
     |some r=>
      rw [hp] at h3
      obtain ⟨adx,rfl,lg,cV⟩:=h3
      by_cases hz:min len ys.length=0
      ·refine nothing hz (goInt 0) ?_ rfl
       have hn:Nat.min ys.length len=0:=by show min ys.length len=0;omega
       cases ad<;>simp [Builtin.copy_,run_underlying g3,Builtin.lenOf,Builtin.firstCells,sizeOf,typeInfo,hi,hn,loadCells,loadCellsFrom,storeCells]
      ·rcases c2 with c2|⟨g,o,rfl,c2⟩
       ·subst c2;simp at hz
       ·have hb:=(h.1.heap l).Md hl
        simp only [Av,Fv,hp] at hb
        obtain ⟨k1,cur,ti,k2,k3,k4,k5,k6,_⟩:=hb
        have:=cV (by omega)
        subst this
        rw [hc3,Nat.mul_one] at k3
        have hlen:(cs.take len).length=Nat.min ys.length len:=by rw [List.length_take,c1];exact Nat.min_comm _ _
        have hr:=run_copy_row (P:=P) w t t' ty te r.g ((r.o+off)*e'.size) len (r.cap-off) ⟨g,o,none⟩ ys.length c cur ti (cs.take len) g3 Am7 k2 hlen
         (λj v hv=>by rw [Addr.add_lit];refine c2 j v ?_;rw [List.getElem?_take] at hv;split at hv;exact hv;cases hv)
         (by rw [hc3,Nat.mul_one,List.length_take];omega) (λv hv=>c3 v (List.mem_of_mem_take hv))
        rw [hc3,Nat.mul_one] at hr
        have SF:(cur.toList.take (r.o+off)++cs.take len++cur.toList.drop (r.o+off+(cs.take len).length))=Bs cur.toList (r.o+off) (cs.take len):=rfl
        rw [SF] at hr
        refine ⟨_,_,by rw [hc3,Nat.mul_one];exact hr,qS h hc2 hc3 hp hl k2 (by rw [List.length_take];omega) (by rw [List.length_take,List.length_take,c1]) (λi z hz=>?_),Aap _ _ _ (by rw [hlen];exact Nat.min_comm _ _)⟩
        rw [List.getElem?_take] at hz
        split at hz
        ·rename_i jV
         obtain ⟨u,q1,q2⟩:=c4 i z hz
         exact ⟨u,by rw [List.getElem?_take,if_pos jV];exact q1,q2⟩
        ·cases hz
    ·cases he
   ·cases he
  ·cases he
 ·cases he
theorem nW (hT:By P T) {st:St} {a:Act} (h:Ak X π st a w) (t ty:TypeId) (x:AV) (vx:Value) (hx:Ao X w π st.heap x vx) (st':St)
  (he:evalClear T st t x=some st'): ∃v' w',(Builtin.clear_ #[t] ty #[vx]).run P w= .ok v' w'/\Ak X π st' a w':=by
 unfold evalClear at he
 split at he
 ·rename_i l off len e gL
  obtain ⟨te,g1,g2,g3,g4⟩:=oG hT gL
  split at he
  ·rename_i hc
   obtain ⟨hc2,hz⟩:=hc
   split at he
   ·rename_i fr tr e' tid xs hl
    split at he
    ·rename_i hc4
     obtain ⟨rfl,hc5⟩:=hc4
     rw [g1] at hc5
     simp only [Option.some.injEq] at hc5;subst hc5
     simp only [Option.some.injEq] at he;subst he
     unfold St.at at hl
     obtain ⟨h2,h3⟩:=Jv (X:=X) (w:=w) hx hl
     obtain ⟨z,z1,z2,z3,z4,z5⟩:=(show ∃z,Ar e'= [z]/\e'.Ac=false/\e'.size=1/\Cells w (λ_=>False) e' [z] e'.zero/\z.oneCell'=true from by
      cases e'<;>simp [jk] at hz<;>try (simp [Ty.flat] at hc2;done)
      ·exact ⟨_,rfl,rfl,rfl,rfl,rfl⟩
      ·exact ⟨_,rfl,rfl,rfl,rfl,rfl⟩
      ·exact ⟨_,rfl,rfl,rfl,rfl,rfl⟩)
     obtain ⟨inf,hi,Qg,_,pU⟩:=(hT.ty te e' g2).info
     have hmk:Au e' (Ar e')=z:=by simp [Au,z1,z2]
     have SK:z.cells= #[z]:=by
      have:=Gm e' _ _ (z1▸z4:Cells w _ e' (Ar e') e'.zero)
      rw [hmk,z1] at this;exact this
     by_cases h0:len=0
     ·subst h0
      have SF:Bs xs off (List.replicate 0 e'.zero)=xs:=by simp [Bs]
      rw [SF]
      have hv: ∃ad c,vx= .slice ad 0 c:=by
       cases hp:π l with
       |none=>rw [hp] at h3;obtain ⟨rfl,_⟩:=h3;exact ⟨_,_,rfl⟩
       |some r=>rw [hp] at h3;obtain ⟨ad,rfl,_⟩:=h3;exact ⟨_,_,rfl⟩
      obtain ⟨ad,c,rfl⟩:=hv
      refine ⟨.tuple #[],w,by cases ad<;>simp [Builtin.clear_,run_underlying g3],?_⟩
      refine h.set hl (b:= .arr fr false e' te xs) ⟨rfl,Nat.le_refl _⟩ (Kx w _) λm=>?_
      have hb:=(h.1.heap l).Md hl
      simp only [Av,Fv] at hb⊢
      cases hp:π l with
      |none=>rw [hp] at hb;exact hb
      |some r=>
       rw [hp] at hb
       obtain ⟨k1,cur,ti,k2,k3,k4,k5,k6,_⟩:=hb
       exact ⟨k1,cur,ti,k2,k3,k4,k5,k6,λh=>by cases h⟩
     ·cases hp:π l with
      |none=>rw [hp] at h3;obtain ⟨_,_,h3⟩:=h3;exact absurd h3 h0
      |some r=>
       rw [hp] at h3
       obtain ⟨adx,rfl,lg,cV⟩:=h3
       have hb:=(h.1.heap l).Md hl
       simp only [Av,Fv,hp] at hb
       obtain ⟨k1,cur,ti,k2,k3,k4,k5,k6,_⟩:=hb
       have:=cV (by omega)
       subst this
       rw [z3,Nat.mul_one] at k3
       have Oq:=run_storeCells_at P r.g (r.o+off) ti (List.replicate len z) 0 cur w k2 (by simp;omega) (λv hv=>by rw [List.eq_of_mem_replicate hv];exact z5)
       simp only [Nat.add_zero] at Oq
       have hzl:(Builtin.zeroCells #[z] len).toList=List.replicate len z:=by
        apply List.ext_getElem
        ·simp [Builtin.zeroCells]
        ·intro i h1 h2
         simp [Builtin.zeroCells,Nat.mod_one]
       refine ⟨.tuple #[],_,?_,qS (ys:=List.replicate len e'.zero) (cs:=List.replicate len z) h hc2 z3 hp hl k2 (by simp;omega) (by simp) (λi y hy=>?_)⟩
       ·obtain ⟨n,rfl⟩: ∃n,len=n+1:=⟨len-1,by omega⟩
        rw [z3,Nat.mul_one]
        simp only [Builtin.clear_]
        simp [run_underlying g3,zeroValue,typeInfo,hi,pU,hmk,SK,hzl,Oq,Bs]
       ·have jV:=(List.getElem?_eq_some_iff.1 hy).1
        simp at jV
        have:=List.mem_of_getElem? hy
        rw [List.eq_of_mem_replicate this]
        exact ⟨z,by simp [jV],z4⟩
    ·cases he
   ·cases he
  ·cases he
 ·cases he
end
end Go.Proofs.YtfolipnappekaaaGreat
