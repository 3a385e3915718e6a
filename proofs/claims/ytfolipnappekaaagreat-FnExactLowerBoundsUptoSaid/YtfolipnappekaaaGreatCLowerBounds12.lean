/-
  Part 13 of the proof that the statement FnExactLowerBounds holds.
-/
import Derived.Test.YtfolipnappekaaaGreatCLowerBounds11
import Derived.MapKept
namespace Go.Proofs.YtfolipnappekaaaGreat
open Go.RowKit
section
variable {P:Program} {T:Tab} {X:Ctx} {w w':World} {π:Pi} {H:List (Nat×OB)}
theorem iA (hT:Ca P T) {st:St} {a:Act} (h:Al X π st a w) (dst:Nat) (t:TypeId) (av:AV) (st':St) (he:Oh T st dst t=some (av,st')):
  ∃v' w' π',(Instr.makeMap t none).run P w= .ok v' w'/\Al X π' st' a w'/\An X w' π' st'.heap av v':=by
 unfold Oh at he
 split at he
 ·rename_i v ht
  split at he
  ·rename_i hp
   simp only [Option.some.injEq,Prod.mk.injEq] at he
   obtain ⟨rfl,rfl⟩:=he
   obtain ⟨k,e,h1,h2,h3,h4,h5⟩:=hT.mapOf t v ht
   have eR:(w.alloc (.map #[] 0)).heap[w.heap.size]?=some (.map #[] 0):=heap_alloc_new w _
   refine ⟨.map (some w.heap.size),w.alloc (.map #[] 0),_,rfl,h.replace dst hp (some (Real.one w.heap.size 0 0)) _ (World.grownBy_alloc w _ _) (λr hr=>by cases hr;exact ⟨rfl, .inr (Nat.le_refl _),Cs eR⟩) λm=>?_,?_⟩
   ·refine ⟨_,rfl,rfl,⟨h4,h5⟩, .inr ⟨_,rfl,Cs eR,λh=>h, #[],0,eR,by simp,λ_ _=>rfl,λs y hy=>by cases hy⟩⟩
   ·exact ⟨_,v,_,St.Dr st dst _,Db _ _ _,rfl⟩
  ·cases he
 ·cases he
theorem sK {e:MapEntry} {t:ByteArray} (h:e.key= .string t) (r:List MapEntry):Lh (e::r) t=some e.val:=by
 unfold Lh;rw [if_pos (by rw [h];rfl)]
theorem Ny {e:MapEntry} {t:ByteArray} (h:Nb e.key≠some t) (r:List MapEntry):Lh (e::r) t=Lh r t:=by
 rw [Lh,if_neg h]
theorem kZ {s t:ByteArray} (h:t≠s):Nb (.string s)≠some t:=by
 simp only [Nb,ne_eq,Option.some.injEq];exact λe=>h e.symm
theorem iX (s:ByteArray) (x:Value): ∀(es:List MapEntry) (j:Nat) (e:MapEntry),es[j]?=some e->e.key= .string s->(∀k e,k<j->es[k]?=some e->Nb e.key≠some s)->
  ∀t,Lh (es.modify j λe=> {e with key:= .string s,val:=x}) t=if t=s then some x else Lh es t
 | [],j,e,h,_,_,_=>by simp at h
 |a::r,0,e,h,hk,_,t=>by
  simp only [List.getElem?_cons_zero,Option.some.injEq] at h
  subst h
  simp only [List.modify_zero_cons]
  by_cases oe:t=s
  ·subst oe;rw [sK rfl,if_pos rfl]
  ·rw [Ny (kZ oe),if_neg oe,Ny (by rw [hk];exact kZ oe)]
 |a::r,j+1,e,h,hk,hf,t=>by
  simp only [List.modify_succ_cons]
  have ih:=iX s x r j e (by simpa using h) hk (λk e hk he=>hf (k+1) e (by omega) (by simpa using he)) t
  have h0:=hf 0 a (by omega) rfl
  by_cases ha:Nb a.key=some t
  ·have:t≠s:= λe=>h0 (e▸ha)
   rw [if_neg this]
   simp only [Lh,if_pos ha]
  ·rw [Ny ha,Ny ha,ih]
theorem oB (s:ByteArray) (x:Value) (b:Nat): ∀(es:List MapEntry) (t:ByteArray),Lh (es++ [{key:= .string s,val:=x,born:=b}]) t=match Lh es t with|some v=>some v|none=>if t=s then some x else none
 | [],t=>by
  simp only [List.nil_append]
  by_cases oe:t=s
  ·subst oe;rw [sK rfl];simp [Lh]
  ·rw [Ny (kZ oe)];simp [Lh,oe]
 |a::r,t=>by
  simp only [List.cons_append]
  by_cases ha:Nb a.key=some t
  ·simp only [Lh,if_pos ha]
  ·rw [Ny ha,Ny ha];exact oB s x b r t
theorem pc {r:Nat} {es:Array MapEntry} {clock:Nat} (o:Obj) (hb:w.heap[r]?=some (.map es clock)):(setObj r o).run P w= .ok () {w with heap:=w.heap.setIfInBounds r o} :=by simp [setObj,Sem.run,hb]
theorem Ze (hT:Ca P T) {st:St} {a:Act} (h:Al X π st a w) (t:TypeId) (m k x:AV) (vm vk vx:Value) (hm:An X w π st.heap m vm) (hk:An X w π st.heap k vk) (hx:An X w π st.heap x vx) (st':St)
  (he:Eu T st t m k x=some st'): ∃w',(Instr.mapUpdate t vm vk vx).run P w= .ok () w'/\Al X π st' a w':=by
 unfold Eu at he
 split at he
 ·rename_i v l fr s ht
  have:=bb hk;subst this
  obtain ⟨kt,et,h1,h2,h3,h4,h5⟩:=hT.mapOf t v ht
  split at he
  ·rename_i v' f mS y hl hv
   split at he
   ·rename_i hc
    obtain ⟨rfl,_,_⟩:=hc
    simp only [Option.some.injEq] at he;subst he
    unfold St.at at hl
    obtain ⟨r,vt,mm,g1,g2,rfl⟩:=hm
    obtain ⟨r',g3,g4,g5,g6⟩:=(h.1.heap l).Ku hl
    rw [g2] at g3;cases g3
    simp only [Cells] at g6
    rcases g6 with ⟨g6,_⟩|⟨g,g6,hg,_,es,clock,q1,q2,q3,q4⟩
    ·simp at g6
    simp only [List.cons.injEq,Value.map.injEq,Option.some.injEq,and_true] at g6
    subst g6
    have hr:=Rx h.1 (S:= λ_=>False) v' x vx mS y hx hv ⟨λ_ h=>h.elim, .inr λ_ h=>h.elim⟩
    have hxc:Cells w (λ_=>False) v' [vx] y:=Be.Lu h5 hr
    obtain ⟨res,p1,p2,p3⟩:=cK s es.toList 0 q2
    have VJ:(Instr.findKey kt (.string s) es.toList).run P w= .ok res w:=by
     unfold Instr.findKey
     simp only [Sem.run_bind,run_underlying h2,Result.andThen_ok,p1,Sem.run_pure]
    have Adg: ∀w,(Instr.keyThatStays (.string s) (.string s)).run P w= .ok (.string s) w:= λw=>by
     unfold Instr.keyThatStays
     rw [show (10000:Nat)=9999+1 from rfl]
     simp only [Instr.sameBits,zN,decide_true,if_true,Sem.run_pure]
    have done: ∀(jF:Array MapEntry) (AB:Nat),(Instr.mapUpdate t (.map (some r.g)) (.string s) vx).run P w= .ok () {w with heap:=w.heap.setIfInBounds r.g (.map jF AB)} ->
      (∀e∈jF.toList,(Nb e.key).isSome=true)->(∀t,Lh jF.toList t=if t=s then some vx else Lh es.toList t)->
      ∃w',(Instr.mapUpdate t (.map (some r.g)) (.string s) vx).run P w= .ok () w'/\Al X π (st.Fo l (.Pb v' (dQ f s y))) a w':=by
     intro jF AB Pa e1 e2
     refine ⟨_,Pa,h.set hl trivial (b:= .Pb v' (dQ f s y)) (by rw [g2];exact ⟨rfl,rfl,rfl,by simp,λk hk Fa=>by simp only [Option.map_some,ne_eq,Option.some.injEq] at Fa;simp [Array.getElem?_setIfInBounds_ne (λe=>Fa e.symm)]⟩) λmv=>?_⟩
     refine ⟨r,g2,g4,g5, .inr ⟨r.g,rfl,by simpa using hg,λh=>h,jF,AB,by simp [hg],e1,λt ht=>?_,λt z hz=>?_⟩⟩
     ·rw [e2]
      unfold dQ at ht
      split at ht
      ·cases ht
      ·rename_i Fa;rw [if_neg Fa];exact q3 t ht
     ·rw [e2]
      unfold dQ at hz
      split at hz
      ·rename_i heq
       rw [if_pos heq]
       simp only [Option.some.injEq] at hz;subst hz
       exact ⟨vx,rfl,Cells.flat v' _ _ h4 hxc⟩
      ·rename_i Fa
       rw [if_neg Fa]
       obtain ⟨u,z1,z2⟩:=q4 t z hz
       exact ⟨u,z1,Cells.flat v' _ _ h4 z2⟩
    cases res with
    |none=>
     refine done (es.push {key:= .string s,val:=vx,born:=clock}) (clock+1) ?_ (λe he=>?_) λt=>?_
     ·unfold Instr.mapUpdate
      simp [run_underlying h1,bj q1,Pg h2,VJ,pc _ q1]
     ·rw [Array.toList_push] at he
      rcases List.mem_append.1 he with he|he
      ·exact q2 e he
      ·simp only [List.mem_singleton] at he;subst he;rfl
     ·rw [Array.toList_push,oB]
      simp only [Option.map_none] at p2
      by_cases oe:t=s
      ·subst oe;rw [<-p2]
      ·rw [if_neg oe]
       cases Lh es.toList t<;>simp [oe]
    |some pr=>
     obtain ⟨j,vj⟩:=pr
     obtain ⟨_,⟨e0,z1,z2⟩,z3⟩:=p3 j vj rfl
     simp only [Nat.sub_zero] at z1 z3
     refine done (es.modify j λe=> {e with key:= .string s,val:=vx}) clock ?_ (λe he=>?_) λt=>?_
     ·unfold Instr.mapUpdate
      have hj:es[j]?=some e0:=by rw [<-Array.getElem?_toList];exact z1
      simp [run_underlying h1,bj q1,Pg h2,VJ,hj,z2,Adg,pc _ q1]
     ·rw [Array.toList_modify] at he
      obtain ⟨i,hi,rfl⟩:=List.getElem_of_mem he
      rw [List.getElem_modify]
      split
      ·rfl
      ·exact q2 _ (List.getElem_mem _)
     ·rw [Array.toList_modify]
      exact iX s vx es.toList j e0 z1 z2 z3 t
   ·cases he
  ·cases he
 ·cases he
theorem HD {S:Nat->Prop} {e:Ty} {ys:List e.den} {v:Value} (h1:e.size=1) (h:Cells w S (.slice e) [v] ys):
  ∃ad c,v= .slice ad ys.length c/\ ∃cs:List Value,cs.length=ys.length/\(ys= []\/ ∃g o,ad=some ⟨g,o,none⟩/\ ∀j u,cs[j]?=some u->w.cell? ⟨g,o+j,none⟩=some u)/\(∀u∈cs,u.oneCell'=true)/\
   ∀(i:Nat) (y:e.den),ys[i]?=some y-> ∃u,cs[i]?=some u/\Cells w S e [u] y:=by
 obtain ⟨ad,c,rfl,AR⟩:=pj h
 refine ⟨ad,c,rfl,?_⟩
 rcases AR with rfl|⟨g,o,rfl,news,n1,n2,n3,_,n4⟩
 ·exact ⟨[],rfl, .inl rfl,by simp,λi y hy=>by simp at hy⟩
 ·rw [h1,Nat.mul_one] at n1
  refine ⟨news,n1, .inr ⟨g,o,rfl,n2⟩,n3,λi y hy=>?_⟩
  obtain ⟨es,q1,q2,q3⟩:=n4 i y hy
  rw [h1] at q1
  obtain ⟨u,rfl⟩:=List.length_eq_one_iff.1 q1
  have:=q2 0 u rfl
  rw [h1,Nat.mul_one,Nat.add_zero] at this
  exact ⟨u,this,q3⟩
theorem p7 {st:St} {a:Act} (h:Al X π st a w) {l:Nat} {fr tr:Bool} {e:Ty} {tid:TypeId} {xs ys:List e.den} {r:Real} {off:Nat} {cs:List Value} {cur:Array Value} {ti:TypeId} (hf:e.flat=true) (h1:e.size=1)
  (hp:π l=some r) (hl:Ad st.heap l=some (.arr fr tr e tid xs)) (c9:w.heap[r.g]?=some (.cells cur ti (0,0))) (hle:off+ys.length<=xs.length) (me:cs.length=ys.length)
  (XU: ∀(i:Nat) (y:e.den),ys[i]?=some y-> ∃u,cs[i]?=some u/\Cells w (λ_=>False) e [u] y):
  Al X π (st.Fo l (.arr fr false e tid (Bp xs off ys))) a (w.setRow r.g (Bp cur.toList (r.o+off) cs).toArray):=by
 have hb:=(h.1.heap l).Ku hl
 simp only [Aw,Fq,hp] at hb
 obtain ⟨k1,Tk,RN,k2,k3,k4,k5,k6,_⟩:=hb
 rw [c9] at k2
 simp only [Option.some.injEq,Obj.cells.injEq,and_true] at k2
 obtain ⟨rfl,rfl⟩:=k2
 rw [h1,Nat.mul_one] at k3
 have Qt:r.o+off+cs.length<=cur.toList.length:=by simp [k3];omega
 have hsl:(Bp xs off ys).length=xs.length:=Eo xs ys off hle
 refine h.set hl (b:= .arr fr false e tid (Bp xs off ys)) ⟨rfl,by omega⟩ (by rw [hp];exact Ip w r.g _) λm=>?_
 simp only [Aw,Fq,hp]
 refine ⟨k1,_,_,setRow_heap w r.g cur _ ti _ c9,by rw [List.size_toArray,Eo _ _ _ Qt,h1];simpa using k3,k4,by omega,λi x hx=>?_,λh=>by cases h⟩
 rw [Eg _ _ _ _ hle] at hx
 have Sq: ∀(u:Value) (z:e.den),Cells w (λ_=>False) e [u] z\/Cells w (Bg X.w0.heap.size X.Sc π fr) e [u] z->Cells (w.setRow r.g (Bp cur.toList (r.o+off) cs).toArray) (Bg X.w0.heap.size X.Sc π fr) e [u] z:= λu z hz=>hz.elim (Cells.flat e _ _ hf) (Cells.flat e _ _ hf)
 by_cases cT:off<=i/\i<off+ys.length
 ·rw [if_neg (by omega),if_pos cT.2] at hx
  obtain ⟨u,q1,q2⟩:=XU _ x hx
  refine ⟨[u],by simp [h1],λj u' cb=>?_,Sq u x (.inl q2)⟩
  rcases j with _|j
  ·simp only [List.getElem?_cons_zero,Option.some.injEq] at cb;subst cb
   rw [List.getElem?_toArray,Eg _ _ _ _ Qt,h1,Nat.mul_one,Nat.add_zero,if_neg (by omega),if_pos (by omega),<-q1]
   congr 1;omega
  ·simp at cb
 ·have ZG:xs[i]?=some x:=by
   by_cases h0:i<off
   ·rw [if_pos h0] at hx;exact hx
   ·rw [if_neg h0,if_neg (by omega)] at hx;exact hx
  obtain ⟨es,q1,q2,q3⟩:=k6 i x ZG
  rw [h1] at q1
  obtain ⟨u,rfl⟩:=List.length_eq_one_iff.1 q1
  refine ⟨[u],by simp [h1],λj u' cb=>?_,Sq u x (.inr q3)⟩
  rcases j with _|j
  ·simp only [List.getElem?_cons_zero,Option.some.injEq] at cb;subst cb
   have:=q2 0 u rfl
   rw [h1,Nat.mul_one,Nat.add_zero] at this
   rw [List.getElem?_toArray,Eg _ _ _ _ Qt,h1,Nat.mul_one,Nat.add_zero]
   by_cases h0:r.o+i<r.o+off
   ·rw [if_pos h0];simpa using this
   ·rw [if_neg h0,if_neg (by omega)];simpa using this
  ·simp at cb
theorem nO (hT:Ca P T) {st:St} {a:Act} (h:Al X π st a w) (t t' ty:TypeId) (x y:AV) (vx vy:Value) (hx:An X w π st.heap x vx) (hy:An X w π st.heap y vy) (av:AV) (st':St)
  (he:cI T st t t' x y=some (av,st')): ∃v' w',(Builtin.copy_ #[t,t'] ty #[vx,vy]).run P w= .ok v' w'/\Al X π st' a w'/\An X w' π st'.heap av v':=by
 unfold cI at he
 split at he
 ·rename_i l off len e iJ
  obtain ⟨te,g1,g2,g3,g4⟩:=mQ hT iJ
  split at he
  ·rename_i hc
   obtain ⟨SG,hc2,VE⟩:=hc
   split at he
   ·rename_i fr tr e' tid xs mS ys hl hv
    split at he
    ·rename_i hc4
     obtain ⟨rfl,XT⟩:=hc4
     rw [g1] at XT
     simp only [Option.some.injEq] at XT;subst XT
     simp only [Option.some.injEq,Prod.mk.injEq] at he
     obtain ⟨rfl,rfl⟩:=he
     unfold St.at at hl
     obtain ⟨h2,h3⟩:=Jh (X:=X) (w:=w) hx hl
     have hyr:=Be.Lu rfl (Rx h.1 (S:= λ_=>False) _ y vy mS ys hy hv ⟨λ_ h=>h.elim, .inr λ_ h=>h.elim⟩)
     obtain ⟨ad,c,rfl,cs,c1,c2,c3,c4⟩:=HD VE hyr
     obtain ⟨inf,hi,Oz,_⟩:=(hT.ty te e' g2).info
     have Ahq:(P.info? te).map (·.size)=some 1:=by rw [hi];simp [Oz,VE]
     have An8: ∀n:Nat,n=min len ys.length->An X w π st.heap (.at (.data true (.int .i64) ((min len ys.length:Nat):Int))) (goInt n):= λn hn=>by subst hn;exact Iy _ _ _
     have VR: ∀(w':World) (H':List (Nat×OB)) (n:Nat),n=min len ys.length->An X w' π H' (.at (.data true (.int .i64) ((min len ys.length:Nat):Int))) (goInt n):= λw' H' n hn=>by subst hn;exact Iy _ _ _
     have nothing:min len ys.length=0-> ∀v',(Builtin.copy_ #[t,t'] ty #[vx, .slice ad ys.length c]).run P w= .ok v' w->v'=goInt 0->
       ∃v' w',(Builtin.copy_ #[t,t'] ty #[vx, .slice ad ys.length c]).run P w= .ok v' w'/\Al X π (st.Fo l (.arr fr false e' te (Bp xs off (ys.take len)))) a w'/\
        An X w' π (st.Fo l (.arr fr false e' te (Bp xs off (ys.take len)))).heap (.at (.data true (.int .i64) ((min len ys.length:Nat):Int))) v':=by
      intro h0 v' hr HS
      subst HS
      have Ai7:ys.take len= []:=List.eq_nil_of_length_eq_zero (by rw [List.length_take];exact h0)
      refine ⟨_,w,hr,?_,VR _ _ 0 h0.symm⟩
      rw [Ai7]
      have LG:Bp xs off []=xs:=by simp [Bp]
      rw [LG]
      refine h.set hl (b:= .arr fr false e' te xs) ⟨rfl,Nat.le_refl _⟩ (Kg w _) λm=>?_
      have hb:=(h.1.heap l).Ku hl
      simp only [Aw,Fq] at hb⊢
      cases hp:π l with
      |none=>rw [hp] at hb;exact hb
      |some r=>
       rw [hp] at hb
       obtain ⟨k1,cur,ti,k2,k3,k4,k5,k6,_⟩:=hb
       exact ⟨k1,cur,ti,k2,k3,k4,k5,k6,λh=>by cases h⟩
     cases hp:π l with
     |none=>
      rw [hp] at h3
      obtain ⟨rfl,rfl,rfl⟩:=h3
      refine nothing (by simp) (goInt 0) ?_ rfl
      rcases c2 with c2|⟨g,o,rfl,_⟩
      ·subst c2
       cases ad<;>simp [Builtin.copy_,run_underlying g3,Builtin.lenOf,Builtin.firstCells,sizeOf,typeInfo,hi,loadCells,loadCellsFrom]
      ·simp [Builtin.copy_,run_underlying g3,Builtin.lenOf,Builtin.firstCells,sizeOf,typeInfo,hi,loadCells,loadCellsFrom]
     |some r=>
      rw [hp] at h3
      obtain ⟨adx,rfl,jG,c8⟩:=h3
      by_cases hz:min len ys.length=0
      ·refine nothing hz (goInt 0) ?_ rfl
       have hn:Nat.min ys.length len=0:=by show min ys.length len=0;omega
       cases ad<;>simp [Builtin.copy_,run_underlying g3,Builtin.lenOf,Builtin.firstCells,sizeOf,typeInfo,hi,hn,loadCells,loadCellsFrom,storeCells]
      ·rcases c2 with c2|⟨g,o,rfl,c2⟩
       ·subst c2;simp at hz
       ·have hb:=(h.1.heap l).Ku hl
        simp only [Aw,Fq,hp] at hb
        obtain ⟨k1,cur,ti,k2,k3,k4,k5,k6,_⟩:=hb
        have:=c8 (by omega)
        subst this
        rw [VE,Nat.mul_one] at k3
        have hlen:(cs.take len).length=Nat.min ys.length len:=by rw [List.length_take,c1];exact Nat.min_comm _ _
        have hr:=run_copy_row (P:=P) w t t' ty te r.g ((r.o+off)*e'.size) len (r.cap-off) ⟨g,o,none⟩ ys.length c cur ti (cs.take len) g3 Ahq k2 hlen
         (λj v hv=>by rw [Addr.add_lit];refine c2 j v ?_;rw [List.getElem?_take] at hv;split at hv;exact hv;cases hv)
         (by rw [VE,Nat.mul_one,List.length_take];omega) (λv hv=>c3 v (List.mem_of_mem_take hv))
        rw [VE,Nat.mul_one] at hr
        have LG:(cur.toList.take (r.o+off)++cs.take len++cur.toList.drop (r.o+off+(cs.take len).length))=Bp cur.toList (r.o+off) (cs.take len):=rfl
        rw [LG] at hr
        refine ⟨_,_,by rw [VE,Nat.mul_one];exact hr,p7 h hc2 VE hp hl k2 (by rw [List.length_take];omega) (by rw [List.length_take,List.length_take,c1]) (λi z hz=>?_),VR _ _ _ (by rw [hlen];exact Nat.min_comm _ _)⟩
        rw [List.getElem?_take] at hz
        split at hz
        ·rename_i mV
         obtain ⟨u,q1,q2⟩:=c4 i z hz
         exact ⟨u,by rw [List.getElem?_take,if_pos mV];exact q1,q2⟩
        ·cases hz
    ·cases he
   ·cases he
  ·cases he
 ·cases he
theorem m9 (hT:Ca P T) {st:St} {a:Act} (h:Al X π st a w) (t ty:TypeId) (x:AV) (vx:Value) (hx:An X w π st.heap x vx) (st':St)
  (he:evalClear T st t x=some st'): ∃v' w',(Builtin.clear_ #[t] ty #[vx]).run P w= .ok v' w'/\Al X π st' a w':=by
 unfold evalClear at he
 split at he
 ·rename_i l off len e iJ
  obtain ⟨te,g1,g2,g3,g4⟩:=mQ hT iJ
  split at he
  ·rename_i hc
   obtain ⟨hc2,hz⟩:=hc
   split at he
   ·rename_i fr tr e' tid xs hl
    split at he
    ·rename_i hc4
     obtain ⟨rfl,XT⟩:=hc4
     rw [g1] at XT
     simp only [Option.some.injEq] at XT;subst XT
     simp only [Option.some.injEq] at he;subst he
     unfold St.at at hl
     obtain ⟨h2,h3⟩:=Jh (X:=X) (w:=w) hx hl
     obtain ⟨z,z1,z2,z3,z4,z5⟩:=(show ∃z,Aq e'= [z]/\e'.Ab=false/\e'.size=1/\Cells w (λ_=>False) e' [z] e'.zero/\z.oneCell'=true from by
      cases e'<;>simp [gY] at hz<;>try (simp [Ty.flat] at hc2;done)
      ·exact ⟨_,rfl,rfl,rfl,rfl,rfl⟩
      ·exact ⟨_,rfl,rfl,rfl,rfl,rfl⟩
      ·exact ⟨_,rfl,rfl,rfl,rfl,rfl⟩)
     obtain ⟨inf,hi,Oz,_,o7⟩:=(hT.ty te e' g2).info
     have VS:As e' (Aq e')=z:=by simp [As,z1,z2]
     have ND:z.cells= #[z]:=by
      have:=Gk e' _ _ (z1▸z4:Cells w _ e' (Aq e') e'.zero)
      rw [VS,z1] at this;exact this
     by_cases h0:len=0
     ·subst h0
      have LG:Bp xs off (List.replicate 0 e'.zero)=xs:=by simp [Bp]
      rw [LG]
      have hv: ∃ad c,vx= .slice ad 0 c:=by
       cases hp:π l with
       |none=>rw [hp] at h3;obtain ⟨rfl,_⟩:=h3;exact ⟨_,_,rfl⟩
       |some r=>rw [hp] at h3;obtain ⟨ad,rfl,_⟩:=h3;exact ⟨_,_,rfl⟩
      obtain ⟨ad,c,rfl⟩:=hv
      refine ⟨.tuple #[],w,by cases ad<;>simp [Builtin.clear_,run_underlying g3],?_⟩
      refine h.set hl (b:= .arr fr false e' te xs) ⟨rfl,Nat.le_refl _⟩ (Kg w _) λm=>?_
      have hb:=(h.1.heap l).Ku hl
      simp only [Aw,Fq] at hb⊢
      cases hp:π l with
      |none=>rw [hp] at hb;exact hb
      |some r=>
       rw [hp] at hb
       obtain ⟨k1,cur,ti,k2,k3,k4,k5,k6,_⟩:=hb
       exact ⟨k1,cur,ti,k2,k3,k4,k5,k6,λh=>by cases h⟩
     ·cases hp:π l with
      |none=>rw [hp] at h3;obtain ⟨_,_,h3⟩:=h3;exact absurd h3 h0
      |some r=>
       rw [hp] at h3
       obtain ⟨adx,rfl,jG,c8⟩:=h3
       have hb:=(h.1.heap l).Ku hl
       simp only [Aw,Fq,hp] at hb
       obtain ⟨k1,cur,ti,k2,k3,k4,k5,k6,_⟩:=hb
       have:=c8 (by omega)
       subst this
       rw [z3,Nat.mul_one] at k3
       have Tx:=run_storeCells_at P r.g (r.o+off) ti (List.replicate len z) 0 cur w k2 (by simp;omega) (λv hv=>by rw [List.eq_of_mem_replicate hv];exact z5)
       simp only [Nat.add_zero] at Tx
       have hzl:(Builtin.zeroCells #[z] len).toList=List.replicate len z:=by
        apply List.ext_getElem
        ·simp [Builtin.zeroCells]
        ·intro i h1 h2
         simp [Builtin.zeroCells,Nat.mod_one]
       refine ⟨.tuple #[],_,?_,p7 (ys:=List.replicate len e'.zero) (cs:=List.replicate len z) h hc2 z3 hp hl k2 (by simp;omega) (by simp) (λi y hy=>?_)⟩
       ·obtain ⟨n,rfl⟩: ∃n,len=n+1:=⟨len-1,by omega⟩
        rw [z3,Nat.mul_one]
        simp only [Builtin.clear_]
        simp [run_underlying g3,zeroValue,typeInfo,hi,o7,VS,ND,hzl,Tx,Bp]
       ·have mV:=(List.getElem?_eq_some_iff.1 hy).1
        simp at mV
        have:=List.mem_of_getElem? hy
        rw [List.eq_of_mem_replicate this]
        exact ⟨z,by simp [mV],z4⟩
    ·cases he
   ·cases he
  ·cases he
 ·cases he
end
end Go.Proofs.YtfolipnappekaaaGreat
