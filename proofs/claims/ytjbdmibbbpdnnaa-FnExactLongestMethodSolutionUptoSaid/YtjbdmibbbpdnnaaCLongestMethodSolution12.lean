/-
  Part 13 of the proof that the statement FnExactLongestMethodSolution holds.
-/
import Derived.Test.YtjbdmibbbpdnnaaCLongestMethodSolution11
import Derived.MapKept
namespace Go.Proofs.Ytjbdmibbbpdnnaa
open Go.RowKit
section
variable {P:Program} {T:Tab} {X:Ctx} {w w':World} {π:Pi} {H:List (Nat×OB)}
theorem gC (hT:Cd P T) {st:St} {a:Act} (h:Ai X π st a w) (dst:Nat) (t:TypeId) (av:AV) (st':St) (he:Np T st dst t=some (av,st')):
  ∃v' w' π',(Instr.makeMap t none).run P w= .ok v' w'/\Ai X π' st' a w'/\Ao X w' π' st'.heap av v':=by
 unfold Np at he
 split at he
 ·rename_i v ht
  split at he
  ·rename_i hp
   simp only [Option.some.injEq,Prod.mk.injEq] at he
   obtain ⟨rfl,rfl⟩:=he
   obtain ⟨k,e,h1,h2,h3,h4,h5⟩:=hT.mapOf t v ht
   have dN:(w.alloc (.map #[] 0)).heap[w.heap.size]?=some (.map #[] 0):=heap_alloc_new w _
   refine ⟨.map (some w.heap.size),w.alloc (.map #[] 0),_,rfl,h.replace dst hp (some (Real.one w.heap.size 0 0)) _ (World.grownBy_alloc w _ _) (λr hr=>by cases hr;exact ⟨rfl, .inr (Nat.le_refl _),Dc dN⟩) λm=>?_,?_⟩
   ·refine ⟨_,rfl,rfl,⟨h4,h5⟩, .inr ⟨_,rfl,Dc dN,λh=>h, #[],0,dN,by simp,λ_ _=>rfl,λs y hy=>by cases hy⟩⟩
   ·exact ⟨_,v,_,St.Dp st dst _,Df _ _ _,rfl⟩
  ·cases he
 ·cases he
theorem qd {e:MapEntry} {t:ByteArray} (h:e.key= .string t) (r:List MapEntry):Kz (e::r) t=some e.val:=by
 unfold Kz;rw [if_pos (by rw [h];rfl)]
theorem Nh {e:MapEntry} {t:ByteArray} (h:Mm e.key≠some t) (r:List MapEntry):Kz (e::r) t=Kz r t:=by
 rw [Kz,if_neg h]
theorem jD {s t:ByteArray} (h:t≠s):Mm (.string s)≠some t:=by
 simp only [Mm,ne_eq,Option.some.injEq];exact λe=>h e.symm
theorem gW (s:ByteArray) (x:Value): ∀(es:List MapEntry) (j:Nat) (e:MapEntry),es[j]?=some e->e.key= .string s->(∀k e,k<j->es[k]?=some e->Mm e.key≠some s)->
  ∀t,Kz (es.modify j λe=> {e with key:= .string s,val:=x}) t=if t=s then some x else Kz es t
 | [],j,e,h,_,_,_=>by simp at h
 |a::r,0,e,h,hk,_,t=>by
  simp only [List.getElem?_cons_zero,Option.some.injEq] at h
  subst h
  simp only [List.modify_zero_cons]
  by_cases oK:t=s
  ·subst oK;rw [qd rfl,if_pos rfl]
  ·rw [Nh (jD oK),if_neg oK,Nh (by rw [hk];exact jD oK)]
 |a::r,j+1,e,h,hk,hf,t=>by
  simp only [List.modify_succ_cons]
  have ih:=gW s x r j e (by simpa using h) hk (λk e hk he=>hf (k+1) e (by omega) (by simpa using he)) t
  have h0:=hf 0 a (by omega) rfl
  by_cases ha:Mm a.key=some t
  ·have:t≠s:= λe=>h0 (e▸ha)
   rw [if_neg this]
   simp only [Kz,if_pos ha]
  ·rw [Nh ha,Nh ha,ih]
theorem mE (s:ByteArray) (x:Value) (b:Nat): ∀(es:List MapEntry) (t:ByteArray),Kz (es++ [{key:= .string s,val:=x,born:=b}]) t=match Kz es t with|some v=>some v|none=>if t=s then some x else none
 | [],t=>by
  simp only [List.nil_append]
  by_cases oK:t=s
  ·subst oK;rw [qd rfl];simp [Kz]
  ·rw [Nh (jD oK)];simp [Kz,oK]
 |a::r,t=>by
  simp only [List.cons_append]
  by_cases ha:Mm a.key=some t
  ·simp only [Kz,if_pos ha]
  ·rw [Nh ha,Nh ha];exact mE s x b r t
theorem nq {r:Nat} {es:Array MapEntry} {clock:Nat} (o:Obj) (hb:w.heap[r]?=some (.map es clock)):(setObj r o).run P w= .ok () {w with heap:=w.heap.setIfInBounds r o} :=by simp [setObj,Sem.run,hb]
theorem Xm (hT:Cd P T) {st:St} {a:Act} (h:Ai X π st a w) (t:TypeId) (m k x:AV) (vm vk vx:Value) (hm:Ao X w π st.heap m vm) (hk:Ao X w π st.heap k vk) (hx:Ao X w π st.heap x vx) (st':St)
  (he:Et T st t m k x=some st'): ∃w',(Instr.mapUpdate t vm vk vx).run P w= .ok () w'/\Ai X π st' a w':=by
 unfold Et at he
 split at he
 ·rename_i v l fr s ht
  have:=ab hk;subst this
  obtain ⟨kt,et,h1,h2,h3,h4,h5⟩:=hT.mapOf t v ht
  split at he
  ·rename_i v' f lh y hl hv
   split at he
   ·rename_i hc
    obtain ⟨rfl,_,_⟩:=hc
    simp only [Option.some.injEq] at he;subst he
    unfold St.at at hl
    obtain ⟨r,vt,mm,g1,g2,rfl⟩:=hm
    obtain ⟨r',g3,g4,g5,g6⟩:=(h.1.heap l).Mc hl
    rw [g2] at g3;cases g3
    simp only [Cells] at g6
    rcases g6 with ⟨g6,_⟩|⟨g,g6,hg,_,es,clock,q1,q2,q3,q4⟩
    ·simp at g6
    simp only [List.cons.injEq,Value.map.injEq,Option.some.injEq,and_true] at g6
    subst g6
    have hr:=Qr h.1 (S:= λ_=>False) v' x vx lh y hx hv ⟨λ_ h=>h.elim, .inr λ_ h=>h.elim⟩
    have hxc:Cells w (λ_=>False) v' [vx] y:=Bc.Lm h5 hr
    obtain ⟨res,p1,p2,p3⟩:=bS s es.toList 0 q2
    have zZ:(Instr.findKey kt (.string s) es.toList).run P w= .ok res w:=by
     unfold Instr.findKey
     simp only [Sem.run_bind,run_underlying h2,Result.andThen_ok,p1,Sem.run_pure]
    have ZZ: ∀w,(Instr.keyThatStays (.string s) (.string s)).run P w= .ok (.string s) w:= λw=>by
     unfold Instr.keyThatStays
     rw [show (10000:Nat)=9999+1 from rfl]
     simp only [Instr.sameBits,xr,decide_true,if_true,Sem.run_pure]
    have done: ∀(iF:Array MapEntry) (xF:Nat),(Instr.mapUpdate t (.map (some r.g)) (.string s) vx).run P w= .ok () {w with heap:=w.heap.setIfInBounds r.g (.map iF xF)} ->
      (∀e∈iF.toList,(Mm e.key).isSome=true)->(∀t,Kz iF.toList t=if t=s then some vx else Kz es.toList t)->
      ∃w',(Instr.mapUpdate t (.map (some r.g)) (.string s) vx).run P w= .ok () w'/\Ai X π (st.Ga l (.Oh v' (aB f s y))) a w':=by
     intro iF xF Of e1 e2
     refine ⟨_,Of,h.set hl trivial (b:= .Oh v' (aB f s y)) (by rw [g2];exact ⟨rfl,rfl,rfl,by simp,λk hk Er=>by simp only [Option.map_some,ne_eq,Option.some.injEq] at Er;simp [Array.getElem?_setIfInBounds_ne (λe=>Er e.symm)]⟩) λmv=>?_⟩
     refine ⟨r,g2,g4,g5, .inr ⟨r.g,rfl,by simpa using hg,λh=>h,iF,xF,by simp [hg],e1,λt ht=>?_,λt z hz=>?_⟩⟩
     ·rw [e2]
      unfold aB at ht
      split at ht
      ·cases ht
      ·rename_i Er;rw [if_neg Er];exact q3 t ht
     ·rw [e2]
      unfold aB at hz
      split at hz
      ·rename_i heq
       rw [if_pos heq]
       simp only [Option.some.injEq] at hz;subst hz
       exact ⟨vx,rfl,Cells.flat v' _ _ h4 hxc⟩
      ·rename_i Er
       rw [if_neg Er]
       obtain ⟨u,z1,z2⟩:=q4 t z hz
       exact ⟨u,z1,Cells.flat v' _ _ h4 z2⟩
    cases res with
    |none=>
     refine done (es.push {key:= .string s,val:=vx,born:=clock}) (clock+1) ?_ (λe he=>?_) λt=>?_
     ·unfold Instr.mapUpdate
      simp [run_underlying h1,aj q1,Om h2,zZ,nq _ q1]
     ·rw [Array.toList_push] at he
      rcases List.mem_append.1 he with he|he
      ·exact q2 e he
      ·simp only [List.mem_singleton] at he;subst he;rfl
     ·rw [Array.toList_push,mE]
      simp only [Option.map_none] at p2
      by_cases oK:t=s
      ·subst oK;rw [<-p2]
      ·rw [if_neg oK]
       cases Kz es.toList t<;>simp [oK]
    |some pr=>
     obtain ⟨j,vj⟩:=pr
     obtain ⟨_,⟨e0,z1,z2⟩,z3⟩:=p3 j vj rfl
     simp only [Nat.sub_zero] at z1 z3
     refine done (es.modify j λe=> {e with key:= .string s,val:=vx}) clock ?_ (λe he=>?_) λt=>?_
     ·unfold Instr.mapUpdate
      have hj:es[j]?=some e0:=by rw [<-Array.getElem?_toList];exact z1
      simp [run_underlying h1,aj q1,Om h2,zZ,hj,z2,ZZ,nq _ q1]
     ·rw [Array.toList_modify] at he
      obtain ⟨i,hi,rfl⟩:=List.getElem_of_mem he
      rw [List.getElem_modify]
      split
      ·rfl
      ·exact q2 _ (List.getElem_mem _)
     ·rw [Array.toList_modify]
      exact gW s vx es.toList j e0 z1 z2 z3 t
   ·cases he
  ·cases he
 ·cases he
theorem BT {S:Nat->Prop} {e:Ty} {ys:List e.den} {v:Value} (h1:e.size=1) (h:Cells w S (.slice e) [v] ys):
  ∃ad c,v= .slice ad ys.length c/\ ∃cs:List Value,cs.length=ys.length/\(ys= []\/ ∃g o,ad=some ⟨g,o,none⟩/\ ∀j u,cs[j]?=some u->w.cell? ⟨g,o+j,none⟩=some u)/\(∀u∈cs,u.oneCell'=true)/\
   ∀(i:Nat) (y:e.den),ys[i]?=some y-> ∃u,cs[i]?=some u/\Cells w S e [u] y:=by
 obtain ⟨ad,c,rfl,xV⟩:=nw h
 refine ⟨ad,c,rfl,?_⟩
 rcases xV with rfl|⟨g,o,rfl,news,n1,n2,n3,_,n4⟩
 ·exact ⟨[],rfl, .inl rfl,by simp,λi y hy=>by simp at hy⟩
 ·rw [h1,Nat.mul_one] at n1
  refine ⟨news,n1, .inr ⟨g,o,rfl,n2⟩,n3,λi y hy=>?_⟩
  obtain ⟨es,q1,q2,q3⟩:=n4 i y hy
  rw [h1] at q1
  obtain ⟨u,rfl⟩:=List.length_eq_one_iff.1 q1
  have:=q2 0 u rfl
  rw [h1,Nat.mul_one,Nat.add_zero] at this
  exact ⟨u,this,q3⟩
theorem nj {st:St} {a:Act} (h:Ai X π st a w) {l:Nat} {fr tr:Bool} {e:Ty} {tid:TypeId} {xs ys:List e.den} {r:Real} {off:Nat} {cs:List Value} {cur:Array Value} {ti:TypeId} (hf:e.flat=true) (h1:e.size=1)
  (hp:π l=some r) (hl:Ae st.heap l=some (.arr fr tr e tid xs)) (bl:w.heap[r.g]?=some (.cells cur ti (0,0))) (hle:off+ys.length<=xs.length) (rH:cs.length=ys.length)
  (TA: ∀(i:Nat) (y:e.den),ys[i]?=some y-> ∃u,cs[i]?=some u/\Cells w (λ_=>False) e [u] y):
  Ai X π (st.Ga l (.arr fr false e tid (Bg xs off ys))) a (w.setRow r.g (Bg cur.toList (r.o+off) cs).toArray):=by
 have hb:=(h.1.heap l).Mc hl
 simp only [Au,Fk,hp] at hb
 obtain ⟨k1,Sw,MJ,k2,k3,k4,k5,k6,_⟩:=hb
 rw [bl] at k2
 simp only [Option.some.injEq,Obj.cells.injEq,and_true] at k2
 obtain ⟨rfl,rfl⟩:=k2
 rw [h1,Nat.mul_one] at k3
 have Qb:r.o+off+cs.length<=cur.toList.length:=by simp [k3];omega
 have hsl:(Bg xs off ys).length=xs.length:=Eo xs ys off hle
 refine h.set hl (b:= .arr fr false e tid (Bg xs off ys)) ⟨rfl,by omega⟩ (by rw [hp];exact Ii w r.g _) λm=>?_
 simp only [Au,Fk,hp]
 refine ⟨k1,_,_,setRow_heap w r.g cur _ ti _ bl,by rw [List.size_toArray,Eo _ _ _ Qb,h1];simpa using k3,k4,by omega,λi x hx=>?_,λh=>by cases h⟩
 rw [Ef _ _ _ _ hle] at hx
 have Ro: ∀(u:Value) (z:e.den),Cells w (λ_=>False) e [u] z\/Cells w (Bd X.w0.heap.size X.Sc π fr) e [u] z->Cells (w.setRow r.g (Bg cur.toList (r.o+off) cs).toArray) (Bd X.w0.heap.size X.Sc π fr) e [u] z:= λu z hz=>hz.elim (Cells.flat e _ _ hf) (Cells.flat e _ _ hf)
 by_cases Oj:off<=i/\i<off+ys.length
 ·rw [if_neg (by omega),if_pos Oj.2] at hx
  obtain ⟨u,q1,q2⟩:=TA _ x hx
  refine ⟨[u],by simp [h1],λj u' bn=>?_,Ro u x (.inl q2)⟩
  rcases j with _|j
  ·simp only [List.getElem?_cons_zero,Option.some.injEq] at bn;subst bn
   rw [List.getElem?_toArray,Ef _ _ _ _ Qb,h1,Nat.mul_one,Nat.add_zero,if_neg (by omega),if_pos (by omega),<-q1]
   congr 1;omega
  ·simp at bn
 ·have UK:xs[i]?=some x:=by
   by_cases h0:i<off
   ·rw [if_pos h0] at hx;exact hx
   ·rw [if_neg h0,if_neg (by omega)] at hx;exact hx
  obtain ⟨es,q1,q2,q3⟩:=k6 i x UK
  rw [h1] at q1
  obtain ⟨u,rfl⟩:=List.length_eq_one_iff.1 q1
  refine ⟨[u],by simp [h1],λj u' bn=>?_,Ro u x (.inr q3)⟩
  rcases j with _|j
  ·simp only [List.getElem?_cons_zero,Option.some.injEq] at bn;subst bn
   have:=q2 0 u rfl
   rw [h1,Nat.mul_one,Nat.add_zero] at this
   rw [List.getElem?_toArray,Ef _ _ _ _ Qb,h1,Nat.mul_one,Nat.add_zero]
   by_cases h0:r.o+i<r.o+off
   ·rw [if_pos h0];simpa using this
   ·rw [if_neg h0,if_neg (by omega)];simpa using this
  ·simp at bn
theorem lW (hT:Cd P T) {st:St} {a:Act} (h:Ai X π st a w) (t t' ty:TypeId) (x y:AV) (vx vy:Value) (hx:Ao X w π st.heap x vx) (hy:Ao X w π st.heap y vy) (av:AV) (st':St)
  (he:bQ T st t t' x y=some (av,st')): ∃v' w',(Builtin.copy_ #[t,t'] ty #[vx,vy]).run P w= .ok v' w'/\Ai X π st' a w'/\Ao X w' π st'.heap av v':=by
 unfold bQ at he
 split at he
 ·rename_i l off len e ee
  obtain ⟨te,g1,g2,g3,g4⟩:=lf hT ee
  split at he
  ·rename_i hc
   obtain ⟨NK,WT,QU⟩:=hc
   split at he
   ·rename_i fr tr e' tid xs lh ys hl hv
    split at he
    ·rename_i hc4
     obtain ⟨rfl,SZ⟩:=hc4
     rw [g1] at SZ
     simp only [Option.some.injEq] at SZ;subst SZ
     simp only [Option.some.injEq,Prod.mk.injEq] at he
     obtain ⟨rfl,rfl⟩:=he
     unfold St.at at hl
     obtain ⟨h2,h3⟩:=Jf (X:=X) (w:=w) hx hl
     have hyr:=Bc.Lm rfl (Qr h.1 (S:= λ_=>False) _ y vy lh ys hy hv ⟨λ_ h=>h.elim, .inr λ_ h=>h.elim⟩)
     obtain ⟨ad,c,rfl,cs,c1,c2,c3,c4⟩:=BT QU hyr
     obtain ⟨inf,hi,Oe,_⟩:=(hT.ty te e' g2).info
     have Aes:(P.info? te).map (·.size)=some 1:=by rw [hi];simp [Oe,QU]
     have ZC: ∀n:Nat,n=min len ys.length->Ao X w π st.heap (.at (.data true (.int .i64) ((min len ys.length:Nat):Int))) (goInt n):= λn hn=>by subst hn;exact Iy _ _ _
     have RJ: ∀(w':World) (H':List (Nat×OB)) (n:Nat),n=min len ys.length->Ao X w' π H' (.at (.data true (.int .i64) ((min len ys.length:Nat):Int))) (goInt n):= λw' H' n hn=>by subst hn;exact Iy _ _ _
     have nothing:min len ys.length=0-> ∀v',(Builtin.copy_ #[t,t'] ty #[vx, .slice ad ys.length c]).run P w= .ok v' w->v'=goInt 0->
       ∃v' w',(Builtin.copy_ #[t,t'] ty #[vx, .slice ad ys.length c]).run P w= .ok v' w'/\Ai X π (st.Ga l (.arr fr false e' te (Bg xs off (ys.take len)))) a w'/\
        Ao X w' π (st.Ga l (.arr fr false e' te (Bg xs off (ys.take len)))).heap (.at (.data true (.int .i64) ((min len ys.length:Nat):Int))) v':=by
      intro h0 v' hr rS
      subst rS
      have Afc:ys.take len= []:=List.eq_nil_of_length_eq_zero (by rw [List.length_take];exact h0)
      refine ⟨_,w,hr,?_,RJ _ _ 0 h0.symm⟩
      rw [Afc]
      have IG:Bg xs off []=xs:=by simp [Bg]
      rw [IG]
      refine h.set hl (b:= .arr fr false e' te xs) ⟨rfl,Nat.le_refl _⟩ (Jw w _) λm=>?_
      have hb:=(h.1.heap l).Mc hl
      simp only [Au,Fk] at hb⊢
      cases hp:π l with
      |none=>rw [hp] at hb;exact hb
      |some r=>
       rw [hp] at hb
       obtain ⟨k1,cur,ti,k2,k3,k4,k5,k6,_⟩:=hb
       exact ⟨k1,cur,ti,k2,k3,k4,k5,k6,λh=>by cases h⟩
     cases hp:π l with
     |none=>
      rw [hp] at h3
      obtain ⟨rfl,rfl,rfl⟩:=h3
      refine nothing (by simp) (goInt 0) ?_ rfl
      rcases c2 with c2|⟨g,o,rfl,_⟩
      ·subst c2
       cases ad<;>simp [Builtin.copy_,run_underlying g3,Builtin.lenOf,Builtin.firstCells,sizeOf,typeInfo,hi,loadCells,loadCellsFrom]
      ·simp [Builtin.copy_,run_underlying g3,Builtin.lenOf,Builtin.firstCells,sizeOf,typeInfo,hi,loadCells,loadCellsFrom]
     |some r=>
      rw [hp] at h3
      obtain ⟨adx,rfl,jW,eb⟩:=h3
      by_cases hz:min len ys.length=0
      ·refine nothing hz (goInt 0) ?_ rfl
       have hn:Nat.min ys.length len=0:=by show min ys.length len=0;omega
       cases ad<;>simp [Builtin.copy_,run_underlying g3,Builtin.lenOf,Builtin.firstCells,sizeOf,typeInfo,hi,hn,loadCells,loadCellsFrom,storeCells]
      ·rcases c2 with c2|⟨g,o,rfl,c2⟩
       ·subst c2;simp at hz
       ·have hb:=(h.1.heap l).Mc hl
        simp only [Au,Fk,hp] at hb
        obtain ⟨k1,cur,ti,k2,k3,k4,k5,k6,_⟩:=hb
        have:=eb (by omega)
        subst this
        rw [QU,Nat.mul_one] at k3
        have hlen:(cs.take len).length=Nat.min ys.length len:=by rw [List.length_take,c1];exact Nat.min_comm _ _
        have hr:=run_copy_row (P:=P) w t t' ty te r.g ((r.o+off)*e'.size) len (r.cap-off) ⟨g,o,none⟩ ys.length c cur ti (cs.take len) g3 Aes k2 hlen
         (λj v hv=>by rw [Addr.add_lit];refine c2 j v ?_;rw [List.getElem?_take] at hv;split at hv;exact hv;cases hv)
         (by rw [QU,Nat.mul_one,List.length_take];omega) (λv hv=>c3 v (List.mem_of_mem_take hv))
        rw [QU,Nat.mul_one] at hr
        have IG:(cur.toList.take (r.o+off)++cs.take len++cur.toList.drop (r.o+off+(cs.take len).length))=Bg cur.toList (r.o+off) (cs.take len):=rfl
        rw [IG] at hr
        refine ⟨_,_,by rw [QU,Nat.mul_one];exact hr,nj h WT QU hp hl k2 (by rw [List.length_take];omega) (by rw [List.length_take,List.length_take,c1]) (λi z hz=>?_),RJ _ _ _ (by rw [hlen];exact Nat.min_comm _ _)⟩
        rw [List.getElem?_take] at hz
        split at hz
        ·rename_i gM
         obtain ⟨u,q1,q2⟩:=c4 i z hz
         exact ⟨u,by rw [List.getElem?_take,if_pos gM];exact q1,q2⟩
        ·cases hz
    ·cases he
   ·cases he
  ·cases he
 ·cases he
theorem kQ (hT:Cd P T) {st:St} {a:Act} (h:Ai X π st a w) (t ty:TypeId) (x:AV) (vx:Value) (hx:Ao X w π st.heap x vx) (st':St)
  (he:evalClear T st t x=some st'): ∃v' w',(Builtin.clear_ #[t] ty #[vx]).run P w= .ok v' w'/\Ai X π st' a w':=by
 unfold evalClear at he
 split at he
 ·rename_i l off len e ee
  obtain ⟨te,g1,g2,g3,g4⟩:=lf hT ee
  split at he
  ·rename_i hc
   obtain ⟨WT,hz⟩:=hc
   split at he
   ·rename_i fr tr e' tid xs hl
    split at he
    ·rename_i hc4
     obtain ⟨rfl,SZ⟩:=hc4
     rw [g1] at SZ
     simp only [Option.some.injEq] at SZ;subst SZ
     simp only [Option.some.injEq] at he;subst he
     unfold St.at at hl
     obtain ⟨h2,h3⟩:=Jf (X:=X) (w:=w) hx hl
     obtain ⟨z,z1,z2,z3,z4,z5⟩:=(show ∃z,Aq e'= [z]/\e'.Ac=false/\e'.size=1/\Cells w (λ_=>False) e' [z] e'.zero/\z.oneCell'=true from by
      cases e'<;>simp [gb] at hz<;>try (simp [Ty.flat] at WT;done)
      ·exact ⟨_,rfl,rfl,rfl,rfl,rfl⟩
      ·exact ⟨_,rfl,rfl,rfl,rfl,rfl⟩
      ·exact ⟨_,rfl,rfl,rfl,rfl,rfl⟩)
     obtain ⟨inf,hi,Oe,_,mi⟩:=(hT.ty te e' g2).info
     have RK:Ar e' (Aq e')=z:=by simp [Ar,z1,z2]
     have II:z.cells= #[z]:=by
      have:=Gj e' _ _ (z1▸z4:Cells w _ e' (Aq e') e'.zero)
      rw [RK,z1] at this;exact this
     by_cases h0:len=0
     ·subst h0
      have IG:Bg xs off (List.replicate 0 e'.zero)=xs:=by simp [Bg]
      rw [IG]
      have hv: ∃ad c,vx= .slice ad 0 c:=by
       cases hp:π l with
       |none=>rw [hp] at h3;obtain ⟨rfl,_⟩:=h3;exact ⟨_,_,rfl⟩
       |some r=>rw [hp] at h3;obtain ⟨ad,rfl,_⟩:=h3;exact ⟨_,_,rfl⟩
      obtain ⟨ad,c,rfl⟩:=hv
      refine ⟨.tuple #[],w,by cases ad<;>simp [Builtin.clear_,run_underlying g3],?_⟩
      refine h.set hl (b:= .arr fr false e' te xs) ⟨rfl,Nat.le_refl _⟩ (Jw w _) λm=>?_
      have hb:=(h.1.heap l).Mc hl
      simp only [Au,Fk] at hb⊢
      cases hp:π l with
      |none=>rw [hp] at hb;exact hb
      |some r=>
       rw [hp] at hb
       obtain ⟨k1,cur,ti,k2,k3,k4,k5,k6,_⟩:=hb
       exact ⟨k1,cur,ti,k2,k3,k4,k5,k6,λh=>by cases h⟩
     ·cases hp:π l with
      |none=>rw [hp] at h3;obtain ⟨_,_,h3⟩:=h3;exact absurd h3 h0
      |some r=>
       rw [hp] at h3
       obtain ⟨adx,rfl,jW,eb⟩:=h3
       have hb:=(h.1.heap l).Mc hl
       simp only [Au,Fk,hp] at hb
       obtain ⟨k1,cur,ti,k2,k3,k4,k5,k6,_⟩:=hb
       have:=eb (by omega)
       subst this
       rw [z3,Nat.mul_one] at k3
       have Og:=run_storeCells_at P r.g (r.o+off) ti (List.replicate len z) 0 cur w k2 (by simp;omega) (λv hv=>by rw [List.eq_of_mem_replicate hv];exact z5)
       simp only [Nat.add_zero] at Og
       have hzl:(Builtin.zeroCells #[z] len).toList=List.replicate len z:=by
        apply List.ext_getElem
        ·simp [Builtin.zeroCells]
        ·intro i h1 h2
         simp [Builtin.zeroCells,Nat.mod_one]
       refine ⟨.tuple #[],_,?_,nj (ys:=List.replicate len e'.zero) (cs:=List.replicate len z) h WT z3 hp hl k2 (by simp;omega) (by simp) (λi y hy=>?_)⟩
       ·obtain ⟨n,rfl⟩: ∃n,len=n+1:=⟨len-1,by omega⟩
        rw [z3,Nat.mul_one]
        simp only [Builtin.clear_]
        simp [run_underlying g3,zeroValue,typeInfo,hi,mi,RK,II,hzl,Og,Bg]
       ·have gM:=(List.getElem?_eq_some_iff.1 hy).1
        simp at gM
        have:=List.mem_of_getElem? hy
        rw [List.eq_of_mem_replicate this]
        exact ⟨z,by simp [gM],z4⟩
    ·cases he
   ·cases he
  ·cases he
 ·cases he
end
end Go.Proofs.Ytjbdmibbbpdnnaa
