/-
  Part 26 of the proof that the statement FnExactProvesNoSolutionWithin holds.
-/
import Derived.Test.YtfolipnappekaaaGreatCProvesNoSolutionWithin24
namespace Go.Proofs.YtfolipnappekaaaGreat
open Go.RowKit
section
variable {P:Program} {T:Tab} {Γ:Env} {X:Ctx} {w w':World} {π:Pi}
theorem au (live:List Nat): ∀(i:Nat) (l:List AV),(Gb live i l).length=l.length
 |_,[]=>rfl
 |i,v::r=>by simp [Gb,au live (i+1) r]
theorem dq (live:List Nat): ∀(i:Nat) (l:List AV) (t:Nat),(Gb live i l).getD t .undef= .undef\/(Gb live i l).getD t .undef=l.getD t .undef
 |_,[],t=> .inr rfl
 |i,v::r,0=>by
  simp only [Gb,List.getD_cons_zero]
  split
  ·exact .inr rfl
  ·exact .inl rfl
 |i,v::r,t+1=>by
  simp only [Gb,List.getD_cons_succ]
  exact dq live (i+1) r t
theorem gH: ∀(l:List Nat) (st:St) (a:Act) (w:World),Rel X st a w->Rel X (aE l st) a w
 | [],_,_,_,h=>h
 |k::r,_,a,w,⟨_,h⟩=>gH r _ a w ⟨_,h.forget k⟩
def Xx (π:Pi) (l k:Nat):Pi:= λm=>if m=k then π l else if m=l then none else π m
theorem RO {st:St} {l k:Nat} {b:OB} (hk:Ad st.heap k=none) (hl:Ad st.heap l=some b):
  Ad (Jt (Vo (st.heap.map λp=>(p.1,p.2.map (Qa l k))) l) k (b.map (Qa l k))) k=some (b.map (Qa l k))/\
  Ad (Jt (Vo (st.heap.map λp=>(p.1,p.2.map (Qa l k))) l) k (b.map (Qa l k))) l=none/\
  ∀m,m≠k->m≠l->Ad (Jt (Vo (st.heap.map λp=>(p.1,p.2.map (Qa l k))) l) k (b.map (Qa l k))) m=(Ad st.heap m).map (OB.map (Qa l k)):=by
 have Ek:l≠k:= λe=>by subst e;rw [hk] at hl;cases hl
 refine ⟨Lm _ _ _ ?_,?_,λm h1 h2=>?_⟩
 ·rw [Jd _ _ _ Ek.symm,Kd,hk];rfl
 ·rw [Km _ _ _ _ Ek,Hy]
 ·rw [Km _ _ _ _ h1,Jd _ _ _ h2,Kd]
theorem Move.ren {st:St} {l k:Nat} {b:OB} {H':List (Nat×OB)} (hk:Ad st.heap k=none) (hl:Ad st.heap l=some b) (e1:Ad H' k=some (b.map (Qa l k))) (_e2:Ad H' l=none)
  (e3: ∀m,m≠k->m≠l->Ad H' m=(Ad st.heap m).map (OB.map (Qa l k))) (aK: ∀c,Qj (Xx π l k) c->Qj π c):Move X w w π (Xx π l k) st.heap H' (Qa l k):=by
 have Ek:l≠k:= λe=>by subst e;rw [hk] at hl;cases hl
 have hc: ∀fr τ cs x,Cells w (Bj X.w0.heap.size X.Sc π fr) τ cs x->Cells w (Bj X.w0.heap.size X.Sc (Xx π l k) fr) τ cs x:=
  fun fr τ cs x h=>Cells.Cn (Nat.le_refl _) (λ_ _ _=>rfl) (λc _ hA=>hA.imp (aK c) id) τ cs x h
 have Vu: ∀m c,Ad st.heap m=some c->Ad H' (m9 l k m)=some (c.map (Qa l k))/\Xx π l k (m9 l k m)=π m:=by
  intro m c hm
  unfold m9
  by_cases e:m=l
  ·subst e
   rw [hl] at hm;cases hm
   rw [if_pos rfl]
   exact ⟨e1,by unfold Xx;rw [if_pos rfl]⟩
  ·have e':m≠k:= λe'=>by subst e';rw [hk] at hm;cases hm
   rw [if_neg e]
   exact ⟨by rw [e3 m e' e,hm];rfl,by unfold Xx;rw [if_neg e',if_neg e]⟩
 refine ⟨λc v h=>?_,hc⟩
 cases c with
 |data fr τ x=>obtain ⟨cs,h1,h2⟩:=h;exact ⟨cs,hc _ _ _ _ h1,h2⟩
 |own m off len=>
  obtain ⟨b',sz,n,h1,h0,h2,h3⟩:=h
  obtain ⟨g1,g2⟩:=Vu m b' h1
  exact ⟨_,sz,n,g1,by cases b'<;>exact h0,h2,by rw [g2];exact h3⟩
 |Dt m i=>
  obtain ⟨r,tid,vs,h1,h2,h3⟩:=h
  obtain ⟨g1,g2⟩:=Vu m _ h1
  exact ⟨r,tid,_,g1,by rw [g2];exact h2,h3⟩
 |Fy m i=>
  obtain ⟨r,b',sz,n,h1,h0,h2,h3,h4⟩:=h
  obtain ⟨g1,g2⟩:=Vu m b' h1
  exact ⟨r,_,sz,n,g1,by cases b'<;>exact h0,h2,by rw [g2];exact h3,h4⟩
 |sub m i c=>
  obtain ⟨r,b,sz,n,h1,h0,h2,h3,h4,h5⟩:=h
  obtain ⟨g1,g2⟩:=Vu m _ h1
  exact ⟨r,_,sz,n,g1,by cases b<;>exact h0,by rw [g2];exact h2,h3,h4,h5⟩
 |Fu m i c=>
  obtain ⟨r,b,n,sz,g,o,len,cap,h1,h0,h2,h3⟩:=h
  obtain ⟨g1,g2⟩:=Vu m _ h1
  exact ⟨r,_,n,sz,g,o,len,cap,g1,by cases b<;>exact h0,by rw [g2];exact h2,h3⟩
 |clo f Ca=>
  obtain ⟨us,h1,h2,h3⟩:=h
  refine ⟨us,h1,by simpa using h2,λj p hp=>?_⟩
  rw [List.getElem?_map] at hp
  cases hq:Ca[j]? with
  |none=>rw [hq] at hp;cases hp
  |some q=>
   rw [hq] at hp
   simp only [Option.map_some,Option.some.injEq] at hp
   subst hp
   obtain ⟨r,tid,vs,h4,h5,h6⟩:=h3 j q hq
   obtain ⟨g1,g2⟩:=Vu q.1 _ h4
   exact ⟨r,tid,_,g1,by rw [g2];exact h5,h6⟩
 |Gd m=>
  obtain ⟨r,vt,f,h1,h2,h3⟩:=h
  obtain ⟨g1,g2⟩:=Vu m _ h1
  exact ⟨r,vt,f,g1,by rw [g2];exact h2,h3⟩
 |_=>exact h
theorem GN (l k:Nat) {st:St} {a:Act} (h:Rel X st a w):Rel X (st.rename l k) a w:=by
 unfold St.rename
 split
 ·rename_i b hk hl
  split
  ·rename_i hp
   simp only [Bool.and_eq_true,Nat.blt_eq] at hp
   obtain ⟨π,h⟩:=h
   have Ek:l≠k:= λe=>by subst e;rw [hk] at hl;cases hl
   obtain ⟨e1,e2,e3⟩:=RO hk hl
   have hpk:π k=none:=(h.1.heap k).emp hk
   have un: ∀m r,Xx π l k m=some r-> ∃m',π m'=some r/\m9 l k m'=m:= λm r hm=>by
    unfold Xx at hm
    split at hm
    ·rename_i e;subst e;exact ⟨l,hm,by unfold m9;rw [if_pos rfl]⟩
    ·rename_i e
     split at hm
     ·cases hm
     ·rename_i e';exact ⟨m,hm,by unfold m9;rw [if_neg e']⟩
   have m:=Move.ren (X:=X) (w:=w) (π:=π) hk hl e1 e2 e3 λc ⟨j,r,h1,h2⟩=>let ⟨j',h3,_⟩:=un j r h1;⟨j',r,h3,h2⟩
   refine ⟨Xx π l k,⟨h.1.below,h.1.sc,λj r c h1 h2=>?_,λj r c h1 h2=>?_,λj1 j2 r1 r2 c h1 h2 h3 h4=>?_,λj hj Acs=>?_,λj=>?_⟩,?_⟩
   ·obtain ⟨j',h3,_⟩:=un j r h1;exact h.1.sub j' r c h3 h2
   ·obtain ⟨j',h3,_⟩:=un j r h1;exact h.1.place j' r c h3 h2
   ·obtain ⟨j1',g1,g2⟩:=un j1 r1 h1
    obtain ⟨j2',g3,g4⟩:=un j2 r2 h2
    rw [<-g2,<-g4,h.1.inj j1' j2' r1 r2 c g1 g3 h3 h4]
   ·have n1:j≠k:= λe=>by omega
    have n2:j≠l:= λe=>by omega
    have Agw:Ad st.heap j≠none:= λh0=>Acs ((e3 j n1 n2).trans (by rw [h0];rfl))
    have:=h.1.db j hj Agw
    unfold Xx
    rw [if_neg n1,if_neg n2]
    exact this
   ·by_cases n1:j=k
    ·subst n1
     refine Cx.Hc ?_ e1
     unfold Xx
     rw [if_pos rfl]
     exact ((h.1.heap l).Md hl).move m (Nat.le_refl _) (λr0 c h0 h1=>h.1.sub _ r0 c h0 h1) λ_ _ _ _ _=>rfl
    ·by_cases n2:j=l
     ·subst n2
      exact Cx.Ou (by unfold Xx;rw [if_neg n1,if_pos rfl]) e2
     ·have hr:Xx π l k j=π j:=by unfold Xx;rw [if_neg n1,if_neg n2]
      have hn:=e3 j n1 n2
      have ho:=h.1.heap j
      cases fp:Ad st.heap j with
      |none=>rw [fp] at hn;exact Cx.Ou (by rw [hr];exact ho.emp fp) hn
      |some c=>
       rw [fp] at hn
       refine Cx.Hc ?_ hn
       rw [hr]
       exact (ho.Md fp).move m (Nat.le_refl _) (λr0 c h0 h1=>h.1.sub _ r0 c h0 h1) λ_ _ _ _ _=>rfl
   ·have:p6 X w (Xx π l k) {tmps:=st.tmps.map (·.map (Qa l k)),heap:=Jt (Vo (st.heap.map λp=>(p.1,p.2.map (Qa l k))) l) k (b.map (Qa l k))} a:=m.GM rfl h.2
    exact this
  ·exact h
 ·exact h
theorem eo: ∀(n t:Nat) (st:St) (a:Act) (w:World),Rel X st a w->Rel X (Ib n t st) a w
 |0,_,_,_,_,h=>h
 |n+1,t,st,a,w,h=>by
  simp only [Ib]
  refine eo n (t+1) _ a w ?_
  split
  ·split
   ·split
    ·exact h
    ·exact GN _ _ h
   ·exact h
  ·exact h
theorem fo (f:Nat->OB->OB): ∀(H:List (Nat×OB)) (l:Nat),Ad (H.map λp=>(p.1,f p.1 p.2)) l=(Ad H l).map (f l)
 | [],_=>rfl
 |(k,b)::r,l=>by
  simp only [List.map_cons,Ad]
  split
  ·rename_i e;subst e;rfl
  ·exact fo f r l
theorem OB.CJ (x y z:Bool) (b:OB):(b.En x y z).row=b.row:=by cases b<;>rfl
def lb (live:List Nat) (l:Nat) (b:OB):OB:=b.En (live.contains Ol) (live.contains (Ux+l)) (live.contains (rX+l))
theorem Move.En (live:List Nat) {H:List (Nat×OB)} :Move X w w π π H (H.map λp=>(p.1,lb live p.1 p.2)) (λc=>c):=by
 refine ⟨λc v h=>?_,λfr τ cs x h=>h⟩
 have Vu: ∀m c,Ad H m=some c->Ad (H.map λp=>(p.1,lb live p.1 p.2)) m=some (lb live m c):= λm c hm=>by rw [fo,hm];rfl
 cases c with
 |own m off len=>
  obtain ⟨b',sz,n,h1,h0,h2,h3⟩:=h
  exact ⟨_,sz,n,Vu m b' h1,by unfold lb;rw [OB.CJ];exact h0,h2,h3⟩
 |Dt m i=>
  obtain ⟨r,tid,vs,h1,h2,h3⟩:=h
  exact ⟨r,tid,_,Vu m _ h1,h2,h3⟩
 |Fy m i=>
  obtain ⟨r,b',sz,n,h1,h0,h2,h3,h4⟩:=h
  exact ⟨r,_,sz,n,Vu m b' h1,by unfold lb;rw [OB.CJ];exact h0,h2,h3,h4⟩
 |sub m i c=>
  obtain ⟨r,b,sz,n,h1,h0,h2⟩:=h
  exact ⟨r,_,sz,n,Vu m _ h1,by cases b<;>exact h0,h2⟩
 |Fu m i c=>
  obtain ⟨r,b,n,sz,g,o,len,cap,h1,h0,h2⟩:=h
  exact ⟨r,_,n,sz,g,o,len,cap,Vu m _ h1,by cases b<;>exact h0,h2⟩
 |clo f Ca=>
  obtain ⟨us,h1,h2,h3⟩:=h
  refine ⟨us,h1,h2,λj p hp=>?_⟩
  obtain ⟨r,tid,vs,h4,h5,h6⟩:=h3 j p hp
  exact ⟨r,tid,_,Vu p.1 _ h4,h5,h6⟩
 |Gd m=>
  obtain ⟨r,vt,f,h1,h2,h3⟩:=h
  exact ⟨r,vt,f,Vu m _ h1,h2,h3⟩
 |_=>exact h
theorem WE (live:List Nat) {st:St} {a:Act} (h:Rel X st a w):Rel X (st.En live) a w:=by
 obtain ⟨π,h⟩:=h
 have m:=Move.En (X:=X) (w:=w) (π:=π) live (H:=st.heap)
 refine ⟨π,⟨h.1.below,h.1.sc,h.1.sub,h.1.place,h.1.inj,λj hj Ek=>h.1.db j hj λh0=>Ek (by show Ad (st.heap.map λp=>(p.1,lb live p.1 p.2)) j=none;rw [fo,h0];rfl),λj=>?_⟩,?_⟩
 ·have hn:Ad (st.En live).heap j=(Ad st.heap j).map (lb live j):=fo (lb live) st.heap j
  have ho:=h.1.heap j
  cases fp:Ad st.heap j with
  |none=>rw [fp] at hn;exact Cx.Ou (ho.emp fp) hn
  |some c=>
   rw [fp] at hn
   refine Cx.Hc ?_ hn
   have hb:=(ho.Md fp).move m (Nat.le_refl _) (λr0 c h0 h1=>h.1.sub _ r0 c h0 h1) λ_ _ _ _ _=>rfl
   cases c with
   |arr fr tr e tid xs=>
    simp only [OB.map,Av,Fv,OB.En,lb] at hb⊢
    cases hp:π j with
    |none=>rw [hp] at hb;exact hb
    |some r=>
     rw [hp] at hb
     obtain ⟨⟨g1,g2,g3⟩,cur,ti,g4,g5,g6,g7,g8,g9⟩:=hb
     refine ⟨⟨g1,g2,λhf=>g3 (Bool.and_eq_true_iff.1 hf).1⟩,cur,ti,g4,g5,g6,g7,λi x hx=>?_,λht=>g9 (Bool.and_eq_true_iff.1 ht).1⟩
     obtain ⟨es,k1,k2,k3⟩:=g8 i x hx
     refine ⟨es,k1,k2,Cells.Cn (Nat.le_refl _) (λ_ _ _=>rfl) (λb _ hA=>?_) e es x k3⟩
     exact hA.imp id (Or.imp id λ⟨h1,h2⟩=>⟨(Bool.and_eq_true_iff.1 h1).1,h2⟩)
   |Dg e tid xs=>exact hb
   |Al e te rows out kp=>exact hb
   |var tid vs=>
    have e:(OB.var tid vs).map (λc=>c)= .var tid vs:=by simp [OB.map]
    rw [e] at hb
    obtain ⟨r',h1,h2,cur,h3,h4,h5⟩:=hb
    refine ⟨r',h1,h2,cur,h3,by rw [h4,List.length_map],λi c hc=>?_⟩
    rw [List.getElem?_map] at hc
    cases hv:vs[i]? with
    |none=>rw [hv] at hc;cases hc
    |some c0=>
     rw [hv] at hc
     obtain ⟨u,k1,k2,k3⟩:=h5 i c0 hv
     refine ⟨u,k1,k2,?_⟩
     have hc:AC.Abh (live.contains Ol) c0=c:=Option.some.inj hc
     subst hc
     cases c0 with
     |data fr τ x=>
      show Bc w (Bj X.w0.heap.size X.Sc π (fr&&!(live.contains Ol&&τ.flat))) τ u x
      exact Bc.En k3 λb _ hA=>hA.imp id (Or.imp id λ⟨h1,h2⟩=>⟨(Bool.and_eq_true_iff.1 h1).1,h2⟩)
     |_=>exact k3
   |Qi v f=>exact hb
 ·exact ⟨h.2.size,h.2.defers,λt=>by have:=m.av (h.2.tmps t);rwa [AC.map_id] at this⟩
theorem xa (t:Nat) {st:St} {a:Act} (h:Rel X st a w):Rel X (Xw t st) a w:=by
 obtain ⟨π,h⟩:=h
 unfold Xw
 split
 ·rename_i l off len hg
  split
  ·rename_i fr tr e tid xs hl
   split
   ·rename_i pY
    have hv:=h.2.tmps t
    rw [hg] at hv
    obtain ⟨π',h1,h2,_⟩:=qN h (by simpa using pY) hl hv
    refine ⟨π',h1.1,⟨?_,h1.2.defers,λk=>?_⟩⟩
    ·show a.tmps.size=(Nm _ t _).length
     rw [Ut];exact h1.2.size
    ·show Ao X w π' _ ((Nm _ t _).getD k .undef) _
     rw [Lr]
     split
     ·rename_i hk
      obtain ⟨rfl,_⟩:=hk
      exact h2
     ·exact h1.2.tmps k
   ·exact ⟨π,h⟩
  ·exact ⟨π,h⟩
 ·exact ⟨π,h⟩
theorem Move.Aed {H:List (Nat×OB)} {π:Pi} {m:Nat} {tid:TypeId} {vs vs':List AC} (hm:Ad H m=some (.var tid vs)):Move X w w π π H (Vi H m (.var tid vs')) (λc=>c):=by
 have ne: ∀l b,Ad H l=some b->(∀t us,b≠ .var t us)->Ad (Vi H m (.var tid vs')) l=some b:= λl b h hb=>by
  rw [Bv H m l _ (λe=>by subst e;rw [hm] at h;cases h;exact hb _ _ rfl)];exact h
 have va: ∀l t us,Ad H l=some (.var t us)-> ∃t' Rn,Ad (Vi H m (.var tid vs')) l=some (.var t' Rn):= λl t us h=>by
  by_cases e:l=m
  ·subst e;exact ⟨_,_,Cf H l _ _ hm⟩
  ·exact ⟨t,us,by rw [Bv H m l _ e];exact h⟩
 refine ⟨λc v h=>?_,λ_ _ _ _ h=>h⟩
 cases c with
 |own l off len=>obtain ⟨b,sz,n,h1,h2,h3⟩:=h;exact ⟨b,sz,n,ne l b h1 (λt us e=>by subst e;cases h2),h2,h3⟩
 |Dt l i=>obtain ⟨r,t,us,h1,h2⟩:=h;obtain ⟨t',Rn,h3⟩:=va l t us h1;exact ⟨r,t',Rn,h3,h2⟩
 |Fy l i=>obtain ⟨r,b,sz,n,h1,h2,h3⟩:=h;exact ⟨r,b,sz,n,ne l b h1 (λt us e=>by subst e;cases h2),h2,h3⟩
 |sub l i c=>obtain ⟨r,b,sz,n,h1,h2,h3⟩:=h;exact ⟨r,b,sz,n,ne l b h1 (λt us e=>by subst e;cases h2),h2,h3⟩
 |Fu l i j=>obtain ⟨r,b,n,sz,g,o,len,cap,h1,h2,h3⟩:=h;exact ⟨r,b,n,sz,g,o,len,cap,ne l b h1 (λt us e=>by subst e;cases h2),h2,h3⟩
 |clo f Ca=>
  obtain ⟨us,h1,h2,h3⟩:=h
  refine ⟨us,h1,h2,λj p hp=>?_⟩
  obtain ⟨r,t,ws,h4,h5⟩:=h3 j p hp
  obtain ⟨t',Rn,h6⟩:=va p.1 t ws h4
  exact ⟨r,t',Rn,h6,h5⟩
 |Gd l=>obtain ⟨r,vt,f,h1,h2⟩:=h;exact ⟨r,vt,f,ne l _ h1 (λt us e=>by cases e),h2⟩
 |_=>exact h
theorem AU {π:Pi} {st:St} {a:Act} (h:Ak X π st a w) {m:Nat} {tid:TypeId} {vs:List AC} (hm:Ad st.heap m=some (.var tid vs)) {c:Nat} {x:AC}
  (hx: ∀r cur u,π m=some r->w.heap[r.g]?=some (.cells cur tid (0,0))->cur.toList[c]?=some u->Dv X w π st.heap x u):Ak X π (st.Ft m (.var tid (vs.set c x))) a w:=by
 have mv:=Move.Aed (X:=X) (w:=w) (π:=π) (vs':=vs.set c x) hm
 refine ⟨⟨h.1.below,h.1.sc,h.1.sub,h.1.place,h.1.inj,λj hj Ek=>h.1.db j hj λh0=>Ek ?_,λj=>?_⟩,?_⟩
 ·show Ad (Vi st.heap m _) j=none
  rw [Bv _ _ _ _ (λe=>by subst e;rw [hm] at h0;cases h0)];exact h0
 ·have ho:=h.1.heap j
  by_cases e:j=m
  ·subst e
   refine Cx.Hc (b:= .var tid (vs.set c x)) ?_ (Cf st.heap j _ _ hm)
   obtain ⟨r,h1,h2,cur,h3,h4⟩:=ho.Md hm
   refine ⟨r,h1,h2,cur,h3,?_⟩
   obtain ⟨h5,h6⟩:=h4
   refine ⟨by rw [List.length_set];exact h5,λi d hd=>?_⟩
   rw [List.getElem?_set] at hd
   split at hd
   ·rename_i hci
    subst hci
    split at hd
    ·rename_i Ey
     cases hd
     obtain ⟨u,g1,g2,_⟩:=h6 c vs[c] (List.getElem?_eq_getElem Ey)
     exact ⟨u,g1,g2,mv.ac _ _ (hx r cur u h1 h3 g1)⟩
    ·cases hd
   ·obtain ⟨u,g1,g2,g3⟩:=h6 i d hd
    exact ⟨u,g1,g2,mv.ac _ _ g3⟩
  ·have hn:Ad (st.Ft m (.var tid (vs.set c x))).heap j=Ad st.heap j:=Bv _ _ _ _ e
   cases hg:Ad st.heap j with
   |none=>exact Cx.Ou (ho.emp hg) (hn.trans hg)
   |some b=>
    have hb:=(ho.Md hg).move mv (Nat.le_refl _) (λr0 c h0 h1=>h.1.sub _ r0 c h0 h1) λ_ _ _ _ _=>rfl
    refine Cx.Hc ?_ (hn.trans hg)
    have eid:b.map (λc=>c)=b:=by cases b<;>simp [OB.map]
    rw [eid] at hb
    exact hb
 ·exact ⟨h.2.size,h.2.defers,λt=>by have:=mv.av (h.2.tmps t);rwa [AC.map_id] at this⟩
theorem m8 (c:Nat) {st:St} {a:Act} (h:Rel X st a w):Rel X (Lc c st) a w:=by
 obtain ⟨π,h⟩:=h
 unfold Lc
 split
 ·rename_i At4 vs hm
  split
  ·rename_i l off len hc
   split
   ·rename_i fr tr e te xs hl
    split
    ·rename_i pY
     split
     ·rename_i tid vs' zf
      have hlv:Ki≠l:= λe=>by subst e;rw [hm] at hl;cases hl
      obtain ⟨r,h1,h2,cur,h3,h4,h5⟩:=(h.1.heap Ki).Md hm
      obtain ⟨u,g1,g2,g3⟩:=h5 c _ hc
      obtain ⟨π',k1,k2,k3⟩:=qN h (by simpa using pY) hl g3
      refine ⟨π',AU k1 zf λr' Vc u' q1 q2 q3=>?_⟩
      rw [k3 Ki hlv,h1] at q1
      cases q1
      rw [h3] at q2
      cases q2
      rw [g1] at q3
      cases q3
      exact k2
     ·exact ⟨π,h⟩
    ·exact ⟨π,h⟩
   ·exact ⟨π,h⟩
  ·exact ⟨π,h⟩
 ·exact ⟨π,h⟩
theorem cL (live:List Nat): ∀(n c:Nat) (st:St) (a:Act) (w:World),Rel X st a w->Rel X (Kt live n c st) a w
 |0,_,_,_,_,h=>h
 |n+1,c,st,a,w,h=>by
  simp only [Kt]
  refine cL live n (c+1) _ a w ?_
  split
  ·exact m8 c h
  ·exact h
theorem gV (live:List Nat): ∀(n t:Nat) (st:St) (a:Act) (w:World),Rel X st a w->Rel X (Kf live n t st) a w
 |0,_,st,a,w,h=>cL live 16 0 st a w h
 |n+1,t,st,a,w,h=>by
  simp only [Kf]
  refine gV live n (t+1) _ a w ?_
  split
  ·exact xa t h
  ·exact h
theorem LM (live:List Nat) {st:St} {a:Act} (h:Rel X st a w):Rel X (st.clean live) a w:=by
 obtain ⟨π,h⟩:=h
 have TB: ∀s:St,Rel X s a w->Rel X (if live.any (λt=>Nat.ble Ol t) then s.En live else s) a w:=by
  intro s hs
  split
  ·exact WE live hs
  ·exact hs
 have key: ∀s:St,Rel X s a w->Rel X (if live.contains Zh then Ib s.tmps.length 0 s else s) a w:=by
  intro s hs
  split
  ·exact eo _ _ _ a w hs
  ·exact hs
 have TC: ∀s:St,Rel X s a w->Rel X (if live.any (λt=>Nat.ble Mw t&&Nat.blt t Zh) then Kf live s.tmps.length 0 s else s) a w:=by
  intro s hs
  split
  ·exact gV _ _ _ _ a w hs
  ·exact hs
 unfold St.clean
 refine TB _ (key _ (TC _ (gH _ _ a w ⟨π,h.1,⟨by simp [au,h.2.size],h.2.defers,λt=>?_⟩⟩)))
 show Ao X w π st.heap ((Gb live 0 st.tmps).getD t .undef) _
 rcases dq live 0 st.tmps t with e|e
 ·rw [e];trivial
 ·rw [e];exact h.2.tmps t
def Abu:Ha->Exit
 | .normal=> .normal
 | .exit id=> .exit id
 | .ret=> .ret
def oZ (P:Program) (c:Code) (Q:Exit->Act->World->Prop) (a:Act) (w:World):Prop:=
 ∀(b:Frame) (k:List Item) (cs:List Frame),∃e a' w',Q e a' w'/\Arrives P (lone (b.at a (.code c:: .inLoop c::k)) cs w) b k cs e a' w'
theorem zE {c:Code} {Q:Exit->Act->World->Prop} {a:Act} {w:World} (h:c.wp P (Exit.then (oZ P c Q) Q) a w):oZ P c Q a w:=by
 intro b k cs
 obtain ⟨e,QP,WG,hq,z0⟩:=h b (.inLoop c::k) cs
 cases e with
 |normal=>
  obtain ⟨Al0,Akt,Ao2,Ahb,XN⟩:=hq b k cs
  exact ⟨Al0,Akt,Ao2,Ahb, .of_steps (Steps.trans z0 (.one step_inLoop)) XN⟩
 |exit id=>exact ⟨_,QP,WG,hq, .pass (x:= .inLoop c) rfl (λ_ _=> .inl (by simp)) z0⟩
 |goto l=>exact ⟨_,QP,WG,hq, .pass (x:= .inLoop c) rfl (λ_ _=> .inl (by simp)) z0⟩
 |ret=>exact ⟨_,QP,WG,hq, .pass (x:= .inLoop c) rfl (λ_ _=> .inl (by simp)) z0⟩
 |panic ch=>exact ⟨_,QP,WG,hq, .pass (x:= .inLoop c) rfl (λ_ _=> .inl (by simp)) z0⟩
 |outgrown=>exact ⟨_,QP,WG,hq, .pass (x:= .inLoop c) rfl (λ_ _=> .inl (by simp)) z0⟩
theorem PN {c:Code} {Q:Exit->Act->World->Prop} {a:Act} {w:World} (h:oZ P c Q a w):(Code.loop c).wp P Q a w:=by
 intro b k cs
 obtain ⟨e,a',w',hq,z0⟩:=h b k cs
 exact ⟨e,a',w',hq, .of_steps (.one step_loop) z0⟩
theorem cz (ops:Array Oper): ∀(i:Nat) (l:List AV),(Kb ops i l).length=l.length
 |_,[]=>rfl
 |i,v::r=>by cases v<;>simp [Kb,cz ops (i+1) r]
theorem gy (ops:Array Oper): ∀(i:Nat) (l:List AV) (t:Nat),(Kb ops i l).getD t .undef= .undef\/(Kb ops i l).getD t .undef=l.getD t .undef
 |_,[],_=> .inr rfl
 |i,v::r,0=>by
  cases v with
  |Ih l=>
   simp only [Kb,List.getD_cons_zero]
   split
   ·exact .inr rfl
   ·exact .inl rfl
  |_=>exact .inr rfl
 |i,v::r,t+1=>by
  have h:=gy ops (i+1) r t
  cases v<;>(simp only [Kb,List.getD_cons_succ];exact h)
theorem yL (ops:Array Oper) {st:St} {a:Act} (h:Rel X st a w):Rel X (st.jC ops) a w:=by
 obtain ⟨π,h⟩:=h
 refine ⟨π,h.1,⟨by show a.tmps.size=(Kb ops 0 st.tmps).length;rw [cz];exact h.2.size,h.2.defers,λt=>?_⟩⟩
 show Ao X w π st.heap ((Kb ops 0 st.tmps).getD t .undef) _
 rcases gy ops 0 st.tmps t with e|e
 ·rw [e];trivial
 ·rw [e];exact h.2.tmps t
theorem qT (hT:By P T) (Kn:Gq P Γ) (hm:P.follows .mixedOrders=true) {live:Nat->List Nat} {c:Code} {st:St} {K:Ha->St->Prop} (hr:Js T Γ live c st K):
  ∀(a:Act) (w:World) (Q:Exit->Act->World->Prop),Rel X st a w->(∀e st' a' w',K e st'->Rel X st' a' w'->Q (Abu e) a' w')->c.wp P Q a w/\ ∀c',c= .loop c'->oZ P c' Q a w:=by
 induction hr with
 |skip hk=>exact λa w Q h hQ=>⟨wp_skip (hQ .normal _ _ _ hk h),λc' e=>by cases e⟩
 |label hk=>exact λa w Q h hQ=>⟨wp_label (hQ .normal _ _ _ hk h),λc' e=>by cases e⟩
 |exit hk=>exact λa w Q h hQ=>⟨wp_exit (hQ (.exit _) _ _ _ hk h),λc' e=>by cases e⟩
 |ret hk=>exact λa w Q h hQ=>⟨wp_ret (hQ .ret _ _ _ hk h),λc' e=>by cases e⟩
 |region hk=>exact λa w Q h hQ=>⟨GL hT (Kn.reg _) hm (yL _ h) hk λst' a' w' h1 h2=>hQ .normal _ _ _ h1 h2,λc' e=>by cases e⟩
 |seq Q1 _ _ h3 MJ zn=>
  intro a w Q h hQ
  refine ⟨wp_seq ((MJ a w _ h λe st' a' w' hk h'=>?_).1),λc' e=>by cases e⟩
  cases e with
  |normal=>exact (zn st' hk a' w' Q h' hQ).1
  |exit id=>exact hQ (.exit id) _ _ _ (h3 _ _ (by simp) hk) h'
  |ret=>exact hQ .ret _ _ _ (h3 _ _ (by simp) hk) h'
 |cond hc _ _ MJ zn=>
  intro a w Q h hQ
  refine ⟨?_,λc' e=>by cases e⟩
  obtain ⟨π,h'⟩:=h
  rename_i c x y st fr t Q0 _ _
  have hr:=Bq h'.2 c
  rw [hc] at hr
  refine wp_cond (Us hr) ?_
  cases t with
  |true=>exact (MJ rfl a w Q ⟨π,h'⟩ hQ).1
  |false=>exact (zn rfl a w Q ⟨π,h'⟩ hQ).1
 |block Q1 _ h2 ih=>
  intro a w Q h hQ
  rename_i id c st Q0 _
  refine ⟨wp_block ((ih a w _ h λe st' a' w' hk h'=>?_).1),λc' e=>by cases e⟩
  have h3:=h2 e st' hk
  cases e with
  |normal=>exact hQ .normal _ _ _ h3 h'
  |ret=>exact hQ .ret _ _ _ h3 h'
  |exit MI=>
   show (if MI=id then Q .normal a' w' else Q (.exit MI) a' w')
   simp only [uq] at h3
   by_cases hid:MI=id
   ·rw [if_pos hid] at h3⊢;exact hQ .normal _ _ _ h3 h'
   ·rw [if_neg hid] at h3⊢;exact hQ (.exit MI) _ _ _ h3 h'
 |loop Q1 _ _ h3 MJ zn=>
  intro a w Q h hQ
  rename_i c st Q0 _ _
  have key:oZ P c Q a w:=by
   refine zE ((MJ a w _ (LM _ h) λe st' a' w' hk h'=>?_).1)
   cases e with
   |normal=>exact (zn st' hk a' w' Q h' hQ).2 c rfl
   |exit id=>exact hQ (.exit id) _ _ _ (h3 _ _ (by simp) hk) h'
   |ret=>exact hQ .ret _ _ _ (h3 _ _ (by simp) hk) h'
  exact ⟨PN key,λc' e=>by cases e;exact key⟩
def GQ (tmps:Array Value):ResultVar->Sem Value
 | .tmp t=>pure (tmps.getD t undef)
 | .cell p t=>do loadVar t (<-asAddr (tmps.getD p undef))
theorem bX (fn:Func) (tmps:Array Value):results fn tmps=(do
  let vs<-fn.results.mapM (GQ tmps)
  pure (if h:vs.size=1 then vs[0] else .tuple vs)):=by
 rfl
theorem KE {α:Type} {l:List α} (h:l.length=2): ∃a b,l= [a,b]:=by
 rcases l with _|⟨a,_|⟨b,_|⟨c,r⟩⟩⟩<;>simp at h
 exact ⟨a,b,rfl⟩
theorem uC {α:Type} {l:List α} (h:l.length=3): ∃a b c,l= [a,b,c]:=by
 rcases l with _|⟨a,_|⟨b,_|⟨c,_|⟨d,r⟩⟩⟩⟩<;>simp at h
 exact ⟨a,b,c,rfl⟩
theorem zC {t:TypeId} {v u:Value} (h:(Instr.loadAt t v).run P w= .ok u w):(do loadVar t (<-asAddr v):Sem Value).run P w= .ok u w:=by
 unfold Instr.loadAt at h
 cases v with
 |pointer a=>
  cases a with
  |some a=>simpa [Instr.sureAddr,asAddr] using h
  |none=>simp [Instr.sureAddr,Result.andThen] at h
 |_=>simp [Instr.sureAddr,Result.andThen] at h
theorem Sy (hT:By P T) {st:St} {a:Act} (h:Ak X π st a w): ∀(rs:List ResultVar) (l:List AV),ah T st rs=some l->
  ∃vs:List Value,vs.length=rs.length/\l.length=rs.length/\(∀(i:Nat) r v,rs[i]?=some r->vs[i]?=some v->(GQ a.tmps r).run P w= .ok v w)/\(∀(i:Nat) c v,l[i]?=some c->vs[i]?=some v->Ao X w π st.heap c v)
 | [],l,he=>by
  simp only [ah,Option.some.injEq] at he;subst he
  exact ⟨[],rfl,rfl,λi r v hr=>by simp at hr,λi c v hc=>by simp at hc⟩
 | .tmp t::r,l,he=>by
  simp only [ah] at he
  cases hr:ah T st r with
  |none=>rw [hr] at he;cases he
  |some l'=>
   rw [hr] at he
   simp only [Option.map_some,Option.some.injEq] at he;subst he
   obtain ⟨vs,h1,h2,h3,h4⟩:=Sy hT h r l' hr
   refine ⟨a.tmps.getD t undef::vs,by simp [h1],by simp [h2],λi r' v bk hv=>?_,λi c v hc hv=>?_⟩
   ·rcases i with _|i
    ·rw [List.getElem?_cons_zero,Option.some.injEq] at bk hv;subst bk;subst hv;rfl
    ·exact h3 i r' v (by simpa using bk) (by simpa using hv)
   ·rcases i with _|i
    ·rw [List.getElem?_cons_zero,Option.some.injEq] at hc hv;subst hc;subst hv;exact h.2.tmps t
    ·exact h4 i c v (by simpa using hc) (by simpa using hv)
 | .cell p t::r,l,he=>by
  simp only [ah] at he
  split at he
  ·rename_i c0 l' hl0 hr
   simp only [Option.some.injEq] at he;subst he
   obtain ⟨u,hu,hru⟩:=jI hT h t _ _ c0 (h.2.tmps p) hl0
   obtain ⟨vs,h1,h2,h3,h4⟩:=Sy hT h r l' hr
   refine ⟨u::vs,by simp [h1],by simp [h2],λi r' v bk hv=>?_,λi c v hc hv=>?_⟩
   ·rcases i with _|i
    ·simp at bk hv;subst bk;subst hv;exact zC hu
    ·exact h3 i r' v (by simpa using bk) (by simpa using hv)
   ·rcases i with _|i
    ·simp at hc hv;subst hc;subst hv;exact hru
    ·exact h4 i c v (by simpa using hc) (by simpa using hv)
  ·cases he
theorem yP (hT:By P T) {st:St} {a:Act} (h:Ak X π st a w) (s:Spec) (fn:Func) (fr:Bool) (y:s.res.den) (he:jM T s fn st=some (fr,y)) {S:Nat->Prop} (hS:Lx X S fr):
  ∃v,(results fn a.tmps).run P w= .ok v w/\iw s w S v y:=by
 have YC:fn.results=fn.results.toList.toArray:=Array.toArray_toList.symm
 unfold jM at he
 split at he
 ·rename_i c hl
  obtain ⟨vs,h1,h2,h3,h4⟩:=Sy hT h _ _ hl
  split at he
  ·cases he
  ·rename_i hm
   have hlen:fn.results.toList.length=1:=by rw [<-h2];rfl
   obtain ⟨r,hr⟩:=List.length_eq_one_iff.1 hlen
   rw [hlen] at h1
   obtain ⟨v,rfl⟩:=List.length_eq_one_iff.1 h1
   have e0:=h3 0 r v (by rw [hr];rfl) rfl
   refine ⟨v,?_,?_⟩
   ·rw [bX,YC,hr]
    simp [e0]
   ·unfold iw
    rw [if_neg hm]
    exact Tq h.1 s.res c v fr y (h4 0 c v rfl rfl) he hS
 ·rename_i c d hl
  obtain ⟨vs,h1,h2,h3,h4⟩:=Sy hT h _ _ hl
  split at he
  ·rename_i hm
   have hlen:fn.results.toList.length=2:=by rw [<-h2];rfl
   obtain ⟨r1,r2,hr⟩:=KE hlen
   rw [hlen] at h1
   obtain ⟨v1,v2,rfl⟩:=KE h1
   have e0:=h3 0 r1 v1 (by rw [hr];rfl) rfl
   have e1:=h3 1 r2 v2 (by rw [hr];rfl) rfl
   refine ⟨.tuple #[v1,v2],?_,?_⟩
   ·rw [bX,YC,hr]
    simp [e0,e1]
   ·unfold iw
    rw [if_pos hm]
    exact ⟨[v1,v2],rfl,Wn h.1 s.res _ _ fr y rfl h4 he hS⟩
  ·cases he
 ·rename_i c d d' hl
  obtain ⟨vs,h1,h2,h3,h4⟩:=Sy hT h _ _ hl
  split at he
  ·rename_i hm
   have hlen:fn.results.toList.length=3:=by rw [<-h2];rfl
   obtain ⟨r1,r2,r3,hr⟩:=uC hlen
   rw [hlen] at h1
   obtain ⟨v1,v2,v3,rfl⟩:=uC h1
   have e0:=h3 0 r1 v1 (by rw [hr];rfl) rfl
   have e1:=h3 1 r2 v2 (by rw [hr];rfl) rfl
   have e2:=h3 2 r3 v3 (by rw [hr];rfl) rfl
   refine ⟨.tuple #[v1,v2,v3],?_,?_⟩
   ·rw [bX,YC,hr]
    simp [e0,e1,e2]
   ·unfold iw
    rw [if_pos hm]
    exact ⟨[v1,v2,v3],rfl,Wn h.1 s.res _ _ fr y rfl h4 he hS⟩
  ·cases he
 ·cases he
theorem pf {S:Nat->Prop} : ∀(τ:Ty) (vs:List Value) (x:τ.den),Bf w S τ vs x->
  (Nr τ x).length=vs.length/\ ∀i,Ao ⟨w,S,λ_=>False,λ_=>none⟩ w (λ_=>none) [] ((Nr τ x).getD i .undef) (vs.getD i undef)
 | .pair a r,[],x,h=>h.elim
 | .pair a r,v::vs,x,h=>by
  obtain ⟨h1,h2⟩:=pf r vs x.2 h.2
  refine ⟨by simp [Nr,h1],λi=>?_⟩
  rcases i with _|i
  ·simp only [Nr,List.getD_cons_zero]
   cases hf:a.flat with
   |true=>exact Bc.flat hf h.1
   |false=>
    exact Bc.En h.1 λk _ hk=>by
     rcases hk with ⟨l,r,hl,_⟩|hk|⟨hk,_⟩
     ·cases hl
     ·exact hk
     ·cases hk
  ·simpa [Nr] using h2 i
 | .unit,[],_,_=>⟨rfl,λi=>by simp [Nr];trivial⟩
 | .unit,_::_,_,h=>h.elim
 | .int _,_,_,h=>by simp [Bf] at h
 | .bool,_,_,h=>by simp [Bf] at h
 | .str,_,_,h=>by simp [Bf] at h
 | .slice _,_,_,h=>by simp [Bf] at h
 | .ptr _,_,_,h=>by simp [Bf] at h
 | .oslice _,_,_,h=>by simp [Bf] at h
 | .optr _,_,_,h=>by simp [Bf] at h
 | .smap _,_,_,h=>by simp [Bf] at h
 | .clo _ _,_,_,h=>by simp [Bf] at h
theorem vW (hT:By P T) (Kn:Gq P Γ) (hm:P.follows .mixedOrders=true) {f:FuncId} {fn:Func} (hf:P.funcs[f]?=some fn) (s:Spec) (w:World) (S:Nat->Prop) (vs:List Value) (x:s.arg.den) (y:s.res.den)
  (hS: ∀k,S k->k<w.heap.size) (hx:Bf w S s.arg vs x) (he:QD T Γ s fn x λz=>z=y):
  Calls P f vs.toArray w λe w'=> ∃v,e= .returned v/\Below w.heap.size w w'/\iw s w' (λb=>S b\/(s.fresh=true/\b<w.heap.size)) v y:=by
 obtain ⟨c,hb,he⟩:=he
 skip
 ·obtain ⟨hl,Ma⟩:=pf (w:=w) s.arg vs x hx
  have h0:Rel ⟨w,S,λ_=>False,λ_=>none⟩ {tmps:=Nr s.arg x++List.replicate (fn.ntmps-(Nr s.arg x).length) .undef,heap:= []} {tmps:=vs.toArray++Array.replicate (fn.ntmps-vs.toArray.size) undef,defers:= []} w:=by
   refine ⟨λ_=>none,⟨Gg.refl _ _ _,λb hb=>⟨hS b hb,λh=>h⟩,(λ_ _ _ h=>by cases h),(λ_ _ _ h=>by cases h),(λ_ _ _ _ _ h=>by cases h),λl _ hn=>absurd rfl hn,λl=>rfl⟩,⟨by simp [hl],rfl,λt=>?_⟩⟩
   have h1:=Ma t
   show Ao _ w _ [] ((Nr s.arg x++List.replicate _ AV.undef).getD t .undef) ((vs.toArray++Array.replicate _ undef).getD t undef)
   by_cases ht:t<vs.length
   ·rw [List.getD_eq_getElem?_getD,List.getElem?_append_left (by omega),<-List.getD_eq_getElem?_getD]
    rw [Array.getD_eq_getD_getElem?,Array.getElem?_append_left (by simpa using ht)]
    simpa [List.getD_eq_getElem?_getD] using h1
   ·have:(Nr s.arg x++List.replicate (fn.ntmps-(Nr s.arg x).length) AV.undef).getD t .undef= .undef:=by
     rw [List.getD_eq_getElem?_getD,List.getElem?_append_right (by omega)]
     rw [List.getElem?_replicate]
     split<;>rfl
    rw [this];trivial
  refine calls_of_wp hf hb ?_
  refine (qT hT Kn hm he _ w _ h0 λe st a' w' ⟨Ek,fr,y',o3,zd,hy⟩ ⟨π,h'⟩=>?_).1
  subst hy
  have Ah6:=yP hT h' s fn fr y' o3 (S:= λb=>S b\/(s.fresh=true/\b<w.heap.size)) ⟨λk hk=>⟨by rcases hk with hk|hk;exact hS k hk;exact hk.2,λh=>h⟩,by
   simp only [Bool.or_eq_true,Bool.not_eq_true'] at zd
   rcases zd with h|h
   ·exact .inl h
   ·right;intro k hk;rcases hk with hk|⟨hk,_⟩
    ·exact hk
    ·rw [h] at hk;cases hk⟩
  obtain ⟨v,hv,hr⟩:=Ah6
  cases e with
  |normal=>exact ⟨h'.2.defers,v,hv,v,rfl,h'.1.below.plain,hr⟩
  |ret=>exact ⟨h'.2.defers,v,hv,v,rfl,h'.1.below.plain,hr⟩
  |exit id=>exact absurd rfl (Ek id)
theorem dk {f:FuncId} {fn:Func} (hf:P.funcs[f]?=some fn) (hn:(fn.name== "runtime.NumGoroutine")=false) (hb:fn.body.isNone=false) (args:Array Value) (w:World):
  (callFunc f args).run P w= .ok (.enter f args) w:=by
 unfold callFunc
 simp only [Sem.run_bind,run_program,Result.andThen_ok,hf,hn,hb,Bool.false_eq_true,if_false,Sem.run_pure]
theorem UQ (hT:By P T) (Kn:Gq P Γ) (hm:P.follows .mixedOrders=true) {f:FuncId} {fn:Func} (hf:P.funcs[f]?=some fn) (hn:(fn.name== "runtime.NumGoroutine")=false) (hb:fn.body.isNone=false) (s:Spec)
  (h: ∀x y,s.fn x=some y->QD T Γ s fn x λz=>z=y):Sound P f s:=
 ⟨dk hf hn hb,λw S vs x y hS hx hy=>vW hT Kn hm hf s w S vs x y hS hx (h x y hy)⟩
end
end Go.Proofs.YtfolipnappekaaaGreat
