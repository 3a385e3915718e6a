/-
  Part 26 of the proof that the statement FnExactSolveTwoPhaseWithin holds.
-/
import Derived.Test.YtfgfigkbgecfnaaCSolveTwoPhaseWithin24
namespace Go.Proofs.Ytfgfigkbgecfnaa
open Go.RowKit
section
variable {P:Program} {T:Tab} {Γ:Env} {X:Ctx} {w w':World} {π:Pi}
def cA (π:Pi) (l k:Nat):Pi:= λm=>if m=k then π l else if m=l then none else π m
theorem Aae {st:St} {l k:Nat} {b:OB} (hk:Ay st.heap k=none) (hl:Ay st.heap l=some b):
  Ay (Pb (aT (st.heap.map λp=>(p.1,p.2.map (We l k))) l) k (b.map (We l k))) k=some (b.map (We l k))/\
  Ay (Pb (aT (st.heap.map λp=>(p.1,p.2.map (We l k))) l) k (b.map (We l k))) l=none/\
  ∀m,m≠k->m≠l->Ay (Pb (aT (st.heap.map λp=>(p.1,p.2.map (We l k))) l) k (b.map (We l k))) m=(Ay st.heap m).map (OB.map (We l k)):=by
 have Ii:l≠k:= λe=>by subst e;rw [hk] at hl;cases hl
 refine ⟨Rb _ _ _ ?_,?_,λm h1 h2=>?_⟩
 ·rw [Oi _ _ _ Ii.symm,Pl,hk];rfl
 ·rw [Pv _ _ _ _ Ii,Mz]
 ·rw [Pv _ _ _ _ h1,Oi _ _ _ h2,Pl]
theorem Move.ren {st:St} {l k:Nat} {b:OB} {H':List (Nat×OB)} (hk:Ay st.heap k=none) (hl:Ay st.heap l=some b) (e1:Ay H' k=some (b.map (We l k))) (_e2:Ay H' l=none)
  (e3: ∀m,m≠k->m≠l->Ay H' m=(Ay st.heap m).map (OB.map (We l k))) (eR: ∀c,Wn (cA π l k) c->Wn π c):Move X w w π (cA π l k) st.heap H' (We l k):=by
 have Ii:l≠k:= λe=>by subst e;rw [hk] at hl;cases hl
 have hc: ∀fr τ cs x,Cells w (Dk X.w0.heap.size X.Sc π fr) τ cs x->Cells w (Dk X.w0.heap.size X.Sc (cA π l k) fr) τ cs x:=
  fun fr τ cs x h=>Cells.Gd (Ap _) (λ_ _ _=>rfl) (λc _ hA=>hA.imp (eR c) id) τ cs x h
 have Sb: ∀m c,Ay st.heap m=some c->Ay H' (qc l k m)=some (c.map (We l k))/\cA π l k (qc l k m)=π m:=by
  intro m c hm;unfold qc
  by_cases e:m=l
  ·subst e;rw [hl] at hm;cases hm;rw [Ac rfl];exact ⟨e1,by unfold cA;rw [Ac rfl]⟩
  ·have e':m≠k:= λe'=>by subst e';rw [hk] at hm;cases hm
   rw [Ai e];exact ⟨by rw [e3 m e' e,hm];rfl,by unfold cA;rw [Ai e',Ai e]⟩
 refine ⟨λc v h=>?_,hc⟩
 cases c with
 |data fr τ x=>obtain ⟨cs,h1,h2⟩:=h;exact ⟨cs,hc _ _ _ _ h1,h2⟩
 |own m off len=>
  obtain ⟨b',sz,n,h1,h0,h2,h3⟩:=h;obtain ⟨g1,g2⟩:=Sb m b' h1
  exact ⟨_,sz,n,g1,by cases b'<;>exact h0,h2,by rw [g2];exact h3⟩
 |Hs m i=>
  obtain ⟨r,tid,vs,h1,h2,h3⟩:=h;obtain ⟨g1,g2⟩:=Sb m _ h1;exact ⟨r,tid,_,g1,by rw [g2];exact h2,h3⟩
 |Kq m i=>
  obtain ⟨r,b',sz,n,h1,h0,h2,h3,h4⟩:=h;obtain ⟨g1,g2⟩:=Sb m b' h1
  exact ⟨r,_,sz,n,g1,by cases b'<;>exact h0,h2,by rw [g2];exact h3,h4⟩
 |sub m i c=>
  obtain ⟨r,b,sz,n,h1,h0,h2,h3,h4,h5⟩:=h;obtain ⟨g1,g2⟩:=Sb m _ h1
  exact ⟨r,_,sz,n,g1,by cases b<;>exact h0,by rw [g2];exact h2,h3,h4,h5⟩
 |Kl m i c=>
  obtain ⟨r,b,n,sz,g,o,len,cap,h1,h0,h2,h3⟩:=h;obtain ⟨g1,g2⟩:=Sb m _ h1
  exact ⟨r,_,n,sz,g,o,len,cap,g1,by cases b<;>exact h0,by rw [g2];exact h2,h3⟩
 |clo f En=>
  obtain ⟨us,h1,h2,h3⟩:=h;refine ⟨us,h1,by simpa using h2,λj p hp=>?_⟩;rw [Fa] at hp
  cases hq:En[j]? with
  |none=>rw [hq] at hp;cases hp
  |some q=>
   rw [hq] at hp;simp only [An,Aa] at hp;subst hp;obtain ⟨r,tid,vs,h4,h5,h6⟩:=h3 j q hq;obtain ⟨g1,g2⟩:=Sb q.1 _ h4;exact ⟨r,tid,_,g1,by rw [g2];exact h5,h6⟩
 |Le m=>
  obtain ⟨r,vt,f,h1,h2,h3⟩:=h;obtain ⟨g1,g2⟩:=Sb m _ h1;exact ⟨r,vt,f,g1,by rw [g2];exact h2,h3⟩
 |_=>exact h
theorem PE (l k:Nat) {st:St} {a:Act} (h:Rel X st a w):Rel X (st.rename l k) a w:=by
 unfold St.rename;split
 ·rename_i b hk hl;split
  ·rename_i hp;simp only [Ak,Nv] at hp;obtain ⟨π,h⟩:=h
   have Ii:l≠k:= λe=>by subst e;rw [hk] at hl;cases hl
   obtain ⟨e1,e2,e3⟩:=Aae hk hl;have hpk:π k=none:=(h.1.heap k).emp hk
   have un: ∀m r,cA π l k m=some r-> ∃m',π m'=some r/\qc l k m'=m:= λm r hm=>by
    unfold cA at hm;split at hm
    ·rename_i e;subst e;exact ⟨l,hm,by unfold qc;rw [Ac rfl]⟩
    ·rename_i e;split at hm
     ·cases hm
     ·rename_i e';exact ⟨m,hm,by unfold qc;rw [Ai e']⟩
   have m:=Move.ren (X:=X) (w:=w) (π:=π) hk hl e1 e2 e3 λc ⟨j,r,h1,h2⟩=>let ⟨j',h3,_⟩:=un j r h1;⟨j',r,h3,h2⟩
   refine ⟨cA π l k,⟨h.1.below,h.1.sc,λj r c h1 h2=>?_,λj r c h1 h2=>?_,λj1 j2 r1 r2 c h1 h2 h3 h4=>?_,λj hj Aku=>?_,λj=>?_⟩,?_⟩
   ·obtain ⟨j',h3,_⟩:=un j r h1;exact h.1.sub j' r c h3 h2
   ·obtain ⟨j',h3,_⟩:=un j r h1;exact h.1.place j' r c h3 h2
   ·obtain ⟨j1',g1,g2⟩:=un j1 r1 h1;obtain ⟨j2',g3,g4⟩:=un j2 r2 h2;rw [<-g2,<-g4,h.1.inj j1' j2' r1 r2 c g1 g3 h3 h4]
   ·have n1:j≠k:= λe=>by omega
    have n2:j≠l:= λe=>by omega
    have Aph:Ay st.heap j≠none:= λh0=>Aku ((e3 j n1 n2).trans (by rw [h0];rfl));have:=h.1.iM j hj Aph;unfold cA;rw [Ai n1,Ai n2];exact this
   ·by_cases n1:j=k
    ·subst n1;refine Gu.Mg ?_ e1;unfold cA;rw [Ac rfl];exact ((h.1.heap l).Se hl).move m (Ap _) (λr0 c h0 h1=>h.1.sub _ r0 c h0 h1) λ_ _ _ _ _=>rfl
    ·by_cases n2:j=l
     ·subst n2;exact Gu.Vd (by unfold cA;rw [Ai n1,Ac rfl]) e2
     ·have hr:cA π l k j=π j:=by unfold cA;rw [Ai n1,Ai n2]
      have hn:=e3 j n1 n2;have ho:=h.1.heap j
      cases l7:Ay st.heap j with
      |none=>rw [l7] at hn;exact Gu.Vd (by rw [hr];exact ho.emp l7) hn
      |some c=>
       rw [l7] at hn;refine Gu.Mg ?_ hn;rw [hr];exact (ho.Se l7).move m (Ap _) (λr0 c h0 h1=>h.1.sub _ r0 c h0 h1) λ_ _ _ _ _=>rfl
   ·have:sV X w (cA π l k) {tmps:=st.tmps.map (·.map (We l k)),heap:=Pb (aT (st.heap.map λp=>(p.1,p.2.map (We l k))) l) k (b.map (We l k))} a:=m.PD rfl h.2;exact this
  ·exact h
 ·exact h
theorem jK: ∀(n t:Nat) (st:St) (a:Act) (w:World),Rel X st a w->Rel X (Ng n t st) a w
 |0,_,_,_,_,h=>h
 |n+1,t,st,a,w,h=>by
  simp only [Ng];refine jK n (t+1) _ a w ?_;split
  ·split
   ·split
    ·exact h
    ·exact PE _ _ h
   ·exact h
  ·exact h
theorem kH (f:Nat->OB->OB): ∀(H:List (Nat×OB)) (l:Nat),Ay (H.map λp=>(p.1,f p.1 p.2)) l=(Ay H l).map (f l)
 | [],_=>rfl
 |(k,b)::r,l=>by
  simp only [Cb,Ay];split
  ·rename_i e;subst e;rfl
  ·exact kH f r l
theorem OB.KS (x y z:Bool) (b:OB):(b.Jg x y z).row=b.row:=by cases b<;>rfl
def pb (live:List Nat) (l:Nat) (b:OB):OB:=b.Jg (live.contains Ux) (live.contains (kx+l)) (live.contains (Ae1+l))
theorem Move.Jg (live:List Nat) {H:List (Nat×OB)} :Move X w w π π H (H.map λp=>(p.1,pb live p.1 p.2)) (λc=>c):=by
 refine ⟨λc v h=>?_,λfr τ cs x h=>h⟩
 have Sb: ∀m c,Ay H m=some c->Ay (H.map λp=>(p.1,pb live p.1 p.2)) m=some (pb live m c):= λm c hm=>by rw [kH,hm];rfl
 cases c with
 |own m off len=>
  obtain ⟨b',sz,n,h1,h0,h2,h3⟩:=h;exact ⟨_,sz,n,Sb m b' h1,by unfold pb;rw [OB.KS];exact h0,h2,h3⟩
 |Hs m i=>
  obtain ⟨r,tid,vs,h1,h2,h3⟩:=h;exact ⟨r,tid,_,Sb m _ h1,h2,h3⟩
 |Kq m i=>
  obtain ⟨r,b',sz,n,h1,h0,h2,h3,h4⟩:=h;exact ⟨r,_,sz,n,Sb m b' h1,by unfold pb;rw [OB.KS];exact h0,h2,h3,h4⟩
 |sub m i c=>
  obtain ⟨r,b,sz,n,h1,h0,h2⟩:=h
  exact ⟨r,_,sz,n,Sb m _ h1,by cases b<;>exact h0,h2⟩
 |Kl m i c=>
  obtain ⟨r,b,n,sz,g,o,len,cap,h1,h0,h2⟩:=h
  exact ⟨r,_,n,sz,g,o,len,cap,Sb m _ h1,by cases b<;>exact h0,h2⟩
 |clo f En=>
  obtain ⟨us,h1,h2,h3⟩:=h;refine ⟨us,h1,h2,λj p hp=>?_⟩;obtain ⟨r,tid,vs,h4,h5,h6⟩:=h3 j p hp;exact ⟨r,tid,_,Sb p.1 _ h4,h5,h6⟩
 |Le m=>
  obtain ⟨r,vt,f,h1,h2,h3⟩:=h;exact ⟨r,vt,f,Sb m _ h1,h2,h3⟩
 |_=>exact h
theorem Ae2 (live:List Nat) {st:St} {a:Act} (h:Rel X st a w):Rel X (st.Jg live) a w:=by
 obtain ⟨π,h⟩:=h;have m:=Move.Jg (X:=X) (w:=w) (π:=π) live (H:=st.heap);refine ⟨π,⟨h.1.below,h.1.sc,h.1.sub,h.1.place,h.1.inj,λj hj Ii=>h.1.iM j hj λh0=>Ii (by show Ay (st.heap.map λp=>(p.1,pb live p.1 p.2)) j=none;rw [kH,h0];rfl),λj=>?_⟩,?_⟩
 ·have hn:Ay (st.Jg live).heap j=(Ay st.heap j).map (pb live j):=kH (pb live) st.heap j;have ho:=h.1.heap j
  cases l7:Ay st.heap j with
  |none=>rw [l7] at hn;exact Gu.Vd (ho.emp l7) hn
  |some c=>
   rw [l7] at hn;refine Gu.Mg ?_ hn;have hb:=(ho.Se l7).move m (Ap _) (λr0 c h0 h1=>h.1.sub _ r0 c h0 h1) λ_ _ _ _ _=>rfl
   cases c with
   |arr fr tr e tid xs=>
    simp only [OB.map,Cq,Km,OB.Jg,pb] at hb⊢
    cases hp:π j with
    |none=>rw [hp] at hb;exact hb
    |some r=>
     rw [hp] at hb;obtain ⟨⟨g1,g2,g3⟩,cur,ti,g4,g5,g6,g7,g8,g9⟩:=hb;refine ⟨⟨g1,g2,λhf=>g3 (Hc.1 hf).1⟩,cur,ti,g4,g5,g6,g7,λi x hx=>?_,λht=>g9 (Hc.1 ht).1⟩;obtain ⟨es,k1,k2,k3⟩:=g8 i x hx;refine ⟨es,k1,k2,Cells.Gd (Ap _) (λ_ _ _=>rfl) (λb _ hA=>?_) e es x k3⟩;exact hA.imp id (Or.imp id λ⟨h1,h2⟩=>⟨(Hc.1 h1).1,h2⟩)
   |Hl e tid xs=>exact hb
   |Ca e te rows out kp=>exact hb
   |var tid vs=>
    have e:(OB.var tid vs).map (λc=>c)= .var tid vs:=by simp [OB.map]
    rw [e] at hb;obtain ⟨r',h1,h2,cur,h3,h4,h5⟩:=hb;refine ⟨r',h1,h2,cur,h3,by rw [h4,Ct],λi c hc=>?_⟩;rw [Fa] at hc
    cases hv:vs[i]? with
    |none=>rw [hv] at hc;cases hc
    |some c0=>
     rw [hv] at hc;obtain ⟨u,k1,k2,k3⟩:=h5 i c0 hv;refine ⟨u,k1,k2,?_⟩;have hc:AC.Ajf (live.contains Ux) c0=c:=Bi hc;subst hc
     cases c0 with
     |data fr τ x=>
      show Dd w (Dk X.w0.heap.size X.Sc π (fr&&!(live.contains Ux&&τ.flat))) τ u x;exact Dd.Jg k3 λb _ hA=>hA.imp id (Or.imp id λ⟨h1,h2⟩=>⟨(Hc.1 h1).1,h2⟩)
     |_=>exact k3
   |Wl v f=>exact hb
 ·exact ⟨h.2.size,h.2.defers,λt=>by have:=m.av (h.2.tmps t);rwa [AC.map_id] at this⟩
theorem BN (t:Nat) {st:St} {a:Act} (h:Rel X st a w):Rel X (cz t st) a w:=by
 obtain ⟨π,h⟩:=h;unfold cz;split
 ·rename_i l off len hg;split
  ·rename_i fr tr e tid xs hl;split
   ·rename_i ud;have hv:=h.2.tmps t;rw [hg] at hv;obtain ⟨π',h1,h2,_⟩:=uV h (by simpa using ud) hl hv;refine ⟨π',h1.1,⟨?_,h1.2.defers,λk=>?_⟩⟩
    ·show a.tmps.size=(Tm _ t _).length;rw [aB];exact h1.2.size
    ·show Bx X w π' _ ((Tm _ t _).getD k .undef) _;rw [Ri];split
     ·rename_i hk;obtain ⟨rfl,_⟩:=hk;exact h2
     ·exact h1.2.tmps k
   ·exact ⟨π,h⟩
  ·exact ⟨π,h⟩
 ·exact ⟨π,h⟩
theorem Move.Am9 {H:List (Nat×OB)} {π:Pi} {m:Nat} {tid:TypeId} {vs vs':List AC} (hm:Ay H m=some (.var tid vs)):Move X w w π π H (aN H m (.var tid vs')) (λc=>c):=by
 have ne: ∀l b,Ay H l=some b->(∀t us,b≠ .var t us)->Ay (aN H m (.var tid vs')) l=some b:= λl b h hb=>by
  rw [Ej H m l _ (λe=>by subst e;rw [hm] at h;cases h;exact hb _ _ rfl)];exact h
 have va: ∀l t us,Ay H l=some (.var t us)-> ∃t' Xt,Ay (aN H m (.var tid vs')) l=some (.var t' Xt):= λl t us h=>by
  by_cases e:l=m
  ·subst e;exact ⟨_,_,Ff H l _ _ hm⟩
  ·exact ⟨t,us,by rw [Ej H m l _ e];exact h⟩
 refine ⟨λc v h=>?_,λ_ _ _ _ h=>h⟩
 cases c with
 |own l off len=>obtain ⟨b,sz,n,h1,h2,h3⟩:=h;exact ⟨b,sz,n,ne l b h1 (λt us e=>by subst e;cases h2),h2,h3⟩
 |Hs l i=>obtain ⟨r,t,us,h1,h2⟩:=h;obtain ⟨t',Xt,h3⟩:=va l t us h1;exact ⟨r,t',Xt,h3,h2⟩
 |Kq l i=>obtain ⟨r,b,sz,n,h1,h2,h3⟩:=h;exact ⟨r,b,sz,n,ne l b h1 (λt us e=>by subst e;cases h2),h2,h3⟩
 |sub l i c=>obtain ⟨r,b,sz,n,h1,h2,h3⟩:=h;exact ⟨r,b,sz,n,ne l b h1 (λt us e=>by subst e;cases h2),h2,h3⟩
 |Kl l i j=>obtain ⟨r,b,n,sz,g,o,len,cap,h1,h2,h3⟩:=h;exact ⟨r,b,n,sz,g,o,len,cap,ne l b h1 (λt us e=>by subst e;cases h2),h2,h3⟩
 |clo f En=>
  obtain ⟨us,h1,h2,h3⟩:=h;refine ⟨us,h1,h2,λj p hp=>?_⟩;obtain ⟨r,t,ws,h4,h5⟩:=h3 j p hp;obtain ⟨t',Xt,h6⟩:=va p.1 t ws h4;exact ⟨r,t',Xt,h6,h5⟩
 |Le l=>obtain ⟨r,vt,f,h1,h2⟩:=h;exact ⟨r,vt,f,ne l _ h1 (λt us e=>by cases e),h2⟩
 |_=>exact h
theorem JC {π:Pi} {st:St} {a:Act} (h:Bs X π st a w) {m:Nat} {tid:TypeId} {vs:List AC} (hm:Ay st.heap m=some (.var tid vs)) {c:Nat} {x:AC}
  (hx: ∀r cur u,π m=some r->w.heap[r.g]?=some (.cells cur tid (0,0))->cur.toList[c]?=some u->Hw X w π st.heap x u):Bs X π (st.Kk m (.var tid (vs.set c x))) a w:=by
 have mv:=Move.Am9 (X:=X) (w:=w) (π:=π) (vs':=vs.set c x) hm;refine ⟨⟨h.1.below,h.1.sc,h.1.sub,h.1.place,h.1.inj,λj hj Ii=>h.1.iM j hj λh0=>Ii ?_,λj=>?_⟩,?_⟩
 ·show Ay (aN st.heap m _) j=none;rw [Ej _ _ _ _ (λe=>by subst e;rw [hm] at h0;cases h0)];exact h0
 ·have ho:=h.1.heap j
  by_cases e:j=m
  ·subst e;refine Gu.Mg (b:= .var tid (vs.set c x)) ?_ (Ff st.heap j _ _ hm);obtain ⟨r,h1,h2,cur,h3,h4⟩:=ho.Se hm;refine ⟨r,h1,h2,cur,h3,?_⟩;obtain ⟨h5,h6⟩:=h4;refine ⟨by rw [Bb];exact h5,λi d hd=>?_⟩;rw [Fb] at hd;split at hd
   ·rename_i hci;subst hci;split at hd
    ·rename_i Kr;cases hd;obtain ⟨u,g1,g2,_⟩:=h6 c vs[c] (Ad Kr);exact ⟨u,g1,g2,mv.ac _ _ (hx r cur u h1 h3 g1)⟩
    ·cases hd
   ·obtain ⟨u,g1,g2,g3⟩:=h6 i d hd;exact ⟨u,g1,g2,mv.ac _ _ g3⟩
  ·have hn:Ay (st.Kk m (.var tid (vs.set c x))).heap j=Ay st.heap j:=Ej _ _ _ _ e
   cases hg:Ay st.heap j with
   |none=>exact Gu.Vd (ho.emp hg) (hn.trans hg)
   |some b=>
    have hb:=(ho.Se hg).move mv (Ap _) (λr0 c h0 h1=>h.1.sub _ r0 c h0 h1) λ_ _ _ _ _=>rfl;refine Gu.Mg ?_ (hn.trans hg)
    have eid:b.map (λc=>c)=b:=by cases b<;>simp [OB.map]
    rw [eid] at hb;exact hb
 ·exact ⟨h.2.size,h.2.defers,λt=>by have:=mv.av (h.2.tmps t);rwa [AC.map_id] at this⟩
theorem qb (c:Nat) {st:St} {a:Act} (h:Rel X st a w):Rel X (Qi c st) a w:=by
 obtain ⟨π,h⟩:=h;unfold Qi;split
 ·rename_i Bds vs hm;split
  ·rename_i l off len hc;split
   ·rename_i fr tr e te xs hl;split
    ·rename_i ud;split
     ·rename_i tid vs' hm'
      have hlv:Pq≠l:= λe=>by subst e;rw [hm] at hl;cases hl
      obtain ⟨r,h1,h2,cur,h3,h4,h5⟩:=(h.1.heap Pq).Se hm;obtain ⟨u,g1,g2,g3⟩:=h5 c _ hc;obtain ⟨π',k1,k2,k3⟩:=uV h (by simpa using ud) hl g3;refine ⟨π',JC k1 hm' λr' aI u' q1 q2 q3=>?_⟩;rw [k3 Pq hlv,h1] at q1;cases q1;rw [h3] at q2;cases q2;rw [g1] at q3;cases q3;exact k2
     ·exact ⟨π,h⟩
    ·exact ⟨π,h⟩
   ·exact ⟨π,h⟩
  ·exact ⟨π,h⟩
 ·exact ⟨π,h⟩
theorem im (live:List Nat): ∀(n c:Nat) (st:St) (a:Act) (w:World),Rel X st a w->Rel X (Py live n c st) a w
 |0,_,_,_,_,h=>h
 |n+1,c,st,a,w,h=>by
  simp only [Py];refine im live n (c+1) _ a w ?_;split
  ·exact qb c h
  ·exact h
theorem lS (live:List Nat): ∀(n t:Nat) (st:St) (a:Act) (w:World),Rel X st a w->Rel X (Po live n t st) a w
 |0,_,st,a,w,h=>im live 16 0 st a w h
 |n+1,t,st,a,w,h=>by
  simp only [Po];refine lS live n (t+1) _ a w ?_;split
  ·exact BN t h
  ·exact h
theorem UD (live:List Nat) {st:St} {a:Act} (h:Rel X st a w):Rel X (st.clean live) a w:=by
 obtain ⟨π,h⟩:=h
 have Abe: ∀s:St,Rel X s a w->Rel X (if live.any (λt=>Nat.ble Ux t) then s.Jg live else s) a w:=by
  intro s hs;split
  ·exact Ae2 live hs
  ·exact hs
 have key: ∀s:St,Rel X s a w->Rel X (if live.contains dy then Ng s.tmps.length 0 s else s) a w:=by
  intro s hs;split
  ·exact jK _ _ _ a w hs
  ·exact hs
 have Abf: ∀s:St,Rel X s a w->Rel X (if live.any (λt=>Nat.ble Nf t&&Nat.blt t dy) then Po live s.tmps.length 0 s else s) a w:=by
  intro s hs;split
  ·exact lS _ _ _ _ a w hs
  ·exact hs
 unfold St.clean;refine Abe _ (key _ (Abf _ (dS _ _ a w ⟨π,h.1,⟨by simp [Yl,h.2.size],h.2.defers,λt=>?_⟩⟩)));show Bx X w π st.heap ((Iq live 0 st.tmps).getD t .undef) _;rcases bU live 0 st.tmps t with e|e
 ·rw [e];trivial
 ·rw [e];exact h.2.tmps t
def Ajt:Md->Exit
 | .normal=> .normal
 | .exit id=> .exit id
 | .ret=> .ret
def sU (P:Program) (c:Code) (Q:Exit->Act->World->Prop) (a:Act) (w:World):Prop:=
 ∀(b:Frame) (k:List Item) (cs:List Frame),∃e a' w',Q e a' w'/\Arrives P (lone (b.at a (.code c:: .inLoop c::k)) cs w) b k cs e a' w'
theorem HD {c:Code} {Q:Exit->Act->World->Prop} {a:Act} {w:World} (h:c.wp P (Exit.then (sU P c Q) Q) a w):sU P c Q a w:=by
 intro b k cs;obtain ⟨e,ZO,Ae3,hq,FX⟩:=h b (.inLoop c::k) cs
 cases e with
 |normal=>
  obtain ⟨Atx,Atr,Axl,Apy,Afe⟩:=hq b k cs;exact ⟨Atx,Atr,Axl,Apy, .of_steps (Steps.trans FX (.one step_inLoop)) Afe⟩
 |exit id=>exact ⟨_,ZO,Ae3,hq, .pass (x:= .inLoop c) rfl (λ_ _=> .inl (by simp)) FX⟩
 |goto l=>exact ⟨_,ZO,Ae3,hq, .pass (x:= .inLoop c) rfl (λ_ _=> .inl (by simp)) FX⟩
 |ret=>exact ⟨_,ZO,Ae3,hq, .pass (x:= .inLoop c) rfl (λ_ _=> .inl (by simp)) FX⟩
 |panic ch=>exact ⟨_,ZO,Ae3,hq, .pass (x:= .inLoop c) rfl (λ_ _=> .inl (by simp)) FX⟩
 |outgrown=>exact ⟨_,ZO,Ae3,hq, .pass (x:= .inLoop c) rfl (λ_ _=> .inl (by simp)) FX⟩
theorem YH {c:Code} {Q:Exit->Act->World->Prop} {a:Act} {w:World} (h:sU P c Q a w):(Code.loop c).wp P Q a w:=by
 intro b k cs;obtain ⟨e,a',w',hq,FX⟩:=h b k cs;exact ⟨e,a',w',hq, .of_steps (.one step_loop) FX⟩
theorem hJ (ops:Array Oper): ∀(i:Nat) (l:List AV),(Pj ops i l).length=l.length
 |_,[]=>rfl
 |i,v::r=>by cases v<;>simp [Pj,hJ ops (i+1) r]
theorem lq (ops:Array Oper): ∀(i:Nat) (l:List AV) (t:Nat),(Pj ops i l).getD t .undef= .undef\/(Pj ops i l).getD t .undef=l.getD t .undef
 |_,[],_=> .inr rfl
 |i,v::r,0=>by
  cases v with
  |Nh l=>
   simp only [Pj,Yg];split
   ·exact .inr rfl
   ·exact .inl rfl
  |_=>exact .inr rfl
 |i,v::r,t+1=>by
  have h:=lq ops (i+1) r t
  cases v<;>(simp only [Pj,Nz];exact h)
theorem FE (ops:Array Oper) {st:St} {a:Act} (h:Rel X st a w):Rel X (st.nL ops) a w:=by
 obtain ⟨π,h⟩:=h;refine ⟨π,h.1,⟨by show a.tmps.size=(Pj ops 0 st.tmps).length;rw [hJ];exact h.2.size,h.2.defers,λt=>?_⟩⟩;show Bx X w π st.heap ((Pj ops 0 st.tmps).getD t .undef) _;rcases lq ops 0 st.tmps t with e|e
 ·rw [e];trivial
 ·rw [e];exact h.2.tmps t
theorem ve (hT:Ec P T) (Pn:Ky P Γ) (hm:P.follows .mixedOrders=true) {live:Nat->List Nat} {c:Code} {st:St} {K:Md->St->Prop} (hr:Ox T Γ live c st K):
  ∀(a:Act) (w:World) (Q:Exit->Act->World->Prop),Rel X st a w->(∀e st' a' w',K e st'->Rel X st' a' w'->Q (Ajt e) a' w')->c.wp P Q a w/\ ∀c',c= .loop c'->sU P c' Q a w:=by
 induction hr with
 |skip hk=>exact λa w Q h hQ=>⟨wp_skip (hQ .normal _ _ _ hk h),λc' e=>by cases e⟩
 |label hk=>exact λa w Q h hQ=>⟨wp_label (hQ .normal _ _ _ hk h),λc' e=>by cases e⟩
 |exit hk=>exact λa w Q h hQ=>⟨wp_exit (hQ (.exit _) _ _ _ hk h),λc' e=>by cases e⟩
 |ret hk=>exact λa w Q h hQ=>⟨wp_ret (hQ .ret _ _ _ hk h),λc' e=>by cases e⟩
 |region hk=>exact λa w Q h hQ=>⟨PC hT (Pn.reg _) hm (FE _ h) hk λst' a' w' h1 h2=>hQ .normal _ _ _ h1 h2,λc' e=>by cases e⟩
 |seq Q1 _ _ h3 VC GJ=>
  intro a w Q h hQ;refine ⟨wp_seq ((VC a w _ h λe st' a' w' hk h'=>?_).1),λc' e=>by cases e⟩
  cases e with
  |normal=>exact (GJ st' hk a' w' Q h' hQ).1
  |exit id=>exact hQ (.exit id) _ _ _ (h3 _ _ (by simp) hk) h'
  |ret=>exact hQ .ret _ _ _ (h3 _ _ (by simp) hk) h'
 |cond hc _ _ VC GJ=>
  intro a w Q h hQ;refine ⟨?_,λc' e=>by cases e⟩;obtain ⟨π,h'⟩:=h;rename_i c x y st fr t Q0 _ _;have hr:=Eb h'.2 c;rw [hc] at hr;refine wp_cond (ay hr) ?_
  cases t with
  |true=>exact (VC rfl a w Q ⟨π,h'⟩ hQ).1
  |false=>exact (GJ rfl a w Q ⟨π,h'⟩ hQ).1
 |block Q1 _ h2 ih=>
  intro a w Q h hQ;rename_i id c st Q0 _;refine ⟨wp_block ((ih a w _ h λe st' a' w' hk h'=>?_).1),λc' e=>by cases e⟩;have h3:=h2 e st' hk
  cases e with
  |normal=>exact hQ .normal _ _ _ h3 h'
  |ret=>exact hQ .ret _ _ _ h3 h'
  |exit VA=>
   show (if VA=id then Q .normal a' w' else Q (.exit VA) a' w');simp only [yb] at h3
   by_cases hid:VA=id
   ·rw [Ac hid] at h3⊢;exact hQ .normal _ _ _ h3 h'
   ·rw [Ai hid] at h3⊢;exact hQ (.exit VA) _ _ _ h3 h'
 |loop Q1 _ _ h3 VC GJ=>
  intro a w Q h hQ;rename_i c st Q0 _ _
  have key:sU P c Q a w:=by
   refine HD ((VC a w _ (UD _ h) λe st' a' w' hk h'=>?_).1)
   cases e with
   |normal=>exact (GJ st' hk a' w' Q h' hQ).2 c rfl
   |exit id=>exact hQ (.exit id) _ _ _ (h3 _ _ (by simp) hk) h'
   |ret=>exact hQ .ret _ _ _ (h3 _ _ (by simp) hk) h'
  exact ⟨YH key,λc' e=>by cases e;exact key⟩
def PI (tmps:Array Value):ResultVar->Sem Value
 | .tmp t=>pure (tmps.getD t undef)
 | .cell p t=>do loadVar t (<-asAddr (tmps.getD p undef))
theorem gx (fn:Func) (tmps:Array Value):results fn tmps=(do
  let vs<-fn.results.mapM (PI tmps)
  pure (if h:vs.size=1 then vs[0] else .tuple vs)):=by
 rfl
theorem SV {α:Type} {l:List α} (h:l.length=2): ∃a b,l= [a,b]:=by
 rcases l with _|⟨a,_|⟨b,_|⟨c,r⟩⟩⟩<;>simp at h
 exact ⟨a,b,rfl⟩
theorem yj {α:Type} {l:List α} (h:l.length=3): ∃a b c,l= [a,b,c]:=by
 rcases l with _|⟨a,_|⟨b,_|⟨c,_|⟨d,r⟩⟩⟩⟩<;>simp at h
 exact ⟨a,b,c,rfl⟩
theorem HB {t:TypeId} {v u:Value} (h:(Instr.loadAt t v).run P w= .ok u w):(do loadVar t (<-asAddr v):Sem Value).run P w= .ok u w:=by
 unfold Instr.loadAt at h
 cases v with
 |pointer a=>
  cases a with
  |some a=>simpa [Instr.sureAddr,asAddr] using h
  |none=>simp [Instr.sureAddr,Result.andThen] at h
 |_=>simp [Instr.sureAddr,Result.andThen] at h
theorem Zc (hT:Ec P T) {st:St} {a:Act} (h:Bs X π st a w): ∀(rs:List ResultVar) (l:List AV),ed T st rs=some l->
  ∃vs:List Value,vs.length=rs.length/\l.length=rs.length/\(∀(i:Nat) r v,rs[i]?=some r->vs[i]?=some v->(PI a.tmps r).run P w= .ok v w)/\(∀(i:Nat) c v,l[i]?=some c->vs[i]?=some v->Bx X w π st.heap c v)
 | [],l,he=>by
  simp only [ed,Aa] at he;subst he;exact ⟨[],rfl,rfl,λi r v hr=>by simp at hr,λi c v hc=>by simp at hc⟩
 | .tmp t::r,l,he=>by
  simp only [ed] at he
  cases hr:ed T st r with
  |none=>rw [hr] at he;cases he
  |some l'=>
   rw [hr] at he;simp only [An,Aa] at he;subst he;obtain ⟨vs,h1,h2,h3,h4⟩:=Zc hT h r l' hr;refine ⟨a.tmps.getD t undef::vs,by simp [h1],by simp [h2],λi r' v lb hv=>?_,λi c v hc hv=>?_⟩
   ·rcases i with _|i
    ·rw [Cf,Aa] at lb hv;subst lb;subst hv;rfl
    ·exact h3 i r' v (by simpa using lb) (by simpa using hv)
   ·rcases i with _|i
    ·rw [Cf,Aa] at hc hv;subst hc;subst hv;exact h.2.tmps t
    ·exact h4 i c v (by simpa using hc) (by simpa using hv)
 | .cell p t::r,l,he=>by
  simp only [ed] at he;split at he
  ·rename_i c0 l' hl0 hr;simp only [Aa] at he;subst he;obtain ⟨u,hu,hru⟩:=nR hT h t _ _ c0 (h.2.tmps p) hl0;obtain ⟨vs,h1,h2,h3,h4⟩:=Zc hT h r l' hr;refine ⟨u::vs,by simp [h1],by simp [h2],λi r' v lb hv=>?_,λi c v hc hv=>?_⟩
   ·rcases i with _|i
    ·simp at lb hv;subst lb;subst hv;exact HB hu
    ·exact h3 i r' v (by simpa using lb) (by simpa using hv)
   ·rcases i with _|i
    ·simp at hc hv;subst hc;subst hv;exact hru
    ·exact h4 i c v (by simpa using hc) (by simpa using hv)
  ·cases he
theorem FK (hT:Ec P T) {st:St} {a:Act} (h:Bs X π st a w) (s:Spec) (fn:Func) (fr:Bool) (y:s.res.den) (he:nV T s fn st=some (fr,y)) {S:Nat->Prop} (hS:Ul X S fr):
  ∃v,(results fn a.tmps).run P w= .ok v w/\mg s w S v y:=by
 have hrs:fn.results=fn.results.toList.toArray:=Array.toArray_toList.symm;unfold nV at he;split at he
 ·rename_i c hl;obtain ⟨vs,h1,h2,h3,h4⟩:=Zc hT h _ _ hl;split at he
  ·cases he
  ·rename_i hm
   have hlen:fn.results.toList.length=1:=by rw [<-h2];rfl
   obtain ⟨r,hr⟩:=Ek.1 hlen;rw [hlen] at h1;obtain ⟨v,rfl⟩:=Ek.1 h1;have e0:=h3 0 r v (by rw [hr];rfl) rfl;refine ⟨v,?_,?_⟩
   ·rw [gx,hrs,hr];simp [e0]
   ·unfold mg;rw [Ai hm];exact Zo h.1 s.res c v fr y (h4 0 c v rfl rfl) he hS
 ·rename_i c d hl;obtain ⟨vs,h1,h2,h3,h4⟩:=Zc hT h _ _ hl;split at he
  ·rename_i hm
   have hlen:fn.results.toList.length=2:=by rw [<-h2];rfl
   obtain ⟨r1,r2,hr⟩:=SV hlen;rw [hlen] at h1;obtain ⟨v1,v2,rfl⟩:=SV h1;have e0:=h3 0 r1 v1 (by rw [hr];rfl) rfl;have e1:=h3 1 r2 v2 (by rw [hr];rfl) rfl;refine ⟨.tuple #[v1,v2],?_,?_⟩
   ·rw [gx,hrs,hr];simp [e0,e1]
   ·unfold mg;rw [Ac hm];exact ⟨[v1,v2],rfl,bx h.1 s.res _ _ fr y rfl h4 he hS⟩
  ·cases he
 ·rename_i c d d' hl;obtain ⟨vs,h1,h2,h3,h4⟩:=Zc hT h _ _ hl;split at he
  ·rename_i hm
   have hlen:fn.results.toList.length=3:=by rw [<-h2];rfl
   obtain ⟨r1,r2,r3,hr⟩:=yj hlen;rw [hlen] at h1;obtain ⟨v1,v2,v3,rfl⟩:=yj h1;have e0:=h3 0 r1 v1 (by rw [hr];rfl) rfl;have e1:=h3 1 r2 v2 (by rw [hr];rfl) rfl;have e2:=h3 2 r3 v3 (by rw [hr];rfl) rfl;refine ⟨.tuple #[v1,v2,v3],?_,?_⟩
   ·rw [gx,hrs,hr];simp [e0,e1,e2]
   ·unfold mg;rw [Ac hm];exact ⟨[v1,v2,v3],rfl,bx h.1 s.res _ _ fr y rfl h4 he hS⟩
  ·cases he
 ·cases he
theorem tj {S:Nat->Prop} : ∀(τ:Ty) (vs:List Value) (x:τ.den),De w S τ vs x->
  (Ts τ x).length=vs.length/\ ∀i,Bx ⟨w,S,λ_=>False,λ_=>none⟩ w (λ_=>none) [] ((Ts τ x).getD i .undef) (vs.getD i undef)
 | .pair a r,[],x,h=>h.elim
 | .pair a r,v::vs,x,h=>by
  obtain ⟨h1,h2⟩:=tj r vs x.2 h.2;refine ⟨by simp [Ts,h1],λi=>?_⟩;rcases i with _|i
  ·simp only [Ts,Yg]
   cases hf:a.flat with
   |true=>exact Dd.flat hf h.1
   |false=>
    exact Dd.Jg h.1 λk _ hk=>by
     rcases hk with ⟨l,r,hl,_⟩|hk|⟨hk,_⟩
     ·cases hl
     ·exact hk
     ·cases hk
  ·simpa [Ts] using h2 i
 | .unit,[],_,_=>⟨rfl,λi=>by simp [Ts];trivial⟩
 | .unit,_::_,_,h=>h.elim
 | .int _,_,_,h=>by simp [De] at h
 | .bool,_,_,h=>by simp [De] at h
 | .str,_,_,h=>by simp [De] at h
 | .slice _,_,_,h=>by simp [De] at h
 | .ptr _,_,_,h=>by simp [De] at h
 | .oslice _,_,_,h=>by simp [De] at h
 | .optr _,_,_,h=>by simp [De] at h
 | .smap _,_,_,h=>by simp [De] at h
 | .clo _ _,_,_,h=>by simp [De] at h
theorem zA (hT:Ec P T) (Pn:Ky P Γ) (hm:P.follows .mixedOrders=true) {f:FuncId} {fn:Func} (hf:P.funcs[f]?=some fn) (s:Spec) (w:World) (S:Nat->Prop) (vs:List Value) (x:s.arg.den) (y:s.res.den)
  (hS: ∀k,S k->k<w.heap.size) (hx:De w S s.arg vs x) (he:ZG T Γ s fn x λz=>z=y):
  Calls P f vs.toArray w λe w'=> ∃v,e= .returned v/\Below w.heap.size w w'/\mg s w' (λb=>S b\/(s.fresh=true/\b<w.heap.size)) v y:=by
 obtain ⟨c,hb,he⟩:=he
 skip
 ·obtain ⟨hl,Rr⟩:=tj (w:=w) s.arg vs x hx
  have h0:Rel ⟨w,S,λ_=>False,λ_=>none⟩ {tmps:=Ts s.arg x++List.replicate (fn.ntmps-(Ts s.arg x).length) .undef,heap:= []} {tmps:=vs.toArray++Array.replicate (fn.ntmps-vs.toArray.size) undef,defers:= []} w:=by
   refine ⟨λ_=>none,⟨Lk.refl _ _ _,λb hb=>⟨hS b hb,λh=>h⟩,(λ_ _ _ h=>by cases h),(λ_ _ _ h=>by cases h),(λ_ _ _ _ _ h=>by cases h),λl _ hn=>absurd rfl hn,λl=>rfl⟩,⟨by simp [hl],rfl,λt=>?_⟩⟩;have h1:=Rr t;show Bx _ w _ [] ((Ts s.arg x++List.replicate _ AV.undef).getD t .undef) ((vs.toArray++Array.replicate _ undef).getD t undef)
   by_cases ht:t<vs.length
   ·rw [Al,Au (by omega),<-Al];rw [cQ,Uf (by simpa using ht)];simpa [Al] using h1
   ·have:(Ts s.arg x++List.replicate (fn.ntmps-(Ts s.arg x).length) AV.undef).getD t .undef= .undef:=by
     rw [Al,As (by omega)];rw [Zs]
     split<;>rfl
    rw [this];trivial
  refine calls_of_wp hf hb ?_;refine (ve hT Pn hm he _ w _ h0 λe st a' w' ⟨Ii,fr,y',si,zK,hy⟩ ⟨π,h'⟩=>?_).1;subst hy
  have Apt:=FK hT h' s fn fr y' si (S:= λb=>S b\/(s.fresh=true/\b<w.heap.size)) ⟨λk hk=>⟨by rcases hk with hk|hk;exact hS k hk;exact hk.2,λh=>h⟩,by
   simp only [Kx,Fy] at zK;rcases zK with h|h
   ·exact .inl h
   ·right;intro k hk;rcases hk with hk|⟨hk,_⟩
    ·exact hk
    ·rw [h] at hk;cases hk⟩
  obtain ⟨v,hv,hr⟩:=Apt
  cases e with
  |normal=>exact ⟨h'.2.defers,v,hv,v,rfl,h'.1.below.plain,hr⟩
  |ret=>exact ⟨h'.2.defers,v,hv,v,rfl,h'.1.below.plain,hr⟩
  |exit id=>exact absurd rfl (Ii id)
theorem iX {f:FuncId} {fn:Func} (hf:P.funcs[f]?=some fn) (hn:(fn.name== "runtime.NumGoroutine")=false) (hb:fn.body.isNone=false) (args:Array Value) (w:World):
  (callFunc f args).run P w= .ok (.enter f args) w:=by
 unfold callFunc;simp only [Sem.run_bind,run_program,Result.andThen_ok,hf,hn,hb,Dt,Uk,Sem.run_pure]
theorem Acr (hT:Ec P T) (Pn:Ky P Γ) (hm:P.follows .mixedOrders=true) {f:FuncId} {fn:Func} (hf:P.funcs[f]?=some fn) (hn:(fn.name== "runtime.NumGoroutine")=false) (hb:fn.body.isNone=false) (s:Spec)
  (h: ∀x y,s.fn x=some y->ZG T Γ s fn x λz=>z=y):Sound P f s:=
 ⟨iX hf hn hb,λw S vs x y hS hx hy=>zA hT Pn hm hf s w S vs x y hS hx (h x y hy)⟩
end
end Go.Proofs.Ytfgfigkbgecfnaa
