/-
  Part 26 of the proof that the statement FnTables holds.
-/
import Derived.Test.YtkkdpknjohcekaaCFTables24
namespace Go.Proofs.Ytkkdpknjohcekaa
open Go.RowKit
section
variable {P:Program} {T:Tab} {Γ:Env} {X:Ctx} {w w':World} {π:Pi}
def aB (π:Pi) (l k:Nat):Pi:= λm=>if m=k then π l else if m=l then none else π m
theorem PD {st:St} {l k:Nat} {b:OB} (hk:Aq st.heap k=none) (hl:Aq st.heap l=some b):
  Aq (Nj (Yn (st.heap.map λp=>(p.1,p.2.map (Tq l k))) l) k (b.map (Tq l k))) k=some (b.map (Tq l k))/\
  Aq (Nj (Yn (st.heap.map λp=>(p.1,p.2.map (Tq l k))) l) k (b.map (Tq l k))) l=none/\
  ∀m,m≠k->m≠l->Aq (Nj (Yn (st.heap.map λp=>(p.1,p.2.map (Tq l k))) l) k (b.map (Tq l k))) m=(Aq st.heap m).map (OB.map (Tq l k)):=by
 have Jg:l≠k:= λe=>by subst e;rw [hk] at hl;cases hl
 refine ⟨Po _ _ _ ?_,?_,λm h1 h2=>?_⟩
 ·rw [Mu _ _ _ Jg.symm,Nr,hk];rfl
 ·rw [Oi _ _ _ _ Jg,Ls]
 ·rw [Oi _ _ _ _ h1,Mu _ _ _ h2,Nr]
theorem Move.ren {st:St} {l k:Nat} {b:OB} {H':List (Nat×OB)} (hk:Aq st.heap k=none) (hl:Aq st.heap l=some b) (e1:Aq H' k=some (b.map (Tq l k))) (_e2:Aq H' l=none)
  (e3: ∀m,m≠k->m≠l->Aq H' m=(Aq st.heap m).map (OB.map (Tq l k))) (bI: ∀c,Ue (aB π l k) c->Ue π c):Move X w w π (aB π l k) st.heap H' (Tq l k):=by
 have Jg:l≠k:= λe=>by subst e;rw [hk] at hl;cases hl
 have hc: ∀fr τ cs x,Cells w (Cp X.w0.heap.size X.Sc π fr) τ cs x->Cells w (Cp X.w0.heap.size X.Sc (aB π l k) fr) τ cs x:=
  fun fr τ cs x h=>Cells.Gg (Ar _) (λ_ _ _=>rfl) (λc _ hA=>hA.imp (bI c) id) τ cs x h
 have Yc: ∀m c,Aq st.heap m=some c->Aq H' (mQ l k m)=some (c.map (Tq l k))/\aB π l k (mQ l k m)=π m:=by
  intro m c hm
  unfold mQ
  by_cases e:m=l
  ·subst e
   rw [hl] at hm;cases hm
   rw [Ab rfl]
   exact ⟨e1,by unfold aB;rw [Ab rfl]⟩
  ·have e':m≠k:= λe'=>by subst e';rw [hk] at hm;cases hm
   rw [Al e]
   exact ⟨by rw [e3 m e' e,hm];rfl,by unfold aB;rw [Al e',Al e]⟩
 refine ⟨λc v h=>?_,hc⟩
 cases c with
 |data fr τ x=>obtain ⟨cs,h1,h2⟩:=h;exact ⟨cs,hc _ _ _ _ h1,h2⟩
 |own m off len=>
  obtain ⟨b',sz,n,h1,h0,h2,h3⟩:=h
  obtain ⟨g1,g2⟩:=Yc m b' h1
  exact ⟨_,sz,n,g1,by cases b'<;>exact h0,h2,by rw [g2];exact h3⟩
 |Gs m i=>
  obtain ⟨r,tid,vs,h1,h2,h3⟩:=h
  obtain ⟨g1,g2⟩:=Yc m _ h1
  exact ⟨r,tid,_,g1,by rw [g2];exact h2,h3⟩
 |Jl m i=>
  obtain ⟨r,b',sz,n,h1,h0,h2,h3,h4⟩:=h
  obtain ⟨g1,g2⟩:=Yc m b' h1
  exact ⟨r,_,sz,n,g1,by cases b'<;>exact h0,h2,by rw [g2];exact h3,h4⟩
 |sub m i c=>
  obtain ⟨r,b,sz,n,h1,h0,h2,h3,h4,h5⟩:=h
  obtain ⟨g1,g2⟩:=Yc m _ h1
  exact ⟨r,_,sz,n,g1,by cases b<;>exact h0,by rw [g2];exact h2,h3,h4,h5⟩
 |Ji m i c=>
  obtain ⟨r,b,n,sz,g,o,len,cap,h1,h0,h2,h3⟩:=h
  obtain ⟨g1,g2⟩:=Yc m _ h1
  exact ⟨r,_,n,sz,g,o,len,cap,g1,by cases b<;>exact h0,by rw [g2];exact h2,h3⟩
 |clo f Dy=>
  obtain ⟨us,h1,h2,h3⟩:=h
  refine ⟨us,h1,by simpa using h2,λj p hp=>?_⟩
  rw [Fk] at hp
  cases hq:Dy[j]? with
  |none=>rw [hq] at hp;cases hp
  |some q=>
   rw [hq] at hp
   simp only [Ai,Aa] at hp
   subst hp
   obtain ⟨r,tid,vs,h4,h5,h6⟩:=h3 j q hq
   obtain ⟨g1,g2⟩:=Yc q.1 _ h4
   exact ⟨r,tid,_,g1,by rw [g2];exact h5,h6⟩
 |Jw m=>
  obtain ⟨r,vt,f,h1,h2,h3⟩:=h
  obtain ⟨g1,g2⟩:=Yc m _ h1
  exact ⟨r,vt,f,g1,by rw [g2];exact h2,h3⟩
 |_=>exact h
theorem EU (l k:Nat) {st:St} {a:Act} (h:Rel X st a w):Rel X (st.rename l k) a w:=by
 unfold St.rename
 split
 ·rename_i b hk hl
  split
  ·rename_i hp
   simp only [Ag,Ml] at hp
   obtain ⟨π,h⟩:=h
   have Jg:l≠k:= λe=>by subst e;rw [hk] at hl;cases hl
   obtain ⟨e1,e2,e3⟩:=PD hk hl
   have VG:π k=none:=(h.1.heap k).emp hk
   have un: ∀m r,aB π l k m=some r-> ∃m',π m'=some r/\mQ l k m'=m:= λm r hm=>by
    unfold aB at hm
    split at hm
    ·rename_i e;subst e;exact ⟨l,hm,by unfold mQ;rw [Ab rfl]⟩
    ·rename_i e
     split at hm
     ·cases hm
     ·rename_i e';exact ⟨m,hm,by unfold mQ;rw [Al e']⟩
   have m:=Move.ren (X:=X) (w:=w) (π:=π) hk hl e1 e2 e3 λc ⟨j,r,h1,h2⟩=>let ⟨j',h3,_⟩:=un j r h1;⟨j',r,h3,h2⟩
   refine ⟨aB π l k,⟨h.1.below,h.1.sc,λj r c h1 h2=>?_,λj r c h1 h2=>?_,λj1 j2 r1 r2 c h1 h2 h3 h4=>?_,λj hj Aab=>?_,λj=>?_⟩,?_⟩
   ·obtain ⟨j',h3,_⟩:=un j r h1;exact h.1.sub j' r c h3 h2
   ·obtain ⟨j',h3,_⟩:=un j r h1;exact h.1.place j' r c h3 h2
   ·obtain ⟨j1',g1,g2⟩:=un j1 r1 h1
    obtain ⟨j2',g3,g4⟩:=un j2 r2 h2
    rw [<-g2,<-g4,h.1.inj j1' j2' r1 r2 c g1 g3 h3 h4]
   ·have n1:j≠k:= λe=>by omega
    have n2:j≠l:= λe=>by omega
    have Adi:Aq st.heap j≠none:= λh0=>Aab ((e3 j n1 n2).trans (by rw [h0];rfl))
    have:=h.1.fb j hj Adi
    unfold aB
    rw [Al n1,Al n2]
    exact this
   ·by_cases n1:j=k
    ·subst n1
     refine Fq.La ?_ e1
     unfold aB
     rw [Ab rfl]
     exact ((h.1.heap l).Qi hl).move m (Ar _) (λr0 c h0 h1=>h.1.sub _ r0 c h0 h1) λ_ _ _ _ _=>rfl
    ·by_cases n2:j=l
     ·subst n2
      exact Fq.Sr (by unfold aB;rw [Al n1,Ab rfl]) e2
     ·have hr:aB π l k j=π j:=by unfold aB;rw [Al n1,Al n2]
      have hn:=e3 j n1 n2
      have ho:=h.1.heap j
      cases lh:Aq st.heap j with
      |none=>rw [lh] at hn;exact Fq.Sr (by rw [hr];exact ho.emp lh) hn
      |some c=>
       rw [lh] at hn
       refine Fq.La ?_ hn
       rw [hr]
       exact (ho.Qi lh).move m (Ar _) (λr0 c h0 h1=>h.1.sub _ r0 c h0 h1) λ_ _ _ _ _=>rfl
   ·have:pA X w (aB π l k) {tmps:=st.tmps.map (·.map (Tq l k)),heap:=Nj (Yn (st.heap.map λp=>(p.1,p.2.map (Tq l k))) l) k (b.map (Tq l k))} a:=m.ET rfl h.2
    exact this
  ·exact h
 ·exact h
theorem gG: ∀(n t:Nat) (st:St) (a:Act) (w:World),Rel X st a w->Rel X (Lx n t st) a w
 |0,_,_,_,_,h=>h
 |n+1,t,st,a,w,h=>by
  simp only [Lx]
  refine gG n (t+1) _ a w ?_
  split
  ·split
   ·split
    ·exact h
    ·exact EU _ _ h
   ·exact h
  ·exact h
theorem ik (f:Nat->OB->OB): ∀(H:List (Nat×OB)) (l:Nat),Aq (H.map λp=>(p.1,f p.1 p.2)) l=(Aq H l).map (f l)
 | [],_=>rfl
 |(k,b)::r,l=>by
  simp only [Bh,Aq]
  split
  ·rename_i e;subst e;rfl
  ·exact ik f r l
theorem OB.BH (x y z:Bool) (b:OB):(b.Io x y z).row=b.row:=by cases b<;>rfl
def lZ (live:List Nat) (l:Nat) (b:OB):OB:=b.Io (live.contains Sm) (live.contains (hZ+l)) (live.contains (TQ+l))
theorem Move.Io (live:List Nat) {H:List (Nat×OB)} :Move X w w π π H (H.map λp=>(p.1,lZ live p.1 p.2)) (λc=>c):=by
 refine ⟨λc v h=>?_,λfr τ cs x h=>h⟩
 have Yc: ∀m c,Aq H m=some c->Aq (H.map λp=>(p.1,lZ live p.1 p.2)) m=some (lZ live m c):= λm c hm=>by rw [ik,hm];rfl
 cases c with
 |own m off len=>
  obtain ⟨b',sz,n,h1,h0,h2,h3⟩:=h
  exact ⟨_,sz,n,Yc m b' h1,by unfold lZ;rw [OB.BH];exact h0,h2,h3⟩
 |Gs m i=>
  obtain ⟨r,tid,vs,h1,h2,h3⟩:=h
  exact ⟨r,tid,_,Yc m _ h1,h2,h3⟩
 |Jl m i=>
  obtain ⟨r,b',sz,n,h1,h0,h2,h3,h4⟩:=h
  exact ⟨r,_,sz,n,Yc m b' h1,by unfold lZ;rw [OB.BH];exact h0,h2,h3,h4⟩
 |sub m i c=>
  obtain ⟨r,b,sz,n,h1,h0,h2⟩:=h
  exact ⟨r,_,sz,n,Yc m _ h1,by cases b<;>exact h0,h2⟩
 |Ji m i c=>
  obtain ⟨r,b,n,sz,g,o,len,cap,h1,h0,h2⟩:=h
  exact ⟨r,_,n,sz,g,o,len,cap,Yc m _ h1,by cases b<;>exact h0,h2⟩
 |clo f Dy=>
  obtain ⟨us,h1,h2,h3⟩:=h
  refine ⟨us,h1,h2,λj p hp=>?_⟩
  obtain ⟨r,tid,vs,h4,h5,h6⟩:=h3 j p hp
  exact ⟨r,tid,_,Yc p.1 _ h4,h5,h6⟩
 |Jw m=>
  obtain ⟨r,vt,f,h1,h2,h3⟩:=h
  exact ⟨r,vt,f,Yc m _ h1,h2,h3⟩
 |_=>exact h
theorem TR (live:List Nat) {st:St} {a:Act} (h:Rel X st a w):Rel X (st.Io live) a w:=by
 obtain ⟨π,h⟩:=h
 have m:=Move.Io (X:=X) (w:=w) (π:=π) live (H:=st.heap)
 refine ⟨π,⟨h.1.below,h.1.sc,h.1.sub,h.1.place,h.1.inj,λj hj Jg=>h.1.fb j hj λh0=>Jg (by show Aq (st.heap.map λp=>(p.1,lZ live p.1 p.2)) j=none;rw [ik,h0];rfl),λj=>?_⟩,?_⟩
 ·have hn:Aq (st.Io live).heap j=(Aq st.heap j).map (lZ live j):=ik (lZ live) st.heap j
  have ho:=h.1.heap j
  cases lh:Aq st.heap j with
  |none=>rw [lh] at hn;exact Fq.Sr (ho.emp lh) hn
  |some c=>
   rw [lh] at hn
   refine Fq.La ?_ hn
   have hb:=(ho.Qi lh).move m (Ar _) (λr0 c h0 h1=>h.1.sub _ r0 c h0 h1) λ_ _ _ _ _=>rfl
   cases c with
   |arr fr tr e tid xs=>
    simp only [OB.map,Bw,Jj,OB.Io,lZ] at hb⊢
    cases hp:π j with
    |none=>rw [hp] at hb;exact hb
    |some r=>
     rw [hp] at hb
     obtain ⟨⟨g1,g2,g3⟩,cur,ti,g4,g5,g6,g7,g8,g9⟩:=hb
     refine ⟨⟨g1,g2,λhf=>g3 (Bj.1 hf).1⟩,cur,ti,g4,g5,g6,g7,λi x hx=>?_,λht=>g9 (Bj.1 ht).1⟩
     obtain ⟨es,k1,k2,k3⟩:=g8 i x hx
     refine ⟨es,k1,k2,Cells.Gg (Ar _) (λ_ _ _=>rfl) (λb _ hA=>?_) e es x k3⟩
     exact hA.imp id (Or.imp id λ⟨h1,h2⟩=>⟨(Bj.1 h1).1,h2⟩)
   |Gl e tid xs=>exact hb
   |Bm e te rows out kp=>exact hb
   |var tid vs=>
    have e:(OB.var tid vs).map (λc=>c)= .var tid vs:=by simp [OB.map]
    rw [e] at hb
    obtain ⟨r',h1,h2,cur,h3,h4,h5⟩:=hb
    refine ⟨r',h1,h2,cur,h3,by rw [h4,Fm],λi c hc=>?_⟩
    rw [Fk] at hc
    cases hv:vs[i]? with
    |none=>rw [hv] at hc;cases hc
    |some c0=>
     rw [hv] at hc
     obtain ⟨u,k1,k2,k3⟩:=h5 i c0 hv
     refine ⟨u,k1,k2,?_⟩
     have hc:AC.YU (live.contains Sm) c0=c:=Ba hc
     subst hc
     cases c0 with
     |data fr τ x=>
      show Df w (Cp X.w0.heap.size X.Sc π (fr&&!(live.contains Sm&&τ.flat))) τ u x
      exact Df.Io k3 λb _ hA=>hA.imp id (Or.imp id λ⟨h1,h2⟩=>⟨(Bj.1 h1).1,h2⟩)
     |_=>exact k3
   |Ub v f=>exact hb
 ·exact ⟨h.2.size,h.2.defers,λt=>by have:=m.av (h.2.tmps t);rwa [AC.map_id] at this⟩
theorem x6 (t:Nat) {st:St} {a:Act} (h:Rel X st a w):Rel X (az t st) a w:=by
 obtain ⟨π,h⟩:=h
 unfold az
 split
 ·rename_i l off len hg
  split
  ·rename_i fr tr e tid xs hl
   split
   ·rename_i oD
    have hv:=h.2.tmps t
    rw [hg] at hv
    obtain ⟨π',h1,h2,_⟩:=rj h (by simpa using oD) hl hv
    refine ⟨π',h1.1,⟨?_,h1.2.defers,λk=>?_⟩⟩
    ·show a.tmps.size=(Rg _ t _).length
     rw [Xx];exact h1.2.size
    ·show Bi X w π' _ ((Rg _ t _).getD k .undef) _
     rw [Ps]
     split
     ·rename_i hk
      obtain ⟨rfl,_⟩:=hk
      exact h2
     ·exact h1.2.tmps k
   ·exact ⟨π,h⟩
  ·exact ⟨π,h⟩
 ·exact ⟨π,h⟩
theorem Move.Abd {H:List (Nat×OB)} {π:Pi} {m:Nat} {tid:TypeId} {vs vs':List AC} (hm:Aq H m=some (.var tid vs)):Move X w w π π H (Yj H m (.var tid vs')) (λc=>c):=by
 have ne: ∀l b,Aq H l=some b->(∀t us,b≠ .var t us)->Aq (Yj H m (.var tid vs')) l=some b:= λl b h hb=>by
  rw [Dt H m l _ (λe=>by subst e;rw [hm] at h;cases h;exact hb _ _ rfl)];exact h
 have va: ∀l t us,Aq H l=some (.var t us)-> ∃t' Vl,Aq (Yj H m (.var tid vs')) l=some (.var t' Vl):= λl t us h=>by
  by_cases e:l=m
  ·subst e;exact ⟨_,_,El H l _ _ hm⟩
  ·exact ⟨t,us,by rw [Dt H m l _ e];exact h⟩
 refine ⟨λc v h=>?_,λ_ _ _ _ h=>h⟩
 cases c with
 |own l off len=>obtain ⟨b,sz,n,h1,h2,h3⟩:=h;exact ⟨b,sz,n,ne l b h1 (λt us e=>by subst e;cases h2),h2,h3⟩
 |Gs l i=>obtain ⟨r,t,us,h1,h2⟩:=h;obtain ⟨t',Vl,h3⟩:=va l t us h1;exact ⟨r,t',Vl,h3,h2⟩
 |Jl l i=>obtain ⟨r,b,sz,n,h1,h2,h3⟩:=h;exact ⟨r,b,sz,n,ne l b h1 (λt us e=>by subst e;cases h2),h2,h3⟩
 |sub l i c=>obtain ⟨r,b,sz,n,h1,h2,h3⟩:=h;exact ⟨r,b,sz,n,ne l b h1 (λt us e=>by subst e;cases h2),h2,h3⟩
 |Ji l i j=>obtain ⟨r,b,n,sz,g,o,len,cap,h1,h2,h3⟩:=h;exact ⟨r,b,n,sz,g,o,len,cap,ne l b h1 (λt us e=>by subst e;cases h2),h2,h3⟩
 |clo f Dy=>
  obtain ⟨us,h1,h2,h3⟩:=h
  refine ⟨us,h1,h2,λj p hp=>?_⟩
  obtain ⟨r,t,ws,h4,h5⟩:=h3 j p hp
  obtain ⟨t',Vl,h6⟩:=va p.1 t ws h4
  exact ⟨r,t',Vl,h6,h5⟩
 |Jw l=>obtain ⟨r,vt,f,h1,h2⟩:=h;exact ⟨r,vt,f,ne l _ h1 (λt us e=>by cases e),h2⟩
 |_=>exact h
theorem zY {π:Pi} {st:St} {a:Act} (h:Bd X π st a w) {m:Nat} {tid:TypeId} {vs:List AC} (hm:Aq st.heap m=some (.var tid vs)) {c:Nat} {x:AC}
  (hx: ∀r cur u,π m=some r->w.heap[r.g]?=some (.cells cur tid (0,0))->cur.toList[c]?=some u->Gx X w π st.heap x u):Bd X π (st.Jh m (.var tid (vs.set c x))) a w:=by
 have mv:=Move.Abd (X:=X) (w:=w) (π:=π) (vs':=vs.set c x) hm
 refine ⟨⟨h.1.below,h.1.sc,h.1.sub,h.1.place,h.1.inj,λj hj Jg=>h.1.fb j hj λh0=>Jg ?_,λj=>?_⟩,?_⟩
 ·show Aq (Yj st.heap m _) j=none
  rw [Dt _ _ _ _ (λe=>by subst e;rw [hm] at h0;cases h0)];exact h0
 ·have ho:=h.1.heap j
  by_cases e:j=m
  ·subst e
   refine Fq.La (b:= .var tid (vs.set c x)) ?_ (El st.heap j _ _ hm)
   obtain ⟨r,h1,h2,cur,h3,h4⟩:=ho.Qi hm
   refine ⟨r,h1,h2,cur,h3,?_⟩
   obtain ⟨h5,h6⟩:=h4
   refine ⟨by rw [Ez];exact h5,λi d hd=>?_⟩
   rw [Dp] at hd
   split at hd
   ·rename_i hci
    subst hci
    split at hd
    ·rename_i Js
     cases hd
     obtain ⟨u,g1,g2,_⟩:=h6 c vs[c] (Ac Js)
     exact ⟨u,g1,g2,mv.ac _ _ (hx r cur u h1 h3 g1)⟩
    ·cases hd
   ·obtain ⟨u,g1,g2,g3⟩:=h6 i d hd
    exact ⟨u,g1,g2,mv.ac _ _ g3⟩
  ·have hn:Aq (st.Jh m (.var tid (vs.set c x))).heap j=Aq st.heap j:=Dt _ _ _ _ e
   cases hg:Aq st.heap j with
   |none=>exact Fq.Sr (ho.emp hg) (hn.trans hg)
   |some b=>
    have hb:=(ho.Qi hg).move mv (Ar _) (λr0 c h0 h1=>h.1.sub _ r0 c h0 h1) λ_ _ _ _ _=>rfl
    refine Fq.La ?_ (hn.trans hg)
    have eid:b.map (λc=>c)=b:=by cases b<;>simp [OB.map]
    rw [eid] at hb
    exact hb
 ·exact ⟨h.2.size,h.2.defers,λt=>by have:=mv.av (h.2.tmps t);rwa [AC.map_id] at this⟩
theorem mP (c:Nat) {st:St} {a:Act} (h:Rel X st a w):Rel X (Oy c st) a w:=by
 obtain ⟨π,h⟩:=h
 unfold Oy
 split
 ·rename_i Aqc vs hm
  split
  ·rename_i l off len hc
   split
   ·rename_i fr tr e te xs hl
    split
    ·rename_i oD
     split
     ·rename_i tid vs' hm'
      have hlv:Oc≠l:= λe=>by subst e;rw [hm] at hl;cases hl
      obtain ⟨r,h1,h2,cur,h3,h4,h5⟩:=(h.1.heap Oc).Qi hm
      obtain ⟨u,g1,g2,g3⟩:=h5 c _ hc
      obtain ⟨π',k1,k2,k3⟩:=rj h (by simpa using oD) hl g3
      refine ⟨π',zY k1 hm' λr' Ye u' q1 q2 q3=>?_⟩
      rw [k3 Oc hlv,h1] at q1
      cases q1
      rw [h3] at q2
      cases q2
      rw [g1] at q3
      cases q3
      exact k2
     ·exact ⟨π,h⟩
    ·exact ⟨π,h⟩
   ·exact ⟨π,h⟩
  ·exact ⟨π,h⟩
 ·exact ⟨π,h⟩
theorem eD (live:List Nat): ∀(n c:Nat) (st:St) (a:Act) (w:World),Rel X st a w->Rel X (On live n c st) a w
 |0,_,_,_,_,h=>h
 |n+1,c,st,a,w,h=>by
  simp only [On]
  refine eD live n (c+1) _ a w ?_
  split
  ·exact mP c h
  ·exact h
theorem jh (live:List Nat): ∀(n t:Nat) (st:St) (a:Act) (w:World),Rel X st a w->Rel X (Nx live n t st) a w
 |0,_,st,a,w,h=>eD live 16 0 st a w h
 |n+1,t,st,a,w,h=>by
  simp only [Nx]
  refine jh live n (t+1) _ a w ?_
  split
  ·exact x6 t h
  ·exact h
theorem JE (live:List Nat) {st:St} {a:Act} (h:Rel X st a w):Rel X (st.clean live) a w:=by
 obtain ⟨π,h⟩:=h
 have QL: ∀s:St,Rel X s a w->Rel X (if live.any (λt=>Nat.ble Sm t) then s.Io live else s) a w:=by
  intro s hs
  split
  ·exact TR live hs
  ·exact hs
 have key: ∀s:St,Rel X s a w->Rel X (if live.contains bo then Lx s.tmps.length 0 s else s) a w:=by
  intro s hs
  split
  ·exact gG _ _ _ a w hs
  ·exact hs
 have QM: ∀s:St,Rel X s a w->Rel X (if live.any (λt=>Nat.ble aA t&&Nat.blt t bo) then Nx live s.tmps.length 0 s else s) a w:=by
  intro s hs
  split
  ·exact jh _ _ _ _ a w hs
  ·exact hs
 unfold St.clean
 refine QL _ (key _ (QM _ (bH _ _ a w ⟨π,h.1,⟨by simp [Vv,h.2.size],h.2.defers,λt=>?_⟩⟩)))
 show Bi X w π st.heap ((Hr live 0 st.tmps).getD t .undef) _
 rcases a9 live 0 st.tmps t with e|e
 ·rw [e];trivial
 ·rw [e];exact h.2.tmps t
def ZK:Kx->Exit
 | .normal=> .normal
 | .exit id=> .exit id
 | .ret=> .ret
def pz (P:Program) (c:Code) (Q:Exit->Act->World->Prop) (a:Act) (w:World):Prop:=
 ∀(b:Frame) (k:List Item) (cs:List Frame),∃e a' w',Q e a' w'/\Arrives P (lone (b.at a (.code c:: .inLoop c::k)) cs w) b k cs e a' w'
theorem zh {c:Code} {Q:Exit->Act->World->Prop} {a:Act} {w:World} (h:c.wp P (Exit.then (pz P c Q) Q) a w):pz P c Q a w:=by
 intro b k cs
 obtain ⟨e,OE,TS,hq,yP⟩:=h b (.inLoop c::k) cs
 cases e with
 |normal=>
  obtain ⟨Ahi,Ahb,Akj,Ae0,UT⟩:=hq b k cs
  exact ⟨Ahi,Ahb,Akj,Ae0, .of_steps (Steps.trans yP (.one step_inLoop)) UT⟩
 |exit id=>exact ⟨_,OE,TS,hq, .pass (x:= .inLoop c) rfl (λ_ _=> .inl (by simp)) yP⟩
 |goto l=>exact ⟨_,OE,TS,hq, .pass (x:= .inLoop c) rfl (λ_ _=> .inl (by simp)) yP⟩
 |ret=>exact ⟨_,OE,TS,hq, .pass (x:= .inLoop c) rfl (λ_ _=> .inl (by simp)) yP⟩
 |panic ch=>exact ⟨_,OE,TS,hq, .pass (x:= .inLoop c) rfl (λ_ _=> .inl (by simp)) yP⟩
 |outgrown=>exact ⟨_,OE,TS,hq, .pass (x:= .inLoop c) rfl (λ_ _=> .inl (by simp)) yP⟩
theorem NH {c:Code} {Q:Exit->Act->World->Prop} {a:Act} {w:World} (h:pz P c Q a w):(Code.loop c).wp P Q a w:=by
 intro b k cs
 obtain ⟨e,a',w',hq,yP⟩:=h b k cs
 exact ⟨e,a',w',hq, .of_steps (.one step_loop) yP⟩
theorem eh (ops:Array Oper): ∀(i:Nat) (l:List AV),(Np ops i l).length=l.length
 |_,[]=>rfl
 |i,v::r=>by cases v<;>simp [Np,eh ops (i+1) r]
theorem iS (ops:Array Oper): ∀(i:Nat) (l:List AV) (t:Nat),(Np ops i l).getD t .undef= .undef\/(Np ops i l).getD t .undef=l.getD t .undef
 |_,[],_=> .inr rfl
 |i,v::r,0=>by
  cases v with
  |Mb l=>
   simp only [Np,eb]
   split
   ·exact .inr rfl
   ·exact .inl rfl
  |_=>exact .inr rfl
 |i,v::r,t+1=>by
  have h:=iS ops (i+1) r t
  cases v<;>(simp only [Np,Mp];exact h)
theorem yB (ops:Array Oper) {st:St} {a:Act} (h:Rel X st a w):Rel X (st.kQ ops) a w:=by
 obtain ⟨π,h⟩:=h
 refine ⟨π,h.1,⟨by show a.tmps.size=(Np ops 0 st.tmps).length;rw [eh];exact h.2.size,h.2.defers,λt=>?_⟩⟩
 show Bi X w π st.heap ((Np ops 0 st.tmps).getD t .undef) _
 rcases iS ops 0 st.tmps t with e|e
 ·rw [e];trivial
 ·rw [e];exact h.2.tmps t
theorem rv (hT:Ed P T) (Nt:Kd P Γ) (hm:P.follows .mixedOrders=true) {live:Nat->List Nat} {c:Code} {st:St} {K:Kx->St->Prop} (hr:Ni T Γ live c st K):
  ∀(a:Act) (w:World) (Q:Exit->Act->World->Prop),Rel X st a w->(∀e st' a' w',K e st'->Rel X st' a' w'->Q (ZK e) a' w')->c.wp P Q a w/\ ∀c',c= .loop c'->pz P c' Q a w:=by
 induction hr with
 |skip hk=>exact λa w Q h hQ=>⟨wp_skip (hQ .normal _ _ _ hk h),λc' e=>by cases e⟩
 |label hk=>exact λa w Q h hQ=>⟨wp_label (hQ .normal _ _ _ hk h),λc' e=>by cases e⟩
 |exit hk=>exact λa w Q h hQ=>⟨wp_exit (hQ (.exit _) _ _ _ hk h),λc' e=>by cases e⟩
 |ret hk=>exact λa w Q h hQ=>⟨wp_ret (hQ .ret _ _ _ hk h),λc' e=>by cases e⟩
 |region hk=>exact λa w Q h hQ=>⟨ES hT (Nt.reg _) hm (yB _ h) hk λst' a' w' h1 h2=>hQ .normal _ _ _ h1 h2,λc' e=>by cases e⟩
 |seq Q1 _ _ h3 KD yY=>
  intro a w Q h hQ
  refine ⟨wp_seq ((KD a w _ h λe st' a' w' hk h'=>?_).1),λc' e=>by cases e⟩
  cases e with
  |normal=>exact (yY st' hk a' w' Q h' hQ).1
  |exit id=>exact hQ (.exit id) _ _ _ (h3 _ _ (by simp) hk) h'
  |ret=>exact hQ .ret _ _ _ (h3 _ _ (by simp) hk) h'
 |cond hc _ _ KD yY=>
  intro a w Q h hQ
  refine ⟨?_,λc' e=>by cases e⟩
  obtain ⟨π,h'⟩:=h
  rename_i c x y st fr t Q0 _ _
  have hr:=Dm h'.2 c
  rw [hc] at hr
  refine wp_cond (Xv hr) ?_
  cases t with
  |true=>exact (KD rfl a w Q ⟨π,h'⟩ hQ).1
  |false=>exact (yY rfl a w Q ⟨π,h'⟩ hQ).1
 |block Q1 _ h2 ih=>
  intro a w Q h hQ
  rename_i id c st Q0 _
  refine ⟨wp_block ((ih a w _ h λe st' a' w' hk h'=>?_).1),λc' e=>by cases e⟩
  have h3:=h2 e st' hk
  cases e with
  |normal=>exact hQ .normal _ _ _ h3 h'
  |ret=>exact hQ .ret _ _ _ h3 h'
  |exit KC=>
   show (if KC=id then Q .normal a' w' else Q (.exit KC) a' w')
   simp only [ue] at h3
   by_cases hid:KC=id
   ·rw [Ab hid] at h3⊢;exact hQ .normal _ _ _ h3 h'
   ·rw [Al hid] at h3⊢;exact hQ (.exit KC) _ _ _ h3 h'
 |loop Q1 _ _ h3 KD yY=>
  intro a w Q h hQ
  rename_i c st Q0 _ _
  have key:pz P c Q a w:=by
   refine zh ((KD a w _ (JE _ h) λe st' a' w' hk h'=>?_).1)
   cases e with
   |normal=>exact (yY st' hk a' w' Q h' hQ).2 c rfl
   |exit id=>exact hQ (.exit id) _ _ _ (h3 _ _ (by simp) hk) h'
   |ret=>exact hQ .ret _ _ _ (h3 _ _ (by simp) hk) h'
  exact ⟨NH key,λc' e=>by cases e;exact key⟩
def EW (tmps:Array Value):ResultVar->Sem Value
 | .tmp t=>pure (tmps.getD t undef)
 | .cell p t=>do loadVar t (<-asAddr (tmps.getD p undef))
theorem dF (fn:Func) (tmps:Array Value):results fn tmps=(do
  let vs<-fn.results.mapM (EW tmps)
  pure (if h:vs.size=1 then vs[0] else .tuple vs)):=by
 rfl
theorem HZ {α:Type} {l:List α} (h:l.length=2): ∃a b,l= [a,b]:=by
 rcases l with _|⟨a,_|⟨b,_|⟨c,r⟩⟩⟩<;>simp at h
 exact ⟨a,b,rfl⟩
theorem uo {α:Type} {l:List α} (h:l.length=3): ∃a b c,l= [a,b,c]:=by
 rcases l with _|⟨a,_|⟨b,_|⟨c,_|⟨d,r⟩⟩⟩⟩<;>simp at h
 exact ⟨a,b,c,rfl⟩
theorem zf {t:TypeId} {v u:Value} (h:(Instr.loadAt t v).run P w= .ok u w):(do loadVar t (<-asAddr v):Sem Value).run P w= .ok u w:=by
 unfold Instr.loadAt at h
 cases v with
 |pointer a=>
  cases a with
  |some a=>simpa [Instr.sureAddr,asAddr] using h
  |none=>simp [Instr.sureAddr,Result.andThen] at h
 |_=>simp [Instr.sureAddr,Result.andThen] at h
theorem Wl (hT:Ed P T) {st:St} {a:Act} (h:Bd X π st a w): ∀(rs:List ResultVar) (l:List AV),bQ T st rs=some l->
  ∃vs:List Value,vs.length=rs.length/\l.length=rs.length/\(∀(i:Nat) r v,rs[i]?=some r->vs[i]?=some v->(EW a.tmps r).run P w= .ok v w)/\(∀(i:Nat) c v,l[i]?=some c->vs[i]?=some v->Bi X w π st.heap c v)
 | [],l,he=>by
  simp only [bQ,Aa] at he;subst he
  exact ⟨[],rfl,rfl,λi r v hr=>by simp at hr,λi c v hc=>by simp at hc⟩
 | .tmp t::r,l,he=>by
  simp only [bQ] at he
  cases hr:bQ T st r with
  |none=>rw [hr] at he;cases he
  |some l'=>
   rw [hr] at he
   simp only [Ai,Aa] at he;subst he
   obtain ⟨vs,h1,h2,h3,h4⟩:=Wl hT h r l' hr
   refine ⟨a.tmps.getD t undef::vs,by simp [h1],by simp [h2],λi r' v iK hv=>?_,λi c v hc hv=>?_⟩
   ·rcases i with _|i
    ·rw [Bn,Aa] at iK hv;subst iK;subst hv;rfl
    ·exact h3 i r' v (by simpa using iK) (by simpa using hv)
   ·rcases i with _|i
    ·rw [Bn,Aa] at hc hv;subst hc;subst hv;exact h.2.tmps t
    ·exact h4 i c v (by simpa using hc) (by simpa using hv)
 | .cell p t::r,l,he=>by
  simp only [bQ] at he
  split at he
  ·rename_i c0 l' hl0 hr
   simp only [Aa] at he;subst he
   obtain ⟨u,hu,hru⟩:=kX hT h t _ _ c0 (h.2.tmps p) hl0
   obtain ⟨vs,h1,h2,h3,h4⟩:=Wl hT h r l' hr
   refine ⟨u::vs,by simp [h1],by simp [h2],λi r' v iK hv=>?_,λi c v hc hv=>?_⟩
   ·rcases i with _|i
    ·simp at iK hv;subst iK;subst hv;exact zf hu
    ·exact h3 i r' v (by simpa using iK) (by simpa using hv)
   ·rcases i with _|i
    ·simp at hc hv;subst hc;subst hv;exact hru
    ·exact h4 i c v (by simpa using hc) (by simpa using hv)
  ·cases he
theorem yF (hT:Ed P T) {st:St} {a:Act} (h:Bd X π st a w) (s:Spec) (fn:Func) (fr:Bool) (y:s.res.den) (he:l5 T s fn st=some (fr,y)) {S:Nat->Prop} (hS:Qa X S fr):
  ∃v,(results fn a.tmps).run P w= .ok v w/\jF s w S v y:=by
 have VJ:fn.results=fn.results.toList.toArray:=Array.toArray_toList.symm
 unfold l5 at he
 split at he
 ·rename_i c hl
  obtain ⟨vs,h1,h2,h3,h4⟩:=Wl hT h _ _ hl
  split at he
  ·cases he
  ·rename_i hm
   have hlen:fn.results.toList.length=1:=by rw [<-h2];rfl
   obtain ⟨r,hr⟩:=Dv.1 hlen
   rw [hlen] at h1
   obtain ⟨v,rfl⟩:=Dv.1 h1
   have e0:=h3 0 r v (by rw [hr];rfl) rfl
   refine ⟨v,?_,?_⟩
   ·rw [dF,VJ,hr]
    simp [e0]
   ·unfold jF
    rw [Al hm]
    exact Wu h.1 s.res c v fr y (h4 0 c v rfl rfl) he hS
 ·rename_i c d hl
  obtain ⟨vs,h1,h2,h3,h4⟩:=Wl hT h _ _ hl
  split at he
  ·rename_i hm
   have hlen:fn.results.toList.length=2:=by rw [<-h2];rfl
   obtain ⟨r1,r2,hr⟩:=HZ hlen
   rw [hlen] at h1
   obtain ⟨v1,v2,rfl⟩:=HZ h1
   have e0:=h3 0 r1 v1 (by rw [hr];rfl) rfl
   have e1:=h3 1 r2 v2 (by rw [hr];rfl) rfl
   refine ⟨.tuple #[v1,v2],?_,?_⟩
   ·rw [dF,VJ,hr]
    simp [e0,e1]
   ·unfold jF
    rw [Ab hm]
    exact ⟨[v1,v2],rfl,Zj h.1 s.res _ _ fr y rfl h4 he hS⟩
  ·cases he
 ·rename_i c d d' hl
  obtain ⟨vs,h1,h2,h3,h4⟩:=Wl hT h _ _ hl
  split at he
  ·rename_i hm
   have hlen:fn.results.toList.length=3:=by rw [<-h2];rfl
   obtain ⟨r1,r2,r3,hr⟩:=uo hlen
   rw [hlen] at h1
   obtain ⟨v1,v2,v3,rfl⟩:=uo h1
   have e0:=h3 0 r1 v1 (by rw [hr];rfl) rfl
   have e1:=h3 1 r2 v2 (by rw [hr];rfl) rfl
   have e2:=h3 2 r3 v3 (by rw [hr];rfl) rfl
   refine ⟨.tuple #[v1,v2,v3],?_,?_⟩
   ·rw [dF,VJ,hr]
    simp [e0,e1,e2]
   ·unfold jF
    rw [Ab hm]
    exact ⟨[v1,v2,v3],rfl,Zj h.1 s.res _ _ fr y rfl h4 he hS⟩
  ·cases he
 ·cases he
theorem pM {S:Nat->Prop} : ∀(τ:Ty) (vs:List Value) (x:τ.den),Ch w S τ vs x->
  (Rn τ x).length=vs.length/\ ∀i,Bi ⟨w,S,λ_=>False,λ_=>none⟩ w (λ_=>none) [] ((Rn τ x).getD i .undef) (vs.getD i undef)
 | .pair a r,[],x,h=>h.elim
 | .pair a r,v::vs,x,h=>by
  obtain ⟨h1,h2⟩:=pM r vs x.2 h.2
  refine ⟨by simp [Rn,h1],λi=>?_⟩
  rcases i with _|i
  ·simp only [Rn,eb]
   cases hf:a.flat with
   |true=>exact Df.flat hf h.1
   |false=>
    exact Df.Io h.1 λk _ hk=>by
     rcases hk with ⟨l,r,hl,_⟩|hk|⟨hk,_⟩
     ·cases hl
     ·exact hk
     ·cases hk
  ·simpa [Rn] using h2 i
 | .unit,[],_,_=>⟨rfl,λi=>by simp [Rn];trivial⟩
 | .unit,_::_,_,h=>h.elim
 | .int _,_,_,h=>by simp [Ch] at h
 | .bool,_,_,h=>by simp [Ch] at h
 | .str,_,_,h=>by simp [Ch] at h
 | .slice _,_,_,h=>by simp [Ch] at h
 | .ptr _,_,_,h=>by simp [Ch] at h
 | .oslice _,_,_,h=>by simp [Ch] at h
 | .optr _,_,_,h=>by simp [Ch] at h
 | .smap _,_,_,h=>by simp [Ch] at h
 | .clo _ _,_,_,h=>by simp [Ch] at h
theorem vP (hT:Ed P T) (Nt:Kd P Γ) (hm:P.follows .mixedOrders=true) {f:FuncId} {fn:Func} (hf:P.funcs[f]?=some fn) (s:Spec) (w:World) (S:Nat->Prop) (vs:List Value) (x:s.arg.den) (y:s.res.den)
  (hS: ∀k,S k->k<w.heap.size) (hx:Ch w S s.arg vs x) (he:NX T Γ s fn x λz=>z=y):
  Calls P f vs.toArray w λe w'=> ∃v,e= .returned v/\Below w.heap.size w w'/\jF s w' (λb=>S b\/(s.fresh=true/\b<w.heap.size)) v y:=by
 obtain ⟨c,hb,he⟩:=he
 skip
 ·obtain ⟨hl,Qd⟩:=pM (w:=w) s.arg vs x hx
  have h0:Rel ⟨w,S,λ_=>False,λ_=>none⟩ {tmps:=Rn s.arg x++List.replicate (fn.ntmps-(Rn s.arg x).length) .undef,heap:= []} {tmps:=vs.toArray++Array.replicate (fn.ntmps-vs.toArray.size) undef,defers:= []} w:=by
   refine ⟨λ_=>none,⟨Kc.refl _ _ _,λb hb=>⟨hS b hb,λh=>h⟩,(λ_ _ _ h=>by cases h),(λ_ _ _ h=>by cases h),(λ_ _ _ _ _ h=>by cases h),λl _ hn=>absurd rfl hn,λl=>rfl⟩,⟨by simp [hl],rfl,λt=>?_⟩⟩
   have h1:=Qd t
   show Bi _ w _ [] ((Rn s.arg x++List.replicate _ AV.undef).getD t .undef) ((vs.toArray++Array.replicate _ undef).getD t undef)
   by_cases ht:t<vs.length
   ·rw [Ah,Ap (by omega),<-Ah]
    rw [aN,Ry (by simpa using ht)]
    simpa [Ah] using h1
   ·have:(Rn s.arg x++List.replicate (fn.ntmps-(Rn s.arg x).length) AV.undef).getD t .undef= .undef:=by
     rw [Ah,Ao (by omega)]
     rw [List.getElem?_replicate]
     split<;>rfl
    rw [this];trivial
  refine calls_of_wp hf hb ?_
  refine (rv hT Nt hm he _ w _ h0 λe st a' w' ⟨Jg,fr,y',fU,yS,hy⟩ ⟨π,h'⟩=>?_).1
  subst hy
  have Adu:=yF hT h' s fn fr y' fU (S:= λb=>S b\/(s.fresh=true/\b<w.heap.size)) ⟨λk hk=>⟨by rcases hk with hk|hk;exact hS k hk;exact hk.2,λh=>h⟩,by
   simp only [Jq,Dn] at yS
   rcases yS with h|h
   ·exact .inl h
   ·right;intro k hk;rcases hk with hk|⟨hk,_⟩
    ·exact hk
    ·rw [h] at hk;cases hk⟩
  obtain ⟨v,hv,hr⟩:=Adu
  cases e with
  |normal=>exact ⟨h'.2.defers,v,hv,v,rfl,h'.1.below.plain,hr⟩
  |ret=>exact ⟨h'.2.defers,v,hv,v,rfl,h'.1.below.plain,hr⟩
  |exit id=>exact absurd rfl (Jg id)
theorem fu {f:FuncId} {fn:Func} (hf:P.funcs[f]?=some fn) (hn:(fn.name== "runtime.NumGoroutine")=false) (hb:fn.body.isNone=false) (args:Array Value) (w:World):
  (callFunc f args).run P w= .ok (.enter f args) w:=by
 unfold callFunc
 simp only [Sem.run_bind,run_program,Result.andThen_ok,hf,hn,hb,Cy,Sa,Sem.run_pure]
theorem SH (hT:Ed P T) (Nt:Kd P Γ) (hm:P.follows .mixedOrders=true) {f:FuncId} {fn:Func} (hf:P.funcs[f]?=some fn) (hn:(fn.name== "runtime.NumGoroutine")=false) (hb:fn.body.isNone=false) (s:Spec)
  (h: ∀x y,s.fn x=some y->NX T Γ s fn x λz=>z=y):Sound P f s:=
 ⟨fu hf hn hb,λw S vs x y hS hx hy=>vP hT Nt hm hf s w S vs x y hS hx (h x y hy)⟩
end
end Go.Proofs.Ytkkdpknjohcekaa
