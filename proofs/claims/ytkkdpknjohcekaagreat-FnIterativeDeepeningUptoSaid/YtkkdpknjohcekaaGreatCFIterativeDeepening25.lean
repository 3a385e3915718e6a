/-
  Part 26 of the proof that the statement FnIterativeDeepening holds.
-/
import Derived.Test.YtkkdpknjohcekaaGreatCFIterativeDeepening24
namespace Go.Proofs.YtkkdpknjohcekaaGreat
open Go.RowKit
section
variable {P:Program} {T:Tab} {Γ:Env} {X:Ctx} {w w':World} {π:Pi}
def bZ (π:Pi) (l k:Nat):Pi:= λm=>if m=k then π l else if m=l then none else π m
theorem XY {st:St} {l k:Nat} {b:OB} (hk:Av st.heap k=none) (hl:Av st.heap l=some b):
  Av (Ox (aD (st.heap.map λp=>(p.1,p.2.map (Vp l k))) l) k (b.map (Vp l k))) k=some (b.map (Vp l k))/\
  Av (Ox (aD (st.heap.map λp=>(p.1,p.2.map (Vp l k))) l) k (b.map (Vp l k))) l=none/\
  ∀m,m≠k->m≠l->Av (Ox (aD (st.heap.map λp=>(p.1,p.2.map (Vp l k))) l) k (b.map (Vp l k))) m=(Av st.heap m).map (OB.map (Vp l k)):=by
 have Jl:l≠k:= λe=>by subst e;rw [hk] at hl;cases hl
 refine ⟨Ra _ _ _ ?_,?_,λm h1 h2=>?_⟩
 ·rw [Oa _ _ _ Jl.symm,Ph,hk];rfl
 ·rw [Px _ _ _ _ Jl,My]
 ·rw [Px _ _ _ _ h1,Oa _ _ _ h2,Ph]
theorem Move.ren {st:St} {l k:Nat} {b:OB} {H':List (Nat×OB)} (hk:Av st.heap k=none) (hl:Av st.heap l=some b) (e1:Av H' k=some (b.map (Vp l k))) (_e2:Av H' l=none)
  (e3: ∀m,m≠k->m≠l->Av H' m=(Av st.heap m).map (OB.map (Vp l k))) (eg: ∀c,Wa (bZ π l k) c->Wa π c):Move X w w π (bZ π l k) st.heap H' (Vp l k):=by
 have Jl:l≠k:= λe=>by subst e;rw [hk] at hl;cases hl
 have hc: ∀fr τ cs x,Cells w (Cx X.w0.heap.size X.Sc π fr) τ cs x->Cells w (Cx X.w0.heap.size X.Sc (bZ π l k) fr) τ cs x:=
  fun fr τ cs x h=>Cells.Ft (Ap _) (λ_ _ _=>rfl) (λc _ hA=>hA.imp (eg c) id) τ cs x h
 have aj: ∀m c,Av st.heap m=some c->Av H' (pz l k m)=some (c.map (Vp l k))/\bZ π l k (pz l k m)=π m:=by
  intro m c hm
  unfold pz
  by_cases e:m=l
  ·subst e
   rw [hl] at hm;cases hm
   rw [Ab rfl]
   exact ⟨e1,by unfold bZ;rw [Ab rfl]⟩
  ·have e':m≠k:= λe'=>by subst e';rw [hk] at hm;cases hm
   rw [Ai e]
   exact ⟨by rw [e3 m e' e,hm];rfl,by unfold bZ;rw [Ai e',Ai e]⟩
 refine ⟨λc v h=>?_,hc⟩
 cases c with
 |data fr τ x=>obtain ⟨cs,h1,h2⟩:=h;exact ⟨cs,hc _ _ _ _ h1,h2⟩
 |own m off len=>
  obtain ⟨b',sz,n,h1,h0,h2,h3⟩:=h
  obtain ⟨g1,g2⟩:=aj m b' h1
  exact ⟨_,sz,n,g1,by cases b'<;>exact h0,h2,by rw [g2];exact h3⟩
 |Hs m i=>
  obtain ⟨r,tid,vs,h1,h2,h3⟩:=h
  obtain ⟨g1,g2⟩:=aj m _ h1
  exact ⟨r,tid,_,g1,by rw [g2];exact h2,h3⟩
 |Ku m i=>
  obtain ⟨r,b',sz,n,h1,h0,h2,h3,h4⟩:=h
  obtain ⟨g1,g2⟩:=aj m b' h1
  exact ⟨r,_,sz,n,g1,by cases b'<;>exact h0,h2,by rw [g2];exact h3,h4⟩
 |sub m i c=>
  obtain ⟨r,b,sz,n,h1,h0,h2,h3,h4,h5⟩:=h
  obtain ⟨g1,g2⟩:=aj m _ h1
  exact ⟨r,_,sz,n,g1,by cases b<;>exact h0,by rw [g2];exact h2,h3,h4,h5⟩
 |Kr m i c=>
  obtain ⟨r,b,n,sz,g,o,len,cap,h1,h0,h2,h3⟩:=h
  obtain ⟨g1,g2⟩:=aj m _ h1
  exact ⟨r,_,n,sz,g,o,len,cap,g1,by cases b<;>exact h0,by rw [g2];exact h2,h3⟩
 |clo f Ec=>
  obtain ⟨us,h1,h2,h3⟩:=h
  refine ⟨us,h1,by simpa using h2,λj p hp=>?_⟩
  rw [Fk] at hp
  cases hq:Ec[j]? with
  |none=>rw [hq] at hp;cases hp
  |some q=>
   rw [hq] at hp
   simp only [Ak,Aa] at hp
   subst hp
   obtain ⟨r,tid,vs,h4,h5,h6⟩:=h3 j q hq
   obtain ⟨g1,g2⟩:=aj q.1 _ h4
   exact ⟨r,tid,_,g1,by rw [g2];exact h5,h6⟩
 |Lb m=>
  obtain ⟨r,vt,f,h1,h2,h3⟩:=h
  obtain ⟨g1,g2⟩:=aj m _ h1
  exact ⟨r,vt,f,g1,by rw [g2];exact h2,h3⟩
 |_=>exact h
theorem MA (l k:Nat) {st:St} {a:Act} (h:Rel X st a w):Rel X (st.rename l k) a w:=by
 unfold St.rename
 split
 ·rename_i b hk hl
  split
  ·rename_i hp
   simp only [Ag,Ns] at hp
   obtain ⟨π,h⟩:=h
   have Jl:l≠k:= λe=>by subst e;rw [hk] at hl;cases hl
   obtain ⟨e1,e2,e3⟩:=XY hk hl
   have hpk:π k=none:=(h.1.heap k).emp hk
   have un: ∀m r,bZ π l k m=some r-> ∃m',π m'=some r/\pz l k m'=m:= λm r hm=>by
    unfold bZ at hm
    split at hm
    ·rename_i e;subst e;exact ⟨l,hm,by unfold pz;rw [Ab rfl]⟩
    ·rename_i e
     split at hm
     ·cases hm
     ·rename_i e';exact ⟨m,hm,by unfold pz;rw [Ai e']⟩
   have m:=Move.ren (X:=X) (w:=w) (π:=π) hk hl e1 e2 e3 λc ⟨j,r,h1,h2⟩=>let ⟨j',h3,_⟩:=un j r h1;⟨j',r,h3,h2⟩
   refine ⟨bZ π l k,⟨h.1.below,h.1.sc,λj r c h1 h2=>?_,λj r c h1 h2=>?_,λj1 j2 r1 r2 c h1 h2 h3 h4=>?_,λj hj Ahv=>?_,λj=>?_⟩,?_⟩
   ·obtain ⟨j',h3,_⟩:=un j r h1;exact h.1.sub j' r c h3 h2
   ·obtain ⟨j',h3,_⟩:=un j r h1;exact h.1.place j' r c h3 h2
   ·obtain ⟨j1',g1,g2⟩:=un j1 r1 h1
    obtain ⟨j2',g3,g4⟩:=un j2 r2 h2
    rw [<-g2,<-g4,h.1.inj j1' j2' r1 r2 c g1 g3 h3 h4]
   ·have n1:j≠k:= λe=>by omega
    have n2:j≠l:= λe=>by omega
    have Alp:Av st.heap j≠none:= λh0=>Ahv ((e3 j n1 n2).trans (by rw [h0];rfl))
    have:=h.1.gZ j hj Alp
    unfold bZ
    rw [Ai n1,Ai n2]
    exact this
   ·by_cases n1:j=k
    ·subst n1
     refine Gj.Mf ?_ e1
     unfold bZ
     rw [Ab rfl]
     exact ((h.1.heap l).Rz hl).move m (Ap _) (λr0 c h0 h1=>h.1.sub _ r0 c h0 h1) λ_ _ _ _ _=>rfl
    ·by_cases n2:j=l
     ·subst n2
      exact Gj.Uq (by unfold bZ;rw [Ai n1,Ab rfl]) e2
     ·have hr:bZ π l k j=π j:=by unfold bZ;rw [Ai n1,Ai n2]
      have hn:=e3 j n1 n2
      have ho:=h.1.heap j
      cases nw:Av st.heap j with
      |none=>rw [nw] at hn;exact Gj.Uq (by rw [hr];exact ho.emp nw) hn
      |some c=>
       rw [nw] at hn
       refine Gj.Mf ?_ hn
       rw [hr]
       exact (ho.Rz nw).move m (Ap _) (λr0 c h0 h1=>h.1.sub _ r0 c h0 h1) λ_ _ _ _ _=>rfl
   ·have:sl X w (bZ π l k) {tmps:=st.tmps.map (·.map (Vp l k)),heap:=Ox (aD (st.heap.map λp=>(p.1,p.2.map (Vp l k))) l) k (b.map (Vp l k))} a:=m.LZ rfl h.2
    exact this
  ·exact h
 ·exact h
theorem jf: ∀(n t:Nat) (st:St) (a:Act) (w:World),Rel X st a w->Rel X (Nc n t st) a w
 |0,_,_,_,_,h=>h
 |n+1,t,st,a,w,h=>by
  simp only [Nc]
  refine jf n (t+1) _ a w ?_
  split
  ·split
   ·split
    ·exact h
    ·exact MA _ _ h
   ·exact h
  ·exact h
theorem jS (f:Nat->OB->OB): ∀(H:List (Nat×OB)) (l:Nat),Av (H.map λp=>(p.1,f p.1 p.2)) l=(Av H l).map (f l)
 | [],_=>rfl
 |(k,b)::r,l=>by
  simp only [Cc,Av]
  split
  ·rename_i e;subst e;rfl
  ·exact jS f r l
theorem OB.HT (x y z:Bool) (b:OB):(b.Jr x y z).row=b.row:=by cases b<;>rfl
def oB (live:List Nat) (l:Nat) (b:OB):OB:=b.Jr (live.contains Ps) (live.contains (Og+l)) (live.contains (Ac2+l))
theorem Move.Jr (live:List Nat) {H:List (Nat×OB)} :Move X w w π π H (H.map λp=>(p.1,oB live p.1 p.2)) (λc=>c):=by
 refine ⟨λc v h=>?_,λfr τ cs x h=>h⟩
 have aj: ∀m c,Av H m=some c->Av (H.map λp=>(p.1,oB live p.1 p.2)) m=some (oB live m c):= λm c hm=>by rw [jS,hm];rfl
 cases c with
 |own m off len=>
  obtain ⟨b',sz,n,h1,h0,h2,h3⟩:=h
  exact ⟨_,sz,n,aj m b' h1,by unfold oB;rw [OB.HT];exact h0,h2,h3⟩
 |Hs m i=>
  obtain ⟨r,tid,vs,h1,h2,h3⟩:=h
  exact ⟨r,tid,_,aj m _ h1,h2,h3⟩
 |Ku m i=>
  obtain ⟨r,b',sz,n,h1,h0,h2,h3,h4⟩:=h
  exact ⟨r,_,sz,n,aj m b' h1,by unfold oB;rw [OB.HT];exact h0,h2,h3,h4⟩
 |sub m i c=>
  obtain ⟨r,b,sz,n,h1,h0,h2⟩:=h
  exact ⟨r,_,sz,n,aj m _ h1,by cases b<;>exact h0,h2⟩
 |Kr m i c=>
  obtain ⟨r,b,n,sz,g,o,len,cap,h1,h0,h2⟩:=h
  exact ⟨r,_,n,sz,g,o,len,cap,aj m _ h1,by cases b<;>exact h0,h2⟩
 |clo f Ec=>
  obtain ⟨us,h1,h2,h3⟩:=h
  refine ⟨us,h1,h2,λj p hp=>?_⟩
  obtain ⟨r,tid,vs,h4,h5,h6⟩:=h3 j p hp
  exact ⟨r,tid,_,aj p.1 _ h4,h5,h6⟩
 |Lb m=>
  obtain ⟨r,vt,f,h1,h2,h3⟩:=h
  exact ⟨r,vt,f,aj m _ h1,h2,h3⟩
 |_=>exact h
theorem Ac3 (live:List Nat) {st:St} {a:Act} (h:Rel X st a w):Rel X (st.Jr live) a w:=by
 obtain ⟨π,h⟩:=h
 have m:=Move.Jr (X:=X) (w:=w) (π:=π) live (H:=st.heap)
 refine ⟨π,⟨h.1.below,h.1.sc,h.1.sub,h.1.place,h.1.inj,λj hj Jl=>h.1.gZ j hj λh0=>Jl (by show Av (st.heap.map λp=>(p.1,oB live p.1 p.2)) j=none;rw [jS,h0];rfl),λj=>?_⟩,?_⟩
 ·have hn:Av (st.Jr live).heap j=(Av st.heap j).map (oB live j):=jS (oB live) st.heap j
  have ho:=h.1.heap j
  cases nw:Av st.heap j with
  |none=>rw [nw] at hn;exact Gj.Uq (ho.emp nw) hn
  |some c=>
   rw [nw] at hn
   refine Gj.Mf ?_ hn
   have hb:=(ho.Rz nw).move m (Ap _) (λr0 c h0 h1=>h.1.sub _ r0 c h0 h1) λ_ _ _ _ _=>rfl
   cases c with
   |arr fr tr e tid xs=>
    simp only [OB.map,Cg,Ks,OB.Jr,oB] at hb⊢
    cases hp:π j with
    |none=>rw [hp] at hb;exact hb
    |some r=>
     rw [hp] at hb
     obtain ⟨⟨g1,g2,g3⟩,cur,ti,g4,g5,g6,g7,g8,g9⟩:=hb
     refine ⟨⟨g1,g2,λhf=>g3 (Bi.1 hf).1⟩,cur,ti,g4,g5,g6,g7,λi x hx=>?_,λht=>g9 (Bi.1 ht).1⟩
     obtain ⟨es,k1,k2,k3⟩:=g8 i x hx
     refine ⟨es,k1,k2,Cells.Ft (Ap _) (λ_ _ _=>rfl) (λb _ hA=>?_) e es x k3⟩
     exact hA.imp id (Or.imp id λ⟨h1,h2⟩=>⟨(Bi.1 h1).1,h2⟩)
   |Hf e tid xs=>exact hb
   |Bn e te rows out kp=>exact hb
   |var tid vs=>
    have e:(OB.var tid vs).map (λc=>c)= .var tid vs:=by simp [OB.map]
    rw [e] at hb
    obtain ⟨r',h1,h2,cur,h3,h4,h5⟩:=hb
    refine ⟨r',h1,h2,cur,h3,by rw [h4,Gh],λi c hc=>?_⟩
    rw [Fk] at hc
    cases hv:vs[i]? with
    |none=>rw [hv] at hc;cases hc
    |some c0=>
     rw [hv] at hc
     obtain ⟨u,k1,k2,k3⟩:=h5 i c0 hv
     refine ⟨u,k1,k2,?_⟩
     have hc:AC.Agj (live.contains Ps) c0=c:=Az hc
     subst hc
     cases c0 with
     |data fr τ x=>
      show Ct w (Cx X.w0.heap.size X.Sc π (fr&&!(live.contains Ps&&τ.flat))) τ u x
      exact Ct.Jr k3 λb _ hA=>hA.imp id (Or.imp id λ⟨h1,h2⟩=>⟨(Bi.1 h1).1,h2⟩)
     |_=>exact k3
   |Vx v f=>exact hb
 ·exact ⟨h.2.size,h.2.defers,λt=>by have:=m.av (h.2.tmps t);rwa [AC.map_id] at this⟩
theorem zG (t:Nat) {st:St} {a:Act} (h:Rel X st a w):Rel X (bY t st) a w:=by
 obtain ⟨π,h⟩:=h
 unfold bY
 split
 ·rename_i l off len hg
  split
  ·rename_i fr tr e tid xs hl
   split
   ·rename_i re
    have hv:=h.2.tmps t
    rw [hg] at hv
    obtain ⟨π',h1,h2,_⟩:=ug h (by simpa using re) hl hv
    refine ⟨π',h1.1,⟨?_,h1.2.defers,λk=>?_⟩⟩
    ·show a.tmps.size=(Tg _ t _).length
     rw [a9];exact h1.2.size
    ·show Bm X w π' _ ((Tg _ t _).getD k .undef) _
     rw [Rg]
     split
     ·rename_i hk
      obtain ⟨rfl,_⟩:=hk
      exact h2
     ·exact h1.2.tmps k
   ·exact ⟨π,h⟩
  ·exact ⟨π,h⟩
 ·exact ⟨π,h⟩
theorem Move.Aj3 {H:List (Nat×OB)} {π:Pi} {m:Nat} {tid:TypeId} {vs vs':List AC} (hm:Av H m=some (.var tid vs)):Move X w w π π H (aw H m (.var tid vs')) (λc=>c):=by
 have ne: ∀l b,Av H l=some b->(∀t us,b≠ .var t us)->Av (aw H m (.var tid vs')) l=some b:= λl b h hb=>by
  rw [Dx H m l _ (λe=>by subst e;rw [hm] at h;cases h;exact hb _ _ rfl)];exact h
 have va: ∀l t us,Av H l=some (.var t us)-> ∃t' Xf,Av (aw H m (.var tid vs')) l=some (.var t' Xf):= λl t us h=>by
  by_cases e:l=m
  ·subst e;exact ⟨_,_,Ev H l _ _ hm⟩
  ·exact ⟨t,us,by rw [Dx H m l _ e];exact h⟩
 refine ⟨λc v h=>?_,λ_ _ _ _ h=>h⟩
 cases c with
 |own l off len=>obtain ⟨b,sz,n,h1,h2,h3⟩:=h;exact ⟨b,sz,n,ne l b h1 (λt us e=>by subst e;cases h2),h2,h3⟩
 |Hs l i=>obtain ⟨r,t,us,h1,h2⟩:=h;obtain ⟨t',Xf,h3⟩:=va l t us h1;exact ⟨r,t',Xf,h3,h2⟩
 |Ku l i=>obtain ⟨r,b,sz,n,h1,h2,h3⟩:=h;exact ⟨r,b,sz,n,ne l b h1 (λt us e=>by subst e;cases h2),h2,h3⟩
 |sub l i c=>obtain ⟨r,b,sz,n,h1,h2,h3⟩:=h;exact ⟨r,b,sz,n,ne l b h1 (λt us e=>by subst e;cases h2),h2,h3⟩
 |Kr l i j=>obtain ⟨r,b,n,sz,g,o,len,cap,h1,h2,h3⟩:=h;exact ⟨r,b,n,sz,g,o,len,cap,ne l b h1 (λt us e=>by subst e;cases h2),h2,h3⟩
 |clo f Ec=>
  obtain ⟨us,h1,h2,h3⟩:=h
  refine ⟨us,h1,h2,λj p hp=>?_⟩
  obtain ⟨r,t,ws,h4,h5⟩:=h3 j p hp
  obtain ⟨t',Xf,h6⟩:=va p.1 t ws h4
  exact ⟨r,t',Xf,h6,h5⟩
 |Lb l=>obtain ⟨r,vt,f,h1,h2⟩:=h;exact ⟨r,vt,f,ne l _ h1 (λt us e=>by cases e),h2⟩
 |_=>exact h
theorem GL {π:Pi} {st:St} {a:Act} (h:Bh X π st a w) {m:Nat} {tid:TypeId} {vs:List AC} (hm:Av st.heap m=some (.var tid vs)) {c:Nat} {x:AC}
  (hx: ∀r cur u,π m=some r->w.heap[r.g]?=some (.cells cur tid (0,0))->cur.toList[c]?=some u->Ia X w π st.heap x u):Bh X π (st.Kq m (.var tid (vs.set c x))) a w:=by
 have mv:=Move.Aj3 (X:=X) (w:=w) (π:=π) (vs':=vs.set c x) hm
 refine ⟨⟨h.1.below,h.1.sc,h.1.sub,h.1.place,h.1.inj,λj hj Jl=>h.1.gZ j hj λh0=>Jl ?_,λj=>?_⟩,?_⟩
 ·show Av (aw st.heap m _) j=none
  rw [Dx _ _ _ _ (λe=>by subst e;rw [hm] at h0;cases h0)];exact h0
 ·have ho:=h.1.heap j
  by_cases e:j=m
  ·subst e
   refine Gj.Mf (b:= .var tid (vs.set c x)) ?_ (Ev st.heap j _ _ hm)
   obtain ⟨r,h1,h2,cur,h3,h4⟩:=ho.Rz hm
   refine ⟨r,h1,h2,cur,h3,?_⟩
   obtain ⟨h5,h6⟩:=h4
   refine ⟨by rw [Dg];exact h5,λi d hd=>?_⟩
   rw [Eg] at hd
   split at hd
   ·rename_i hci
    subst hci
    split at hd
    ·rename_i Lr
     cases hd
     obtain ⟨u,g1,g2,_⟩:=h6 c vs[c] (Ac Lr)
     exact ⟨u,g1,g2,mv.ac _ _ (hx r cur u h1 h3 g1)⟩
    ·cases hd
   ·obtain ⟨u,g1,g2,g3⟩:=h6 i d hd
    exact ⟨u,g1,g2,mv.ac _ _ g3⟩
  ·have hn:Av (st.Kq m (.var tid (vs.set c x))).heap j=Av st.heap j:=Dx _ _ _ _ e
   cases hg:Av st.heap j with
   |none=>exact Gj.Uq (ho.emp hg) (hn.trans hg)
   |some b=>
    have hb:=(ho.Rz hg).move mv (Ap _) (λr0 c h0 h1=>h.1.sub _ r0 c h0 h1) λ_ _ _ _ _=>rfl
    refine Gj.Mf ?_ (hn.trans hg)
    have eid:b.map (λc=>c)=b:=by cases b<;>simp [OB.map]
    rw [eid] at hb
    exact hb
 ·exact ⟨h.2.size,h.2.defers,λt=>by have:=mv.av (h.2.tmps t);rwa [AC.map_id] at this⟩
theorem py (c:Nat) {st:St} {a:Act} (h:Rel X st a w):Rel X (Qj c st) a w:=by
 obtain ⟨π,h⟩:=h
 unfold Qj
 split
 ·rename_i Ayh vs hm
  split
  ·rename_i l off len hc
   split
   ·rename_i fr tr e te xs hl
    split
    ·rename_i re
     split
     ·rename_i tid vs' hm'
      have hlv:Pr≠l:= λe=>by subst e;rw [hm] at hl;cases hl
      obtain ⟨r,h1,h2,cur,h3,h4,h5⟩:=(h.1.heap Pr).Rz hm
      obtain ⟨u,g1,g2,g3⟩:=h5 c _ hc
      obtain ⟨π',k1,k2,k3⟩:=ug h (by simpa using re) hl g3
      refine ⟨π',GL k1 hm' λr' an u' q1 q2 q3=>?_⟩
      rw [k3 Pr hlv,h1] at q1
      cases q1
      rw [h3] at q2
      cases q2
      rw [g1] at q3
      cases q3
      exact k2
     ·exact ⟨π,h⟩
    ·exact ⟨π,h⟩
   ·exact ⟨π,h⟩
  ·exact ⟨π,h⟩
 ·exact ⟨π,h⟩
theorem gF (live:List Nat): ∀(n c:Nat) (st:St) (a:Act) (w:World),Rel X st a w->Rel X (Qd live n c st) a w
 |0,_,_,_,_,h=>h
 |n+1,c,st,a,w,h=>by
  simp only [Qd]
  refine gF live n (c+1) _ a w ?_
  split
  ·exact py c h
  ·exact h
theorem lb (live:List Nat): ∀(n t:Nat) (st:St) (a:Act) (w:World),Rel X st a w->Rel X (Po live n t st) a w
 |0,_,st,a,w,h=>gF live 16 0 st a w h
 |n+1,t,st,a,w,h=>by
  simp only [Po]
  refine lb live n (t+1) _ a w ?_
  split
  ·exact zG t h
  ·exact h
theorem RO (live:List Nat) {st:St} {a:Act} (h:Rel X st a w):Rel X (st.clean live) a w:=by
 obtain ⟨π,h⟩:=h
 have ZI: ∀s:St,Rel X s a w->Rel X (if live.any (λt=>Nat.ble Ps t) then s.Jr live else s) a w:=by
  intro s hs
  split
  ·exact Ac3 live hs
  ·exact hs
 have key: ∀s:St,Rel X s a w->Rel X (if live.contains cT then Nc s.tmps.length 0 s else s) a w:=by
  intro s hs
  split
  ·exact jf _ _ _ a w hs
  ·exact hs
 have ZJ: ∀s:St,Rel X s a w->Rel X (if live.any (λt=>Nat.ble Sp t&&Nat.blt t cT) then Po live s.tmps.length 0 s else s) a w:=by
  intro s hs
  split
  ·exact lb _ _ _ _ a w hs
  ·exact hs
 unfold St.clean
 refine ZI _ (key _ (ZJ _ (dm _ _ a w ⟨π,h.1,⟨by simp [Xv,h.2.size],h.2.defers,λt=>?_⟩⟩)))
 show Bm X w π st.heap ((Jb live 0 st.tmps).getD t .undef) _
 rcases bF live 0 st.tmps t with e|e
 ·rw [e];trivial
 ·rw [e];exact h.2.tmps t
def Agv:Lz->Exit
 | .normal=> .normal
 | .exit id=> .exit id
 | .ret=> .ret
def sk (P:Program) (c:Code) (Q:Exit->Act->World->Prop) (a:Act) (w:World):Prop:=
 ∀(b:Frame) (k:List Item) (cs:List Frame),∃e a' w',Q e a' w'/\Arrives P (lone (b.at a (.code c:: .inLoop c::k)) cs w) b k cs e a' w'
theorem EM {c:Code} {Q:Exit->Act->World->Prop} {a:Act} {w:World} (h:c.wp P (Exit.then (sk P c Q) Q) a w):sk P c Q a w:=by
 intro b k cs
 obtain ⟨e,WW,Ac4,hq,DM⟩:=h b (.inLoop c::k) cs
 cases e with
 |normal=>
  obtain ⟨Aq8,Aq2,Atg,Am6,Ad4⟩:=hq b k cs
  exact ⟨Aq8,Aq2,Atg,Am6, .of_steps (Steps.trans DM (.one step_inLoop)) Ad4⟩
 |exit id=>exact ⟨_,WW,Ac4,hq, .pass (x:= .inLoop c) rfl (λ_ _=> .inl (by simp)) DM⟩
 |goto l=>exact ⟨_,WW,Ac4,hq, .pass (x:= .inLoop c) rfl (λ_ _=> .inl (by simp)) DM⟩
 |ret=>exact ⟨_,WW,Ac4,hq, .pass (x:= .inLoop c) rfl (λ_ _=> .inl (by simp)) DM⟩
 |panic ch=>exact ⟨_,WW,Ac4,hq, .pass (x:= .inLoop c) rfl (λ_ _=> .inl (by simp)) DM⟩
 |outgrown=>exact ⟨_,WW,Ac4,hq, .pass (x:= .inLoop c) rfl (λ_ _=> .inl (by simp)) DM⟩
theorem VU {c:Code} {Q:Exit->Act->World->Prop} {a:Act} {w:World} (h:sk P c Q a w):(Code.loop c).wp P Q a w:=by
 intro b k cs
 obtain ⟨e,a',w',hq,DM⟩:=h b k cs
 exact ⟨e,a',w',hq, .of_steps (.one step_loop) DM⟩
theorem gp (ops:Array Oper): ∀(i:Nat) (l:List AV),(Pe ops i l).length=l.length
 |_,[]=>rfl
 |i,v::r=>by cases v<;>simp [Pe,gp ops (i+1) r]
theorem kF (ops:Array Oper): ∀(i:Nat) (l:List AV) (t:Nat),(Pe ops i l).getD t .undef= .undef\/(Pe ops i l).getD t .undef=l.getD t .undef
 |_,[],_=> .inr rfl
 |i,v::r,0=>by
  cases v with
  |Nd l=>
   simp only [Pe,Xq]
   split
   ·exact .inr rfl
   ·exact .inl rfl
  |_=>exact .inr rfl
 |i,v::r,t+1=>by
  have h:=kF ops (i+1) r t
  cases v<;>(simp only [Pe,Nv];exact h)
theorem CV (ops:Array Oper) {st:St} {a:Act} (h:Rel X st a w):Rel X (st.mU ops) a w:=by
 obtain ⟨π,h⟩:=h
 refine ⟨π,h.1,⟨by show a.tmps.size=(Pe ops 0 st.tmps).length;rw [gp];exact h.2.size,h.2.defers,λt=>?_⟩⟩
 show Bm X w π st.heap ((Pe ops 0 st.tmps).getD t .undef) _
 rcases kF ops 0 st.tmps t with e|e
 ·rw [e];trivial
 ·rw [e];exact h.2.tmps t
theorem uq (hT:Eb P T) (Pk:Lj P Γ) (hm:P.follows .mixedOrders=true) {live:Nat->List Nat} {c:Code} {st:St} {K:Lz->St->Prop} (hr:Ow T Γ live c st K):
  ∀(a:Act) (w:World) (Q:Exit->Act->World->Prop),Rel X st a w->(∀e st' a' w',K e st'->Rel X st' a' w'->Q (Agv e) a' w')->c.wp P Q a w/\ ∀c',c= .loop c'->sk P c' Q a w:=by
 induction hr with
 |skip hk=>exact λa w Q h hQ=>⟨wp_skip (hQ .normal _ _ _ hk h),λc' e=>by cases e⟩
 |label hk=>exact λa w Q h hQ=>⟨wp_label (hQ .normal _ _ _ hk h),λc' e=>by cases e⟩
 |exit hk=>exact λa w Q h hQ=>⟨wp_exit (hQ (.exit _) _ _ _ hk h),λc' e=>by cases e⟩
 |ret hk=>exact λa w Q h hQ=>⟨wp_ret (hQ .ret _ _ _ hk h),λc' e=>by cases e⟩
 |region hk=>exact λa w Q h hQ=>⟨LY hT (Pk.reg _) hm (CV _ h) hk λst' a' w' h1 h2=>hQ .normal _ _ _ h1 h2,λc' e=>by cases e⟩
 |seq Q1 _ _ h3 SK DW=>
  intro a w Q h hQ
  refine ⟨wp_seq ((SK a w _ h λe st' a' w' hk h'=>?_).1),λc' e=>by cases e⟩
  cases e with
  |normal=>exact (DW st' hk a' w' Q h' hQ).1
  |exit id=>exact hQ (.exit id) _ _ _ (h3 _ _ (by simp) hk) h'
  |ret=>exact hQ .ret _ _ _ (h3 _ _ (by simp) hk) h'
 |cond hc _ _ SK DW=>
  intro a w Q h hQ
  refine ⟨?_,λc' e=>by cases e⟩
  obtain ⟨π,h'⟩:=h
  rename_i c x y st fr t Q0 _ _
  have hr:=Dq h'.2 c
  rw [hc] at hr
  refine wp_cond (a7 hr) ?_
  cases t with
  |true=>exact (SK rfl a w Q ⟨π,h'⟩ hQ).1
  |false=>exact (DW rfl a w Q ⟨π,h'⟩ hQ).1
 |block Q1 _ h2 ih=>
  intro a w Q h hQ
  rename_i id c st Q0 _
  refine ⟨wp_block ((ih a w _ h λe st' a' w' hk h'=>?_).1),λc' e=>by cases e⟩
  have h3:=h2 e st' hk
  cases e with
  |normal=>exact hQ .normal _ _ _ h3 h'
  |ret=>exact hQ .ret _ _ _ h3 h'
  |exit SJ=>
   show (if SJ=id then Q .normal a' w' else Q (.exit SJ) a' w')
   simp only [xh] at h3
   by_cases YA:SJ=id
   ·rw [Ab YA] at h3⊢;exact hQ .normal _ _ _ h3 h'
   ·rw [Ai YA] at h3⊢;exact hQ (.exit SJ) _ _ _ h3 h'
 |loop Q1 _ _ h3 SK DW=>
  intro a w Q h hQ
  rename_i c st Q0 _ _
  have key:sk P c Q a w:=by
   refine EM ((SK a w _ (RO _ h) λe st' a' w' hk h'=>?_).1)
   cases e with
   |normal=>exact (DW st' hk a' w' Q h' hQ).2 c rfl
   |exit id=>exact hQ (.exit id) _ _ _ (h3 _ _ (by simp) hk) h'
   |ret=>exact hQ .ret _ _ _ (h3 _ _ (by simp) hk) h'
  exact ⟨VU key,λc' e=>by cases e;exact key⟩
def MC (tmps:Array Value):ResultVar->Sem Value
 | .tmp t=>pure (tmps.getD t undef)
 | .cell p t=>do loadVar t (<-asAddr (tmps.getD p undef))
theorem fK (fn:Func) (tmps:Array Value):results fn tmps=(do
  let vs<-fn.results.mapM (MC tmps)
  pure (if h:vs.size=1 then vs[0] else .tuple vs)):=by
 rfl
theorem PU {α:Type} {l:List α} (h:l.length=2): ∃a b,l= [a,b]:=by
 rcases l with _|⟨a,_|⟨b,_|⟨c,r⟩⟩⟩<;>simp at h
 exact ⟨a,b,rfl⟩
theorem xq {α:Type} {l:List α} (h:l.length=3): ∃a b c,l= [a,b,c]:=by
 rcases l with _|⟨a,_|⟨b,_|⟨c,_|⟨d,r⟩⟩⟩⟩<;>simp at h
 exact ⟨a,b,c,rfl⟩
theorem EK {t:TypeId} {v u:Value} (h:(Instr.loadAt t v).run P w= .ok u w):(do loadVar t (<-asAddr v):Sem Value).run P w= .ok u w:=by
 unfold Instr.loadAt at h
 cases v with
 |pointer a=>
  cases a with
  |some a=>simpa [Instr.sureAddr,asAddr] using h
  |none=>simp [Instr.sureAddr,Result.andThen] at h
 |_=>simp [Instr.sureAddr,Result.andThen] at h
theorem Ym (hT:Eb P T) {st:St} {a:Act} (h:Bh X π st a w): ∀(rs:List ResultVar) (l:List AV),dz T st rs=some l->
  ∃vs:List Value,vs.length=rs.length/\l.length=rs.length/\(∀(i:Nat) r v,rs[i]?=some r->vs[i]?=some v->(MC a.tmps r).run P w= .ok v w)/\(∀(i:Nat) c v,l[i]?=some c->vs[i]?=some v->Bm X w π st.heap c v)
 | [],l,he=>by
  simp only [dz,Aa] at he;subst he
  exact ⟨[],rfl,rfl,λi r v hr=>by simp at hr,λi c v hc=>by simp at hc⟩
 | .tmp t::r,l,he=>by
  simp only [dz] at he
  cases hr:dz T st r with
  |none=>rw [hr] at he;cases he
  |some l'=>
   rw [hr] at he
   simp only [Ak,Aa] at he;subst he
   obtain ⟨vs,h1,h2,h3,h4⟩:=Ym hT h r l' hr
   refine ⟨a.tmps.getD t undef::vs,by simp [h1],by simp [h2],λi r' v kx hv=>?_,λi c v hc hv=>?_⟩
   ·rcases i with _|i
    ·rw [Bq,Aa] at kx hv;subst kx;subst hv;rfl
    ·exact h3 i r' v (by simpa using kx) (by simpa using hv)
   ·rcases i with _|i
    ·rw [Bq,Aa] at hc hv;subst hc;subst hv;exact h.2.tmps t
    ·exact h4 i c v (by simpa using hc) (by simpa using hv)
 | .cell p t::r,l,he=>by
  simp only [dz] at he
  split at he
  ·rename_i c0 l' hl0 hr
   simp only [Aa] at he;subst he
   obtain ⟨u,hu,hru⟩:=nc hT h t _ _ c0 (h.2.tmps p) hl0
   obtain ⟨vs,h1,h2,h3,h4⟩:=Ym hT h r l' hr
   refine ⟨u::vs,by simp [h1],by simp [h2],λi r' v kx hv=>?_,λi c v hc hv=>?_⟩
   ·rcases i with _|i
    ·simp at kx hv;subst kx;subst hv;exact EK hu
    ·exact h3 i r' v (by simpa using kx) (by simpa using hv)
   ·rcases i with _|i
    ·simp at hc hv;subst hc;subst hv;exact hru
    ·exact h4 i c v (by simpa using hc) (by simpa using hv)
  ·cases he
theorem CZ (hT:Eb P T) {st:St} {a:Act} (h:Bh X π st a w) (s:Spec) (fn:Func) (fr:Bool) (y:s.res.den) (he:nh T s fn st=some (fr,y)) {S:Nat->Prop} (hS:Uc X S fr):
  ∃v,(results fn a.tmps).run P w= .ok v w/\lD s w S v y:=by
 have hrs:fn.results=fn.results.toList.toArray:=Array.toArray_toList.symm
 unfold nh at he
 split at he
 ·rename_i c hl
  obtain ⟨vs,h1,h2,h3,h4⟩:=Ym hT h _ _ hl
  split at he
  ·cases he
  ·rename_i hm
   have hlen:fn.results.toList.length=1:=by rw [<-h2];rfl
   obtain ⟨r,hr⟩:=Dz.1 hlen
   rw [hlen] at h1
   obtain ⟨v,rfl⟩:=Dz.1 h1
   have e0:=h3 0 r v (by rw [hr];rfl) rfl
   refine ⟨v,?_,?_⟩
   ·rw [fK,hrs,hr]
    simp [e0]
   ·unfold lD
    rw [Ai hm]
    exact Ze h.1 s.res c v fr y (h4 0 c v rfl rfl) he hS
 ·rename_i c d hl
  obtain ⟨vs,h1,h2,h3,h4⟩:=Ym hT h _ _ hl
  split at he
  ·rename_i hm
   have hlen:fn.results.toList.length=2:=by rw [<-h2];rfl
   obtain ⟨r1,r2,hr⟩:=PU hlen
   rw [hlen] at h1
   obtain ⟨v1,v2,rfl⟩:=PU h1
   have e0:=h3 0 r1 v1 (by rw [hr];rfl) rfl
   have e1:=h3 1 r2 v2 (by rw [hr];rfl) rfl
   refine ⟨.tuple #[v1,v2],?_,?_⟩
   ·rw [fK,hrs,hr]
    simp [e0,e1]
   ·unfold lD
    rw [Ab hm]
    exact ⟨[v1,v2],rfl,bf h.1 s.res _ _ fr y rfl h4 he hS⟩
  ·cases he
 ·rename_i c d d' hl
  obtain ⟨vs,h1,h2,h3,h4⟩:=Ym hT h _ _ hl
  split at he
  ·rename_i hm
   have hlen:fn.results.toList.length=3:=by rw [<-h2];rfl
   obtain ⟨r1,r2,r3,hr⟩:=xq hlen
   rw [hlen] at h1
   obtain ⟨v1,v2,v3,rfl⟩:=xq h1
   have e0:=h3 0 r1 v1 (by rw [hr];rfl) rfl
   have e1:=h3 1 r2 v2 (by rw [hr];rfl) rfl
   have e2:=h3 2 r3 v3 (by rw [hr];rfl) rfl
   refine ⟨.tuple #[v1,v2,v3],?_,?_⟩
   ·rw [fK,hrs,hr]
    simp [e0,e1,e2]
   ·unfold lD
    rw [Ab hm]
    exact ⟨[v1,v2,v3],rfl,bf h.1 s.res _ _ fr y rfl h4 he hS⟩
  ·cases he
 ·cases he
theorem sx {S:Nat->Prop} : ∀(τ:Ty) (vs:List Value) (x:τ.den),Cp w S τ vs x->
  (Tm τ x).length=vs.length/\ ∀i,Bm ⟨w,S,λ_=>False,λ_=>none⟩ w (λ_=>none) [] ((Tm τ x).getD i .undef) (vs.getD i undef)
 | .pair a r,[],x,h=>h.elim
 | .pair a r,v::vs,x,h=>by
  obtain ⟨h1,h2⟩:=sx r vs x.2 h.2
  refine ⟨by simp [Tm,h1],λi=>?_⟩
  rcases i with _|i
  ·simp only [Tm,Xq]
   cases hf:a.flat with
   |true=>exact Ct.flat hf h.1
   |false=>
    exact Ct.Jr h.1 λk _ hk=>by
     rcases hk with ⟨l,r,hl,_⟩|hk|⟨hk,_⟩
     ·cases hl
     ·exact hk
     ·cases hk
  ·simpa [Tm] using h2 i
 | .unit,[],_,_=>⟨rfl,λi=>by simp [Tm];trivial⟩
 | .unit,_::_,_,h=>h.elim
 | .int _,_,_,h=>by simp [Cp] at h
 | .bool,_,_,h=>by simp [Cp] at h
 | .str,_,_,h=>by simp [Cp] at h
 | .slice _,_,_,h=>by simp [Cp] at h
 | .ptr _,_,_,h=>by simp [Cp] at h
 | .oslice _,_,_,h=>by simp [Cp] at h
 | .optr _,_,_,h=>by simp [Cp] at h
 | .smap _,_,_,h=>by simp [Cp] at h
 | .clo _ _,_,_,h=>by simp [Cp] at h
theorem yB (hT:Eb P T) (Pk:Lj P Γ) (hm:P.follows .mixedOrders=true) {f:FuncId} {fn:Func} (hf:P.funcs[f]?=some fn) (s:Spec) (w:World) (S:Nat->Prop) (vs:List Value) (x:s.arg.den) (y:s.res.den)
  (hS: ∀k,S k->k<w.heap.size) (hx:Cp w S s.arg vs x) (he:WN T Γ s fn x λz=>z=y):
  Calls P f vs.toArray w λe w'=> ∃v,e= .returned v/\Below w.heap.size w w'/\lD s w' (λb=>S b\/(s.fresh=true/\b<w.heap.size)) v y:=by
 obtain ⟨c,hb,he⟩:=he
 skip
 ·obtain ⟨hl,Ro⟩:=sx (w:=w) s.arg vs x hx
  have h0:Rel ⟨w,S,λ_=>False,λ_=>none⟩ {tmps:=Tm s.arg x++List.replicate (fn.ntmps-(Tm s.arg x).length) .undef,heap:= []} {tmps:=vs.toArray++Array.replicate (fn.ntmps-vs.toArray.size) undef,defers:= []} w:=by
   refine ⟨λ_=>none,⟨Li.refl _ _ _,λb hb=>⟨hS b hb,λh=>h⟩,(λ_ _ _ h=>by cases h),(λ_ _ _ h=>by cases h),(λ_ _ _ _ _ h=>by cases h),λl _ hn=>absurd rfl hn,λl=>rfl⟩,⟨by simp [hl],rfl,λt=>?_⟩⟩
   have h1:=Ro t
   show Bm _ w _ [] ((Tm s.arg x++List.replicate _ AV.undef).getD t .undef) ((vs.toArray++Array.replicate _ undef).getD t undef)
   by_cases ht:t<vs.length
   ·rw [Aj,At (by omega),<-Aj]
    rw [cq,Tz (by simpa using ht)]
    simpa [Aj] using h1
   ·have:(Tm s.arg x++List.replicate (fn.ntmps-(Tm s.arg x).length) AV.undef).getD t .undef= .undef:=by
     rw [Aj,As (by omega)]
     rw [Zg]
     split<;>rfl
    rw [this];trivial
  refine calls_of_wp hf hb ?_
  refine (uq hT Pk hm he _ w _ h0 λe st a' w' ⟨Jl,fr,y',ri,yM,hy⟩ ⟨π,h'⟩=>?_).1
  subst hy
  have Am2:=CZ hT h' s fn fr y' ri (S:= λb=>S b\/(s.fresh=true/\b<w.heap.size)) ⟨λk hk=>⟨by rcases hk with hk|hk;exact hS k hk;exact hk.2,λh=>h⟩,by
   simp only [Mi,Er] at yM
   rcases yM with h|h
   ·exact .inl h
   ·right;intro k hk;rcases hk with hk|⟨hk,_⟩
    ·exact hk
    ·rw [h] at hk;cases hk⟩
  obtain ⟨v,hv,hr⟩:=Am2
  cases e with
  |normal=>exact ⟨h'.2.defers,v,hv,v,rfl,h'.1.below.plain,hr⟩
  |ret=>exact ⟨h'.2.defers,v,hv,v,rfl,h'.1.below.plain,hr⟩
  |exit id=>exact absurd rfl (Jl id)
theorem ir {f:FuncId} {fn:Func} (hf:P.funcs[f]?=some fn) (hn:(fn.name== "runtime.NumGoroutine")=false) (hb:fn.body.isNone=false) (args:Array Value) (w:World):
  (callFunc f args).run P w= .ok (.enter f args) w:=by
 unfold callFunc
 simp only [Sem.run_bind,run_program,Result.andThen_ok,hf,hn,hb,Cz,Ry,Sem.run_pure]
theorem Aaq (hT:Eb P T) (Pk:Lj P Γ) (hm:P.follows .mixedOrders=true) {f:FuncId} {fn:Func} (hf:P.funcs[f]?=some fn) (hn:(fn.name== "runtime.NumGoroutine")=false) (hb:fn.body.isNone=false) (s:Spec)
  (h: ∀x y,s.fn x=some y->WN T Γ s fn x λz=>z=y):Sound P f s:=
 ⟨ir hf hn hb,λw S vs x y hS hx hy=>yB hT Pk hm hf s w S vs x y hS hx (h x y hy)⟩
end
end Go.Proofs.YtkkdpknjohcekaaGreat
