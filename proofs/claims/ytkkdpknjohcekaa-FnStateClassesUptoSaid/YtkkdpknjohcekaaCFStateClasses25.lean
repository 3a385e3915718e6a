/-
  Part 26 of the proof that the statement FnStateClasses holds.
-/
import Derived.Test.YtkkdpknjohcekaaCFStateClasses24
namespace Go.Proofs.Ytkkdpknjohcekaa
open Go.RowKit
section
variable {P:Program} {T:Tab} {Γ:Env} {X:Ctx} {w w':World} {π:Pi}
def ba (π:Pi) (l k:Nat):Pi:= λm=>if m=k then π l else if m=l then none else π m
theorem SQ {st:St} {l k:Nat} {b:OB} (hk:At st.heap k=none) (hl:At st.heap l=some b):
  At (Nz (Zk (st.heap.map λp=>(p.1,p.2.map (Ug l k))) l) k (b.map (Ug l k))) k=some (b.map (Ug l k))/\
  At (Nz (Zk (st.heap.map λp=>(p.1,p.2.map (Ug l k))) l) k (b.map (Ug l k))) l=none/\
  ∀m,m≠k->m≠l->At (Nz (Zk (st.heap.map λp=>(p.1,p.2.map (Ug l k))) l) k (b.map (Ug l k))) m=(At st.heap m).map (OB.map (Ug l k)):=by
 have Hq:l≠k:= λe=>by subst e;rw [hk] at hl;cases hl
 refine ⟨Pz _ _ _ ?_,?_,λm h1 h2=>?_⟩
 ·rw [Ng _ _ _ Hq.symm,Og,hk];rfl
 ·rw [Ox _ _ _ _ Hq,Md]
 ·rw [Ox _ _ _ _ h1,Ng _ _ _ h2,Og]
theorem Move.ren {st:St} {l k:Nat} {b:OB} {H':List (Nat×OB)} (hk:At st.heap k=none) (hl:At st.heap l=some b) (e1:At H' k=some (b.map (Ug l k))) (_e2:At H' l=none)
  (e3: ∀m,m≠k->m≠l->At H' m=(At st.heap m).map (OB.map (Ug l k))) (cS: ∀c,Ut (ba π l k) c->Ut π c):Move X w w π (ba π l k) st.heap H' (Ug l k):=by
 have Hq:l≠k:= λe=>by subst e;rw [hk] at hl;cases hl
 have hc: ∀fr τ cs x,Cells w (Cv X.w0.heap.size X.Sc π fr) τ cs x->Cells w (Cv X.w0.heap.size X.Sc (ba π l k) fr) τ cs x:=
  fun fr τ cs x h=>Cells.Fb (Ao _) (λ_ _ _=>rfl) (λc _ hA=>hA.imp (cS c) id) τ cs x h
 have Yh: ∀m c,At st.heap m=some c->At H' (nF l k m)=some (c.map (Ug l k))/\ba π l k (nF l k m)=π m:=by
  intro m c hm
  unfold nF
  by_cases e:m=l
  ·subst e
   rw [hl] at hm;cases hm
   rw [Ac rfl]
   exact ⟨e1,by unfold ba;rw [Ac rfl]⟩
  ·have e':m≠k:= λe'=>by subst e';rw [hk] at hm;cases hm
   rw [Ai e]
   exact ⟨by rw [e3 m e' e,hm];rfl,by unfold ba;rw [Ai e',Ai e]⟩
 refine ⟨λc v h=>?_,hc⟩
 cases c with
 |data fr τ x=>obtain ⟨cs,h1,h2⟩:=h;exact ⟨cs,hc _ _ _ _ h1,h2⟩
 |own m off len=>
  obtain ⟨b',sz,n,h1,h0,h2,h3⟩:=h
  obtain ⟨g1,g2⟩:=Yh m b' h1
  exact ⟨_,sz,n,g1,by cases b'<;>exact h0,h2,by rw [g2];exact h3⟩
 |Gp m i=>
  obtain ⟨r,tid,vs,h1,h2,h3⟩:=h
  obtain ⟨g1,g2⟩:=Yh m _ h1
  exact ⟨r,tid,_,g1,by rw [g2];exact h2,h3⟩
 |Jm m i=>
  obtain ⟨r,b',sz,n,h1,h0,h2,h3,h4⟩:=h
  obtain ⟨g1,g2⟩:=Yh m b' h1
  exact ⟨r,_,sz,n,g1,by cases b'<;>exact h0,h2,by rw [g2];exact h3,h4⟩
 |sub m i c=>
  obtain ⟨r,b,sz,n,h1,h0,h2,h3,h4,h5⟩:=h
  obtain ⟨g1,g2⟩:=Yh m _ h1
  exact ⟨r,_,sz,n,g1,by cases b<;>exact h0,by rw [g2];exact h2,h3,h4,h5⟩
 |Jj m i c=>
  obtain ⟨r,b,n,sz,g,o,len,cap,h1,h0,h2,h3⟩:=h
  obtain ⟨g1,g2⟩:=Yh m _ h1
  exact ⟨r,_,n,sz,g,o,len,cap,g1,by cases b<;>exact h0,by rw [g2];exact h2,h3⟩
 |clo f Dz=>
  obtain ⟨us,h1,h2,h3⟩:=h
  refine ⟨us,h1,by simpa using h2,λj p hp=>?_⟩
  rw [Fl] at hp
  cases hq:Dz[j]? with
  |none=>rw [hq] at hp;cases hp
  |some q=>
   rw [hq] at hp
   simp only [Ak,Aa] at hp
   subst hp
   obtain ⟨r,tid,vs,h4,h5,h6⟩:=h3 j q hq
   obtain ⟨g1,g2⟩:=Yh q.1 _ h4
   exact ⟨r,tid,_,g1,by rw [g2];exact h5,h6⟩
 |Jt m=>
  obtain ⟨r,vt,f,h1,h2,h3⟩:=h
  obtain ⟨g1,g2⟩:=Yh m _ h1
  exact ⟨r,vt,f,g1,by rw [g2];exact h2,h3⟩
 |_=>exact h
theorem IG (l k:Nat) {st:St} {a:Act} (h:Rel X st a w):Rel X (st.rename l k) a w:=by
 unfold St.rename
 split
 ·rename_i b hk hl
  split
  ·rename_i hp
   simp only [Ag,Ms] at hp
   obtain ⟨π,h⟩:=h
   have Hq:l≠k:= λe=>by subst e;rw [hk] at hl;cases hl
   obtain ⟨e1,e2,e3⟩:=SQ hk hl
   have QY:π k=none:=(h.1.heap k).emp hk
   have un: ∀m r,ba π l k m=some r-> ∃m',π m'=some r/\nF l k m'=m:= λm r hm=>by
    unfold ba at hm
    split at hm
    ·rename_i e;subst e;exact ⟨l,hm,by unfold nF;rw [Ac rfl]⟩
    ·rename_i e
     split at hm
     ·cases hm
     ·rename_i e';exact ⟨m,hm,by unfold nF;rw [Ai e']⟩
   have m:=Move.ren (X:=X) (w:=w) (π:=π) hk hl e1 e2 e3 λc ⟨j,r,h1,h2⟩=>let ⟨j',h3,_⟩:=un j r h1;⟨j',r,h3,h2⟩
   refine ⟨ba π l k,⟨h.1.below,h.1.sc,λj r c h1 h2=>?_,λj r c h1 h2=>?_,λj1 j2 r1 r2 c h1 h2 h3 h4=>?_,λj hj Ad9=>?_,λj=>?_⟩,?_⟩
   ·obtain ⟨j',h3,_⟩:=un j r h1;exact h.1.sub j' r c h3 h2
   ·obtain ⟨j',h3,_⟩:=un j r h1;exact h.1.place j' r c h3 h2
   ·obtain ⟨j1',g1,g2⟩:=un j1 r1 h1
    obtain ⟨j2',g3,g4⟩:=un j2 r2 h2
    rw [<-g2,<-g4,h.1.inj j1' j2' r1 r2 c g1 g3 h3 h4]
   ·have n1:j≠k:= λe=>by omega
    have n2:j≠l:= λe=>by omega
    have Agv:At st.heap j≠none:= λh0=>Ad9 ((e3 j n1 n2).trans (by rw [h0];rfl))
    have:=h.1.fI j hj Agv
    unfold ba
    rw [Ai n1,Ai n2]
    exact this
   ·by_cases n1:j=k
    ·subst n1
     refine Fu.Lf ?_ e1
     unfold ba
     rw [Ac rfl]
     exact ((h.1.heap l).Qw hl).move m (Ao _) (λr0 c h0 h1=>h.1.sub _ r0 c h0 h1) λ_ _ _ _ _=>rfl
    ·by_cases n2:j=l
     ·subst n2
      exact Fu.Tj (by unfold ba;rw [Ai n1,Ac rfl]) e2
     ·have hr:ba π l k j=π j:=by unfold ba;rw [Ai n1,Ai n2]
      have hn:=e3 j n1 n2
      have ho:=h.1.heap j
      cases lO:At st.heap j with
      |none=>rw [lO] at hn;exact Fu.Tj (by rw [hr];exact ho.emp lO) hn
      |some c=>
       rw [lO] at hn
       refine Fu.Lf ?_ hn
       rw [hr]
       exact (ho.Qw lO).move m (Ao _) (λr0 c h0 h1=>h.1.sub _ r0 c h0 h1) λ_ _ _ _ _=>rfl
   ·have:pY X w (ba π l k) {tmps:=st.tmps.map (·.map (Ug l k)),heap:=Nz (Zk (st.heap.map λp=>(p.1,p.2.map (Ug l k))) l) k (b.map (Ug l k))} a:=m.IF rfl h.2
    exact this
  ·exact h
 ·exact h
theorem gX: ∀(n t:Nat) (st:St) (a:Act) (w:World),Rel X st a w->Rel X (Mf n t st) a w
 |0,_,_,_,_,h=>h
 |n+1,t,st,a,w,h=>by
  simp only [Mf]
  refine gX n (t+1) _ a w ?_
  split
  ·split
   ·split
    ·exact h
    ·exact IG _ _ h
   ·exact h
  ·exact h
theorem iJ (f:Nat->OB->OB): ∀(H:List (Nat×OB)) (l:Nat),At (H.map λp=>(p.1,f p.1 p.2)) l=(At H l).map (f l)
 | [],_=>rfl
 |(k,b)::r,l=>by
  simp only [Bk,At]
  split
  ·rename_i e;subst e;rfl
  ·exact iJ f r l
theorem OB.EG (x y z:Bool) (b:OB):(b.Ij x y z).row=b.row:=by cases b<;>rfl
def mJ (live:List Nat) (l:Nat) (b:OB):OB:=b.Ij (live.contains Td) (live.contains (EF+l)) (live.contains (WW+l))
theorem Move.Ij (live:List Nat) {H:List (Nat×OB)} :Move X w w π π H (H.map λp=>(p.1,mJ live p.1 p.2)) (λc=>c):=by
 refine ⟨λc v h=>?_,λfr τ cs x h=>h⟩
 have Yh: ∀m c,At H m=some c->At (H.map λp=>(p.1,mJ live p.1 p.2)) m=some (mJ live m c):= λm c hm=>by rw [iJ,hm];rfl
 cases c with
 |own m off len=>
  obtain ⟨b',sz,n,h1,h0,h2,h3⟩:=h
  exact ⟨_,sz,n,Yh m b' h1,by unfold mJ;rw [OB.EG];exact h0,h2,h3⟩
 |Gp m i=>
  obtain ⟨r,tid,vs,h1,h2,h3⟩:=h
  exact ⟨r,tid,_,Yh m _ h1,h2,h3⟩
 |Jm m i=>
  obtain ⟨r,b',sz,n,h1,h0,h2,h3,h4⟩:=h
  exact ⟨r,_,sz,n,Yh m b' h1,by unfold mJ;rw [OB.EG];exact h0,h2,h3,h4⟩
 |sub m i c=>
  obtain ⟨r,b,sz,n,h1,h0,h2⟩:=h
  exact ⟨r,_,sz,n,Yh m _ h1,by cases b<;>exact h0,h2⟩
 |Jj m i c=>
  obtain ⟨r,b,n,sz,g,o,len,cap,h1,h0,h2⟩:=h
  exact ⟨r,_,n,sz,g,o,len,cap,Yh m _ h1,by cases b<;>exact h0,h2⟩
 |clo f Dz=>
  obtain ⟨us,h1,h2,h3⟩:=h
  refine ⟨us,h1,h2,λj p hp=>?_⟩
  obtain ⟨r,tid,vs,h4,h5,h6⟩:=h3 j p hp
  exact ⟨r,tid,_,Yh p.1 _ h4,h5,h6⟩
 |Jt m=>
  obtain ⟨r,vt,f,h1,h2,h3⟩:=h
  exact ⟨r,vt,f,Yh m _ h1,h2,h3⟩
 |_=>exact h
theorem WX (live:List Nat) {st:St} {a:Act} (h:Rel X st a w):Rel X (st.Ij live) a w:=by
 obtain ⟨π,h⟩:=h
 have m:=Move.Ij (X:=X) (w:=w) (π:=π) live (H:=st.heap)
 refine ⟨π,⟨h.1.below,h.1.sc,h.1.sub,h.1.place,h.1.inj,λj hj Hq=>h.1.fI j hj λh0=>Hq (by show At (st.heap.map λp=>(p.1,mJ live p.1 p.2)) j=none;rw [iJ,h0];rfl),λj=>?_⟩,?_⟩
 ·have hn:At (st.Ij live).heap j=(At st.heap j).map (mJ live j):=iJ (mJ live) st.heap j
  have ho:=h.1.heap j
  cases lO:At st.heap j with
  |none=>rw [lO] at hn;exact Fu.Tj (ho.emp lO) hn
  |some c=>
   rw [lO] at hn
   refine Fu.Lf ?_ hn
   have hb:=(ho.Qw lO).move m (Ao _) (λr0 c h0 h1=>h.1.sub _ r0 c h0 h1) λ_ _ _ _ _=>rfl
   cases c with
   |arr fr tr e tid xs=>
    simp only [OB.map,Cd,Jk,OB.Ij,mJ] at hb⊢
    cases hp:π j with
    |none=>rw [hp] at hb;exact hb
    |some r=>
     rw [hp] at hb
     obtain ⟨⟨g1,g2,g3⟩,cur,ti,g4,g5,g6,g7,g8,g9⟩:=hb
     refine ⟨⟨g1,g2,λhf=>g3 (Db.1 hf).1⟩,cur,ti,g4,g5,g6,g7,λi x hx=>?_,λht=>g9 (Db.1 ht).1⟩
     obtain ⟨es,k1,k2,k3⟩:=g8 i x hx
     refine ⟨es,k1,k2,Cells.Fb (Ao _) (λ_ _ _=>rfl) (λb _ hA=>?_) e es x k3⟩
     exact hA.imp id (Or.imp id λ⟨h1,h2⟩=>⟨(Db.1 h1).1,h2⟩)
   |Gg e tid xs=>exact hb
   |Bo e te rows out kp=>exact hb
   |var tid vs=>
    have e:(OB.var tid vs).map (λc=>c)= .var tid vs:=by simp [OB.map]
    rw [e] at hb
    obtain ⟨r',h1,h2,cur,h3,h4,h5⟩:=hb
    refine ⟨r',h1,h2,cur,h3,by rw [h4,Hm],λi c hc=>?_⟩
    rw [Fl] at hc
    cases hv:vs[i]? with
    |none=>rw [hv] at hc;cases hc
    |some c0=>
     rw [hv] at hc
     obtain ⟨u,k1,k2,k3⟩:=h5 i c0 hv
     refine ⟨u,k1,k2,?_⟩
     have hc:AC.Aby (live.contains Td) c0=c:=Ax hc
     subst hc
     cases c0 with
     |data fr τ x=>
      show Ct w (Cv X.w0.heap.size X.Sc π (fr&&!(live.contains Td&&τ.flat))) τ u x
      exact Ct.Ij k3 λb _ hA=>hA.imp id (Or.imp id λ⟨h1,h2⟩=>⟨(Db.1 h1).1,h2⟩)
     |_=>exact k3
   |Ur v f=>exact hb
 ·exact ⟨h.2.size,h.2.defers,λt=>by have:=m.av (h.2.tmps t);rwa [AC.map_id] at this⟩
theorem xP (t:Nat) {st:St} {a:Act} (h:Rel X st a w):Rel X (aZ t st) a w:=by
 obtain ⟨π,h⟩:=h
 unfold aZ
 split
 ·rename_i l off len hg
  split
  ·rename_i fr tr e tid xs hl
   split
   ·rename_i qZ
    have hv:=h.2.tmps t
    rw [hg] at hv
    obtain ⟨π',h1,h2,_⟩:=rX h (by simpa using qZ) hl hv
    refine ⟨π',h1.1,⟨?_,h1.2.defers,λk=>?_⟩⟩
    ·show a.tmps.size=(Rx _ t _).length
     rw [Yu];exact h1.2.size
    ·show Bn X w π' _ ((Rx _ t _).getD k .undef) _
     rw [Qh]
     split
     ·rename_i hk
      obtain ⟨rfl,_⟩:=hk
      exact h2
     ·exact h1.2.tmps k
   ·exact ⟨π,h⟩
  ·exact ⟨π,h⟩
 ·exact ⟨π,h⟩
theorem Move.Aed {H:List (Nat×OB)} {π:Pi} {m:Nat} {tid:TypeId} {vs vs':List AC} (hm:At H m=some (.var tid vs)):Move X w w π π H (Ze H m (.var tid vs')) (λc=>c):=by
 have ne: ∀l b,At H l=some b->(∀t us,b≠ .var t us)->At (Ze H m (.var tid vs')) l=some b:= λl b h hb=>by
  rw [Dv H m l _ (λe=>by subst e;rw [hm] at h;cases h;exact hb _ _ rfl)];exact h
 have va: ∀l t us,At H l=some (.var t us)-> ∃t' Vw,At (Ze H m (.var tid vs')) l=some (.var t' Vw):= λl t us h=>by
  by_cases e:l=m
  ·subst e;exact ⟨_,_,Eo H l _ _ hm⟩
  ·exact ⟨t,us,by rw [Dv H m l _ e];exact h⟩
 refine ⟨λc v h=>?_,λ_ _ _ _ h=>h⟩
 cases c with
 |own l off len=>obtain ⟨b,sz,n,h1,h2,h3⟩:=h;exact ⟨b,sz,n,ne l b h1 (λt us e=>by subst e;cases h2),h2,h3⟩
 |Gp l i=>obtain ⟨r,t,us,h1,h2⟩:=h;obtain ⟨t',Vw,h3⟩:=va l t us h1;exact ⟨r,t',Vw,h3,h2⟩
 |Jm l i=>obtain ⟨r,b,sz,n,h1,h2,h3⟩:=h;exact ⟨r,b,sz,n,ne l b h1 (λt us e=>by subst e;cases h2),h2,h3⟩
 |sub l i c=>obtain ⟨r,b,sz,n,h1,h2,h3⟩:=h;exact ⟨r,b,sz,n,ne l b h1 (λt us e=>by subst e;cases h2),h2,h3⟩
 |Jj l i j=>obtain ⟨r,b,n,sz,g,o,len,cap,h1,h2,h3⟩:=h;exact ⟨r,b,n,sz,g,o,len,cap,ne l b h1 (λt us e=>by subst e;cases h2),h2,h3⟩
 |clo f Dz=>
  obtain ⟨us,h1,h2,h3⟩:=h
  refine ⟨us,h1,h2,λj p hp=>?_⟩
  obtain ⟨r,t,ws,h4,h5⟩:=h3 j p hp
  obtain ⟨t',Vw,h6⟩:=va p.1 t ws h4
  exact ⟨r,t',Vw,h6,h5⟩
 |Jt l=>obtain ⟨r,vt,f,h1,h2⟩:=h;exact ⟨r,vt,f,ne l _ h1 (λt us e=>by cases e),h2⟩
 |_=>exact h
theorem CR {π:Pi} {st:St} {a:Act} (h:Bg X π st a w) {m:Nat} {tid:TypeId} {vs:List AC} (hm:At st.heap m=some (.var tid vs)) {c:Nat} {x:AC}
  (hx: ∀r cur u,π m=some r->w.heap[r.g]?=some (.cells cur tid (0,0))->cur.toList[c]?=some u->Gu X w π st.heap x u):Bg X π (st.Ji m (.var tid (vs.set c x))) a w:=by
 have mv:=Move.Aed (X:=X) (w:=w) (π:=π) (vs':=vs.set c x) hm
 refine ⟨⟨h.1.below,h.1.sc,h.1.sub,h.1.place,h.1.inj,λj hj Hq=>h.1.fI j hj λh0=>Hq ?_,λj=>?_⟩,?_⟩
 ·show At (Ze st.heap m _) j=none
  rw [Dv _ _ _ _ (λe=>by subst e;rw [hm] at h0;cases h0)];exact h0
 ·have ho:=h.1.heap j
  by_cases e:j=m
  ·subst e
   refine Fu.Lf (b:= .var tid (vs.set c x)) ?_ (Eo st.heap j _ _ hm)
   obtain ⟨r,h1,h2,cur,h3,h4⟩:=ho.Qw hm
   refine ⟨r,h1,h2,cur,h3,?_⟩
   obtain ⟨h5,h6⟩:=h4
   refine ⟨by rw [Bt];exact h5,λi d hd=>?_⟩
   rw [Eb] at hd
   split at hd
   ·rename_i hci
    subst hci
    split at hd
    ·rename_i Jl
     cases hd
     obtain ⟨u,g1,g2,_⟩:=h6 c vs[c] (Ab Jl)
     exact ⟨u,g1,g2,mv.ac _ _ (hx r cur u h1 h3 g1)⟩
    ·cases hd
   ·obtain ⟨u,g1,g2,g3⟩:=h6 i d hd
    exact ⟨u,g1,g2,mv.ac _ _ g3⟩
  ·have hn:At (st.Ji m (.var tid (vs.set c x))).heap j=At st.heap j:=Dv _ _ _ _ e
   cases hg:At st.heap j with
   |none=>exact Fu.Tj (ho.emp hg) (hn.trans hg)
   |some b=>
    have hb:=(ho.Qw hg).move mv (Ao _) (λr0 c h0 h1=>h.1.sub _ r0 c h0 h1) λ_ _ _ _ _=>rfl
    refine Fu.Lf ?_ (hn.trans hg)
    have eid:b.map (λc=>c)=b:=by cases b<;>simp [OB.map]
    rw [eid] at hb
    exact hb
 ·exact ⟨h.2.size,h.2.defers,λt=>by have:=mv.av (h.2.tmps t);rwa [AC.map_id] at this⟩
theorem nE (c:Nat) {st:St} {a:Act} (h:Rel X st a w):Rel X (Pk c st) a w:=by
 obtain ⟨π,h⟩:=h
 unfold Pk
 split
 ·rename_i At1 vs hm
  split
  ·rename_i l off len hc
   split
   ·rename_i fr tr e te xs hl
    split
    ·rename_i qZ
     split
     ·rename_i tid vs' hm'
      have hlv:Oo≠l:= λe=>by subst e;rw [hm] at hl;cases hl
      obtain ⟨r,h1,h2,cur,h3,h4,h5⟩:=(h.1.heap Oo).Qw hm
      obtain ⟨u,g1,g2,g3⟩:=h5 c _ hc
      obtain ⟨π',k1,k2,k3⟩:=rX h (by simpa using qZ) hl g3
      refine ⟨π',CR k1 hm' λr' Za u' q1 q2 q3=>?_⟩
      rw [k3 Oo hlv,h1] at q1
      cases q1
      rw [h3] at q2
      cases q2
      rw [g1] at q3
      cases q3
      exact k2
     ·exact ⟨π,h⟩
    ·exact ⟨π,h⟩
   ·exact ⟨π,h⟩
  ·exact ⟨π,h⟩
 ·exact ⟨π,h⟩
theorem ff (live:List Nat): ∀(n c:Nat) (st:St) (a:Act) (w:World),Rel X st a w->Rel X (Pc live n c st) a w
 |0,_,_,_,_,h=>h
 |n+1,c,st,a,w,h=>by
  simp only [Pc]
  refine ff live n (c+1) _ a w ?_
  split
  ·exact nE c h
  ·exact h
theorem jH (live:List Nat): ∀(n t:Nat) (st:St) (a:Act) (w:World),Rel X st a w->Rel X (Ol live n t st) a w
 |0,_,st,a,w,h=>ff live 16 0 st a w h
 |n+1,t,st,a,w,h=>by
  simp only [Ol]
  refine jH live n (t+1) _ a w ?_
  split
  ·exact xP t h
  ·exact h
theorem MM (live:List Nat) {st:St} {a:Act} (h:Rel X st a w):Rel X (st.clean live) a w:=by
 obtain ⟨π,h⟩:=h
 have TW: ∀s:St,Rel X s a w->Rel X (if live.any (λt=>Nat.ble Td t) then s.Ij live else s) a w:=by
  intro s hs
  split
  ·exact WX live hs
  ·exact hs
 have key: ∀s:St,Rel X s a w->Rel X (if live.contains bP then Mf s.tmps.length 0 s else s) a w:=by
  intro s hs
  split
  ·exact gX _ _ _ a w hs
  ·exact hs
 have TX: ∀s:St,Rel X s a w->Rel X (if live.any (λt=>Nat.ble Ri t&&Nat.blt t bP) then Ol live s.tmps.length 0 s else s) a w:=by
  intro s hs
  split
  ·exact jH _ _ _ _ a w hs
  ·exact hs
 unfold St.clean
 refine TW _ (key _ (TX _ (cb _ _ a w ⟨π,h.1,⟨by simp [Wm,h.2.size],h.2.defers,λt=>?_⟩⟩)))
 show Bn X w π st.heap ((Hp live 0 st.tmps).getD t .undef) _
 rcases aI live 0 st.tmps t with e|e
 ·rw [e];trivial
 ·rw [e];exact h.2.tmps t
def Ace:Lc->Exit
 | .normal=> .normal
 | .exit id=> .exit id
 | .ret=> .ret
def pX (P:Program) (c:Code) (Q:Exit->Act->World->Prop) (a:Act) (w:World):Prop:=
 ∀(b:Frame) (k:List Item) (cs:List Frame),∃e a' w',Q e a' w'/\Arrives P (lone (b.at a (.code c:: .inLoop c::k)) cs w) b k cs e a' w'
theorem AY {c:Code} {Q:Exit->Act->World->Prop} {a:Act} {w:World} (h:c.wp P (Exit.then (pX P c Q) Q) a w):pX P c Q a w:=by
 intro b k cs
 obtain ⟨e,RM,WY,hq,AB⟩:=h b (.inLoop c::k) cs
 cases e with
 |normal=>
  obtain ⟨Akt,Akn,Anz,Ahc,YD⟩:=hq b k cs
  exact ⟨Akt,Akn,Anz,Ahc, .of_steps (Steps.trans AB (.one step_inLoop)) YD⟩
 |exit id=>exact ⟨_,RM,WY,hq, .pass (x:= .inLoop c) rfl (λ_ _=> .inl (by simp)) AB⟩
 |goto l=>exact ⟨_,RM,WY,hq, .pass (x:= .inLoop c) rfl (λ_ _=> .inl (by simp)) AB⟩
 |ret=>exact ⟨_,RM,WY,hq, .pass (x:= .inLoop c) rfl (λ_ _=> .inl (by simp)) AB⟩
 |panic ch=>exact ⟨_,RM,WY,hq, .pass (x:= .inLoop c) rfl (λ_ _=> .inl (by simp)) AB⟩
 |outgrown=>exact ⟨_,RM,WY,hq, .pass (x:= .inLoop c) rfl (λ_ _=> .inl (by simp)) AB⟩
theorem QP {c:Code} {Q:Exit->Act->World->Prop} {a:Act} {w:World} (h:pX P c Q a w):(Code.loop c).wp P Q a w:=by
 intro b k cs
 obtain ⟨e,a',w',hq,AB⟩:=h b k cs
 exact ⟨e,a',w',hq, .of_steps (.one step_loop) AB⟩
theorem eP (ops:Array Oper): ∀(i:Nat) (l:List AV),(Oe ops i l).length=l.length
 |_,[]=>rfl
 |i,v::r=>by cases v<;>simp [Oe,eP ops (i+1) r]
theorem ji (ops:Array Oper): ∀(i:Nat) (l:List AV) (t:Nat),(Oe ops i l).getD t .undef= .undef\/(Oe ops i l).getD t .undef=l.getD t .undef
 |_,[],_=> .inr rfl
 |i,v::r,0=>by
  cases v with
  |Mh l=>
   simp only [Oe,Wg]
   split
   ·exact .inr rfl
   ·exact .inl rfl
  |_=>exact .inr rfl
 |i,v::r,t+1=>by
  have h:=ji ops (i+1) r t
  cases v<;>(simp only [Oe,My];exact h)
theorem zF (ops:Array Oper) {st:St} {a:Act} (h:Rel X st a w):Rel X (st.lp ops) a w:=by
 obtain ⟨π,h⟩:=h
 refine ⟨π,h.1,⟨by show a.tmps.size=(Oe ops 0 st.tmps).length;rw [eP];exact h.2.size,h.2.defers,λt=>?_⟩⟩
 show Bn X w π st.heap ((Oe ops 0 st.tmps).getD t .undef) _
 rcases ji ops 0 st.tmps t with e|e
 ·rw [e];trivial
 ·rw [e];exact h.2.tmps t
theorem s8 (hT:Dn P T) (Oh:Ki P Γ) (hm:P.follows .mixedOrders=true) {live:Nat->List Nat} {c:Code} {st:St} {K:Lc->St->Prop} (hr:Ny T Γ live c st K):
  ∀(a:Act) (w:World) (Q:Exit->Act->World->Prop),Rel X st a w->(∀e st' a' w',K e st'->Rel X st' a' w'->Q (Ace e) a' w')->c.wp P Q a w/\ ∀c',c= .loop c'->pX P c' Q a w:=by
 induction hr with
 |skip hk=>exact λa w Q h hQ=>⟨wp_skip (hQ .normal _ _ _ hk h),λc' e=>by cases e⟩
 |label hk=>exact λa w Q h hQ=>⟨wp_label (hQ .normal _ _ _ hk h),λc' e=>by cases e⟩
 |exit hk=>exact λa w Q h hQ=>⟨wp_exit (hQ (.exit _) _ _ _ hk h),λc' e=>by cases e⟩
 |ret hk=>exact λa w Q h hQ=>⟨wp_ret (hQ .ret _ _ _ hk h),λc' e=>by cases e⟩
 |region hk=>exact λa w Q h hQ=>⟨IE hT (Oh.reg _) hm (zF _ h) hk λst' a' w' h1 h2=>hQ .normal _ _ _ h1 h2,λc' e=>by cases e⟩
 |seq Q1 _ _ h3 NL AG=>
  intro a w Q h hQ
  refine ⟨wp_seq ((NL a w _ h λe st' a' w' hk h'=>?_).1),λc' e=>by cases e⟩
  cases e with
  |normal=>exact (AG st' hk a' w' Q h' hQ).1
  |exit id=>exact hQ (.exit id) _ _ _ (h3 _ _ (by simp) hk) h'
  |ret=>exact hQ .ret _ _ _ (h3 _ _ (by simp) hk) h'
 |cond hc _ _ NL AG=>
  intro a w Q h hQ
  refine ⟨?_,λc' e=>by cases e⟩
  obtain ⟨π,h'⟩:=h
  rename_i c x y st fr t Q0 _ _
  have hr:=Dm h'.2 c
  rw [hc] at hr
  refine wp_cond (Yt hr) ?_
  cases t with
  |true=>exact (NL rfl a w Q ⟨π,h'⟩ hQ).1
  |false=>exact (AG rfl a w Q ⟨π,h'⟩ hQ).1
 |block Q1 _ h2 ih=>
  intro a w Q h hQ
  rename_i id c st Q0 _
  refine ⟨wp_block ((ih a w _ h λe st' a' w' hk h'=>?_).1),λc' e=>by cases e⟩
  have h3:=h2 e st' hk
  cases e with
  |normal=>exact hQ .normal _ _ _ h3 h'
  |ret=>exact hQ .ret _ _ _ h3 h'
  |exit NK=>
   show (if NK=id then Q .normal a' w' else Q (.exit NK) a' w')
   simp only [uV] at h3
   by_cases hid:NK=id
   ·rw [Ac hid] at h3⊢;exact hQ .normal _ _ _ h3 h'
   ·rw [Ai hid] at h3⊢;exact hQ (.exit NK) _ _ _ h3 h'
 |loop Q1 _ _ h3 NL AG=>
  intro a w Q h hQ
  rename_i c st Q0 _ _
  have key:pX P c Q a w:=by
   refine AY ((NL a w _ (MM _ h) λe st' a' w' hk h'=>?_).1)
   cases e with
   |normal=>exact (AG st' hk a' w' Q h' hQ).2 c rfl
   |exit id=>exact hQ (.exit id) _ _ _ (h3 _ _ (by simp) hk) h'
   |ret=>exact hQ .ret _ _ _ (h3 _ _ (by simp) hk) h'
  exact ⟨QP key,λc' e=>by cases e;exact key⟩
def II (tmps:Array Value):ResultVar->Sem Value
 | .tmp t=>pure (tmps.getD t undef)
 | .cell p t=>do loadVar t (<-asAddr (tmps.getD p undef))
theorem ei (fn:Func) (tmps:Array Value):results fn tmps=(do
  let vs<-fn.results.mapM (II tmps)
  pure (if h:vs.size=1 then vs[0] else .tuple vs)):=by
 rfl
theorem LI {α:Type} {l:List α} (h:l.length=2): ∃a b,l= [a,b]:=by
 rcases l with _|⟨a,_|⟨b,_|⟨c,r⟩⟩⟩<;>simp at h
 exact ⟨a,b,rfl⟩
theorem vn {α:Type} {l:List α} (h:l.length=3): ∃a b c,l= [a,b,c]:=by
 rcases l with _|⟨a,_|⟨b,_|⟨c,_|⟨d,r⟩⟩⟩⟩<;>simp at h
 exact ⟨a,b,c,rfl⟩
theorem AW {t:TypeId} {v u:Value} (h:(Instr.loadAt t v).run P w= .ok u w):(do loadVar t (<-asAddr v):Sem Value).run P w= .ok u w:=by
 unfold Instr.loadAt at h
 cases v with
 |pointer a=>
  cases a with
  |some a=>simpa [Instr.sureAddr,asAddr] using h
  |none=>simp [Instr.sureAddr,Result.andThen] at h
 |_=>simp [Instr.sureAddr,Result.andThen] at h
theorem Xf (hT:Dn P T) {st:St} {a:Act} (h:Bg X π st a w): ∀(rs:List ResultVar) (l:List AV),ck T st rs=some l->
  ∃vs:List Value,vs.length=rs.length/\l.length=rs.length/\(∀(i:Nat) r v,rs[i]?=some r->vs[i]?=some v->(II a.tmps r).run P w= .ok v w)/\(∀(i:Nat) c v,l[i]?=some c->vs[i]?=some v->Bn X w π st.heap c v)
 | [],l,he=>by
  simp only [ck,Aa] at he;subst he
  exact ⟨[],rfl,rfl,λi r v hr=>by simp at hr,λi c v hc=>by simp at hc⟩
 | .tmp t::r,l,he=>by
  simp only [ck] at he
  cases hr:ck T st r with
  |none=>rw [hr] at he;cases he
  |some l'=>
   rw [hr] at he
   simp only [Ak,Aa] at he;subst he
   obtain ⟨vs,h1,h2,h3,h4⟩:=Xf hT h r l' hr
   refine ⟨a.tmps.getD t undef::vs,by simp [h1],by simp [h2],λi r' v ja hv=>?_,λi c v hc hv=>?_⟩
   ·rcases i with _|i
    ·rw [Bs,Aa] at ja hv;subst ja;subst hv;rfl
    ·exact h3 i r' v (by simpa using ja) (by simpa using hv)
   ·rcases i with _|i
    ·rw [Bs,Aa] at hc hv;subst hc;subst hv;exact h.2.tmps t
    ·exact h4 i c v (by simpa using hc) (by simpa using hv)
 | .cell p t::r,l,he=>by
  simp only [ck] at he
  split at he
  ·rename_i c0 l' hl0 hr
   simp only [Aa] at he;subst he
   obtain ⟨u,hu,hru⟩:=lz hT h t _ _ c0 (h.2.tmps p) hl0
   obtain ⟨vs,h1,h2,h3,h4⟩:=Xf hT h r l' hr
   refine ⟨u::vs,by simp [h1],by simp [h2],λi r' v ja hv=>?_,λi c v hc hv=>?_⟩
   ·rcases i with _|i
    ·simp at ja hv;subst ja;subst hv;exact AW hu
    ·exact h3 i r' v (by simpa using ja) (by simpa using hv)
   ·rcases i with _|i
    ·simp at hc hv;subst hc;subst hv;exact hru
    ·exact h4 i c v (by simpa using hc) (by simpa using hv)
  ·cases he
theorem zJ (hT:Dn P T) {st:St} {a:Act} (h:Bg X π st a w) (s:Spec) (fn:Func) (fr:Bool) (y:s.res.den) (he:lD T s fn st=some (fr,y)) {S:Nat->Prop} (hS:Sv X S fr):
  ∃v,(results fn a.tmps).run P w= .ok v w/\kb s w S v y:=by
 have YV:fn.results=fn.results.toList.toArray:=Array.toArray_toList.symm
 unfold lD at he
 split at he
 ·rename_i c hl
  obtain ⟨vs,h1,h2,h3,h4⟩:=Xf hT h _ _ hl
  split at he
  ·cases he
  ·rename_i hm
   have hlen:fn.results.toList.length=1:=by rw [<-h2];rfl
   obtain ⟨r,hr⟩:=Dw.1 hlen
   rw [hlen] at h1
   obtain ⟨v,rfl⟩:=Dw.1 h1
   have e0:=h3 0 r v (by rw [hr];rfl) rfl
   refine ⟨v,?_,?_⟩
   ·rw [ei,YV,hr]
    simp [e0]
   ·unfold kb
    rw [Ai hm]
    exact Xr h.1 s.res c v fr y (h4 0 c v rfl rfl) he hS
 ·rename_i c d hl
  obtain ⟨vs,h1,h2,h3,h4⟩:=Xf hT h _ _ hl
  split at he
  ·rename_i hm
   have hlen:fn.results.toList.length=2:=by rw [<-h2];rfl
   obtain ⟨r1,r2,hr⟩:=LI hlen
   rw [hlen] at h1
   obtain ⟨v1,v2,rfl⟩:=LI h1
   have e0:=h3 0 r1 v1 (by rw [hr];rfl) rfl
   have e1:=h3 1 r2 v2 (by rw [hr];rfl) rfl
   refine ⟨.tuple #[v1,v2],?_,?_⟩
   ·rw [ei,YV,hr]
    simp [e0,e1]
   ·unfold kb
    rw [Ac hm]
    exact ⟨[v1,v2],rfl,ag h.1 s.res _ _ fr y rfl h4 he hS⟩
  ·cases he
 ·rename_i c d d' hl
  obtain ⟨vs,h1,h2,h3,h4⟩:=Xf hT h _ _ hl
  split at he
  ·rename_i hm
   have hlen:fn.results.toList.length=3:=by rw [<-h2];rfl
   obtain ⟨r1,r2,r3,hr⟩:=vn hlen
   rw [hlen] at h1
   obtain ⟨v1,v2,v3,rfl⟩:=vn h1
   have e0:=h3 0 r1 v1 (by rw [hr];rfl) rfl
   have e1:=h3 1 r2 v2 (by rw [hr];rfl) rfl
   have e2:=h3 2 r3 v3 (by rw [hr];rfl) rfl
   refine ⟨.tuple #[v1,v2,v3],?_,?_⟩
   ·rw [ei,YV,hr]
    simp [e0,e1,e2]
   ·unfold kb
    rw [Ac hm]
    exact ⟨[v1,v2,v3],rfl,ag h.1 s.res _ _ fr y rfl h4 he hS⟩
  ·cases he
 ·cases he
theorem qe {S:Nat->Prop} : ∀(τ:Ty) (vs:List Value) (x:τ.den),Cp w S τ vs x->
  (Sf τ x).length=vs.length/\ ∀i,Bn ⟨w,S,λ_=>False,λ_=>none⟩ w (λ_=>none) [] ((Sf τ x).getD i .undef) (vs.getD i undef)
 | .pair a r,[],x,h=>h.elim
 | .pair a r,v::vs,x,h=>by
  obtain ⟨h1,h2⟩:=qe r vs x.2 h.2
  refine ⟨by simp [Sf,h1],λi=>?_⟩
  rcases i with _|i
  ·simp only [Sf,Wg]
   cases hf:a.flat with
   |true=>exact Ct.flat hf h.1
   |false=>
    exact Ct.Ij h.1 λk _ hk=>by
     rcases hk with ⟨l,r,hl,_⟩|hk|⟨hk,_⟩
     ·cases hl
     ·exact hk
     ·cases hk
  ·simpa [Sf] using h2 i
 | .unit,[],_,_=>⟨rfl,λi=>by simp [Sf];trivial⟩
 | .unit,_::_,_,h=>h.elim
 | .int _,_,_,h=>by simp [Cp] at h
 | .bool,_,_,h=>by simp [Cp] at h
 | .str,_,_,h=>by simp [Cp] at h
 | .slice _,_,_,h=>by simp [Cp] at h
 | .ptr _,_,_,h=>by simp [Cp] at h
 | .oslice _,_,_,h=>by simp [Cp] at h
 | .optr _,_,_,h=>by simp [Cp] at h
 | .smap _,_,_,h=>by simp [Cp] at h
 | .clo _ _,_,_,h=>by simp [Cp] at h
theorem wL (hT:Dn P T) (Oh:Ki P Γ) (hm:P.follows .mixedOrders=true) {f:FuncId} {fn:Func} (hf:P.funcs[f]?=some fn) (s:Spec) (w:World) (S:Nat->Prop) (vs:List Value) (x:s.arg.den) (y:s.res.den)
  (hS: ∀k,S k->k<w.heap.size) (hx:Cp w S s.arg vs x) (he:RG T Γ s fn x λz=>z=y):
  Calls P f vs.toArray w λe w'=> ∃v,e= .returned v/\Below w.heap.size w w'/\kb s w' (λb=>S b\/(s.fresh=true/\b<w.heap.size)) v y:=by
 obtain ⟨c,hb,he⟩:=he
 skip
 ·obtain ⟨hl,Qk⟩:=qe (w:=w) s.arg vs x hx
  have h0:Rel ⟨w,S,λ_=>False,λ_=>none⟩ {tmps:=Sf s.arg x++List.replicate (fn.ntmps-(Sf s.arg x).length) .undef,heap:= []} {tmps:=vs.toArray++Array.replicate (fn.ntmps-vs.toArray.size) undef,defers:= []} w:=by
   refine ⟨λ_=>none,⟨Kh.refl _ _ _,λb hb=>⟨hS b hb,λh=>h⟩,(λ_ _ _ h=>by cases h),(λ_ _ _ h=>by cases h),(λ_ _ _ _ _ h=>by cases h),λl _ hn=>absurd rfl hn,λl=>rfl⟩,⟨by simp [hl],rfl,λt=>?_⟩⟩
   have h1:=Qk t
   show Bn _ w _ [] ((Sf s.arg x++List.replicate _ AV.undef).getD t .undef) ((vs.toArray++Array.replicate _ undef).getD t undef)
   by_cases ht:t<vs.length
   ·rw [Ah,Ar (by omega),<-Ah]
    rw [bo,Su (by simpa using ht)]
    simpa [Ah] using h1
   ·have:(Sf s.arg x++List.replicate (fn.ntmps-(Sf s.arg x).length) AV.undef).getD t .undef= .undef:=by
     rw [Ah,Aq (by omega)]
     rw [Xt]
     split<;>rfl
    rw [this];trivial
  refine calls_of_wp hf hb ?_
  refine (s8 hT Oh hm he _ w _ h0 λe st a' w' ⟨Hq,fr,y',ph,wU,hy⟩ ⟨π,h'⟩=>?_).1
  subst hy
  have Ah6:=zJ hT h' s fn fr y' ph (S:= λb=>S b\/(s.fresh=true/\b<w.heap.size)) ⟨λk hk=>⟨by rcases hk with hk|hk;exact hS k hk;exact hk.2,λh=>h⟩,by
   simp only [Li,Fk] at wU
   rcases wU with h|h
   ·exact .inl h
   ·right;intro k hk;rcases hk with hk|⟨hk,_⟩
    ·exact hk
    ·rw [h] at hk;cases hk⟩
  obtain ⟨v,hv,hr⟩:=Ah6
  cases e with
  |normal=>exact ⟨h'.2.defers,v,hv,v,rfl,h'.1.below.plain,hr⟩
  |ret=>exact ⟨h'.2.defers,v,hv,v,rfl,h'.1.below.plain,hr⟩
  |exit id=>exact absurd rfl (Hq id)
theorem fW {f:FuncId} {fn:Func} (hf:P.funcs[f]?=some fn) (hn:(fn.name== "runtime.NumGoroutine")=false) (hb:fn.body.isNone=false) (args:Array Value) (w:World):
  (callFunc f args).run P w= .ok (.enter f args) w:=by
 unfold callFunc
 simp only [Sem.run_bind,run_program,Result.andThen_ok,hf,hn,hb,Cx,Qu,Sem.run_pure]
theorem VO (hT:Dn P T) (Oh:Ki P Γ) (hm:P.follows .mixedOrders=true) {f:FuncId} {fn:Func} (hf:P.funcs[f]?=some fn) (hn:(fn.name== "runtime.NumGoroutine")=false) (hb:fn.body.isNone=false) (s:Spec)
  (h: ∀x y,s.fn x=some y->RG T Γ s fn x λz=>z=y):Sound P f s:=
 ⟨fW hf hn hb,λw S vs x y hS hx hy=>wL hT Oh hm hf s w S vs x y hS hx (h x y hy)⟩
end
end Go.Proofs.Ytkkdpknjohcekaa
