/-
  Part 26 of the proof that the statement FnSymmetries holds.
-/
import Derived.Test.YtkkdpknjohcekaaCFSymmetries24
namespace Go.Proofs.Ytkkdpknjohcekaa
open Go.RowKit
section
variable {P:Program} {T:Tab} {Γ:Env} {X:Ctx} {w w':World} {π:Pi}
def aL (π:Pi) (l k:Nat):Pi:= λm=>if m=k then π l else if m=l then none else π m
theorem OG {st:St} {l k:Nat} {b:OB} (hk:As st.heap k=none) (hl:As st.heap l=some b):
  As (Nu (Yy (st.heap.map λp=>(p.1,p.2.map (Ue l k))) l) k (b.map (Ue l k))) k=some (b.map (Ue l k))/\
  As (Nu (Yy (st.heap.map λp=>(p.1,p.2.map (Ue l k))) l) k (b.map (Ue l k))) l=none/\
  ∀m,m≠k->m≠l->As (Nu (Yy (st.heap.map λp=>(p.1,p.2.map (Ue l k))) l) k (b.map (Ue l k))) m=(As st.heap m).map (OB.map (Ue l k)):=by
 have Is:l≠k:= λe=>by subst e;rw [hk] at hl;cases hl
 refine ⟨Py _ _ _ ?_,?_,λm h1 h2=>?_⟩
 ·rw [Na _ _ _ Is.symm,Oe,hk];rfl
 ·rw [Ow _ _ _ _ Is,Md]
 ·rw [Ow _ _ _ _ h1,Na _ _ _ h2,Oe]
theorem Move.ren {st:St} {l k:Nat} {b:OB} {H':List (Nat×OB)} (hk:As st.heap k=none) (hl:As st.heap l=some b) (e1:As H' k=some (b.map (Ue l k))) (_e2:As H' l=none)
  (e3: ∀m,m≠k->m≠l->As H' m=(As st.heap m).map (OB.map (Ue l k))) (cw: ∀c,Un (aL π l k) c->Un π c):Move X w w π (aL π l k) st.heap H' (Ue l k):=by
 have Is:l≠k:= λe=>by subst e;rw [hk] at hl;cases hl
 have hc: ∀fr τ cs x,Cells w (Cr X.w0.heap.size X.Sc π fr) τ cs x->Cells w (Cr X.w0.heap.size X.Sc (aL π l k) fr) τ cs x:=
  fun fr τ cs x h=>Cells.Fw (Ar _) (λ_ _ _=>rfl) (λc _ hA=>hA.imp (cw c) id) τ cs x h
 have Zg: ∀m c,As st.heap m=some c->As H' (mS l k m)=some (c.map (Ue l k))/\aL π l k (mS l k m)=π m:=by
  intro m c hm
  unfold mS
  by_cases e:m=l
  ·subst e
   rw [hl] at hm;cases hm
   rw [Ab rfl]
   exact ⟨e1,by unfold aL;rw [Ab rfl]⟩
  ·have e':m≠k:= λe'=>by subst e';rw [hk] at hm;cases hm
   rw [Ai e]
   exact ⟨by rw [e3 m e' e,hm];rfl,by unfold aL;rw [Ai e',Ai e]⟩
 refine ⟨λc v h=>?_,hc⟩
 cases c with
 |data fr τ x=>obtain ⟨cs,h1,h2⟩:=h;exact ⟨cs,hc _ _ _ _ h1,h2⟩
 |own m off len=>
  obtain ⟨b',sz,n,h1,h0,h2,h3⟩:=h
  obtain ⟨g1,g2⟩:=Zg m b' h1
  exact ⟨_,sz,n,g1,by cases b'<;>exact h0,h2,by rw [g2];exact h3⟩
 |Gr m i=>
  obtain ⟨r,tid,vs,h1,h2,h3⟩:=h
  obtain ⟨g1,g2⟩:=Zg m _ h1
  exact ⟨r,tid,_,g1,by rw [g2];exact h2,h3⟩
 |Jp m i=>
  obtain ⟨r,b',sz,n,h1,h0,h2,h3,h4⟩:=h
  obtain ⟨g1,g2⟩:=Zg m b' h1
  exact ⟨r,_,sz,n,g1,by cases b'<;>exact h0,h2,by rw [g2];exact h3,h4⟩
 |sub m i c=>
  obtain ⟨r,b,sz,n,h1,h0,h2,h3,h4,h5⟩:=h
  obtain ⟨g1,g2⟩:=Zg m _ h1
  exact ⟨r,_,sz,n,g1,by cases b<;>exact h0,by rw [g2];exact h2,h3,h4,h5⟩
 |Jn m i c=>
  obtain ⟨r,b,n,sz,g,o,len,cap,h1,h0,h2,h3⟩:=h
  obtain ⟨g1,g2⟩:=Zg m _ h1
  exact ⟨r,_,n,sz,g,o,len,cap,g1,by cases b<;>exact h0,by rw [g2];exact h2,h3⟩
 |clo f Eb=>
  obtain ⟨us,h1,h2,h3⟩:=h
  refine ⟨us,h1,by simpa using h2,λj p hp=>?_⟩
  rw [Ge] at hp
  cases hq:Eb[j]? with
  |none=>rw [hq] at hp;cases hp
  |some q=>
   rw [hq] at hp
   simp only [Ah,Aa] at hp
   subst hp
   obtain ⟨r,tid,vs,h4,h5,h6⟩:=h3 j q hq
   obtain ⟨g1,g2⟩:=Zg q.1 _ h4
   exact ⟨r,tid,_,g1,by rw [g2];exact h5,h6⟩
 |Ka m=>
  obtain ⟨r,vt,f,h1,h2,h3⟩:=h
  obtain ⟨g1,g2⟩:=Zg m _ h1
  exact ⟨r,vt,f,g1,by rw [g2];exact h2,h3⟩
 |_=>exact h
theorem EF (l k:Nat) {st:St} {a:Act} (h:Rel X st a w):Rel X (st.rename l k) a w:=by
 unfold St.rename
 split
 ·rename_i b hk hl
  split
  ·rename_i hp
   simp only [Ag,Ms] at hp
   obtain ⟨π,h⟩:=h
   have Is:l≠k:= λe=>by subst e;rw [hk] at hl;cases hl
   obtain ⟨e1,e2,e3⟩:=OG hk hl
   have MO:π k=none:=(h.1.heap k).emp hk
   have un: ∀m r,aL π l k m=some r-> ∃m',π m'=some r/\mS l k m'=m:= λm r hm=>by
    unfold aL at hm
    split at hm
    ·rename_i e;subst e;exact ⟨l,hm,by unfold mS;rw [Ab rfl]⟩
    ·rename_i e
     split at hm
     ·cases hm
     ·rename_i e';exact ⟨m,hm,by unfold mS;rw [Ai e']⟩
   have m:=Move.ren (X:=X) (w:=w) (π:=π) hk hl e1 e2 e3 λc ⟨j,r,h1,h2⟩=>let ⟨j',h3,_⟩:=un j r h1;⟨j',r,h3,h2⟩
   refine ⟨aL π l k,⟨h.1.below,h.1.sc,λj r c h1 h2=>?_,λj r c h1 h2=>?_,λj1 j2 r1 r2 c h1 h2 h3 h4=>?_,λj hj ZP=>?_,λj=>?_⟩,?_⟩
   ·obtain ⟨j',h3,_⟩:=un j r h1;exact h.1.sub j' r c h3 h2
   ·obtain ⟨j',h3,_⟩:=un j r h1;exact h.1.place j' r c h3 h2
   ·obtain ⟨j1',g1,g2⟩:=un j1 r1 h1
    obtain ⟨j2',g3,g4⟩:=un j2 r2 h2
    rw [<-g2,<-g4,h.1.inj j1' j2' r1 r2 c g1 g3 h3 h4]
   ·have n1:j≠k:= λe=>by omega
    have n2:j≠l:= λe=>by omega
    have Ade:As st.heap j≠none:= λh0=>ZP ((e3 j n1 n2).trans (by rw [h0];rfl))
    have:=h.1.fb j hj Ade
    unfold aL
    rw [Ai n1,Ai n2]
    exact this
   ·by_cases n1:j=k
    ·subst n1
     refine Fl.Lg ?_ e1
     unfold aL
     rw [Ab rfl]
     exact ((h.1.heap l).Qq hl).move m (Ar _) (λr0 c h0 h1=>h.1.sub _ r0 c h0 h1) λ_ _ _ _ _=>rfl
    ·by_cases n2:j=l
     ·subst n2
      exact Fl.Tg (by unfold aL;rw [Ai n1,Ab rfl]) e2
     ·have hr:aL π l k j=π j:=by unfold aL;rw [Ai n1,Ai n2]
      have hn:=e3 j n1 n2
      have ho:=h.1.heap j
      cases l4:As st.heap j with
      |none=>rw [l4] at hn;exact Fl.Tg (by rw [hr];exact ho.emp l4) hn
      |some c=>
       rw [l4] at hn
       refine Fl.Lg ?_ hn
       rw [hr]
       exact (ho.Qq l4).move m (Ar _) (λr0 c h0 h1=>h.1.sub _ r0 c h0 h1) λ_ _ _ _ _=>rfl
   ·have:pa X w (aL π l k) {tmps:=st.tmps.map (·.map (Ue l k)),heap:=Nu (Yy (st.heap.map λp=>(p.1,p.2.map (Ue l k))) l) k (b.map (Ue l k))} a:=m.EE rfl h.2
    exact this
  ·exact h
 ·exact h
theorem gu: ∀(n t:Nat) (st:St) (a:Act) (w:World),Rel X st a w->Rel X (Mf n t st) a w
 |0,_,_,_,_,h=>h
 |n+1,t,st,a,w,h=>by
  simp only [Mf]
  refine gu n (t+1) _ a w ?_
  split
  ·split
   ·split
    ·exact h
    ·exact EF _ _ h
   ·exact h
  ·exact h
theorem gW (f:Nat->OB->OB): ∀(H:List (Nat×OB)) (l:Nat),As (H.map λp=>(p.1,f p.1 p.2)) l=(As H l).map (f l)
 | [],_=>rfl
 |(k,b)::r,l=>by
  simp only [Bw,As]
  split
  ·rename_i e;subst e;rfl
  ·exact gW f r l
theorem OB.AS (x y z:Bool) (b:OB):(b.Ig x y z).row=b.row:=by cases b<;>rfl
def m5 (live:List Nat) (l:Nat) (b:OB):OB:=b.Ig (live.contains Ta) (live.contains (AR+l)) (live.contains (SQ+l))
theorem Move.Ig (live:List Nat) {H:List (Nat×OB)} :Move X w w π π H (H.map λp=>(p.1,m5 live p.1 p.2)) (λc=>c):=by
 refine ⟨λc v h=>?_,λfr τ cs x h=>h⟩
 have Zg: ∀m c,As H m=some c->As (H.map λp=>(p.1,m5 live p.1 p.2)) m=some (m5 live m c):= λm c hm=>by rw [gW,hm];rfl
 cases c with
 |own m off len=>
  obtain ⟨b',sz,n,h1,h0,h2,h3⟩:=h
  exact ⟨_,sz,n,Zg m b' h1,by unfold m5;rw [OB.AS];exact h0,h2,h3⟩
 |Gr m i=>
  obtain ⟨r,tid,vs,h1,h2,h3⟩:=h
  exact ⟨r,tid,_,Zg m _ h1,h2,h3⟩
 |Jp m i=>
  obtain ⟨r,b',sz,n,h1,h0,h2,h3,h4⟩:=h
  exact ⟨r,_,sz,n,Zg m b' h1,by unfold m5;rw [OB.AS];exact h0,h2,h3,h4⟩
 |sub m i c=>
  obtain ⟨r,b,sz,n,h1,h0,h2⟩:=h
  exact ⟨r,_,sz,n,Zg m _ h1,by cases b<;>exact h0,h2⟩
 |Jn m i c=>
  obtain ⟨r,b,n,sz,g,o,len,cap,h1,h0,h2⟩:=h
  exact ⟨r,_,n,sz,g,o,len,cap,Zg m _ h1,by cases b<;>exact h0,h2⟩
 |clo f Eb=>
  obtain ⟨us,h1,h2,h3⟩:=h
  refine ⟨us,h1,h2,λj p hp=>?_⟩
  obtain ⟨r,tid,vs,h4,h5,h6⟩:=h3 j p hp
  exact ⟨r,tid,_,Zg p.1 _ h4,h5,h6⟩
 |Ka m=>
  obtain ⟨r,vt,f,h1,h2,h3⟩:=h
  exact ⟨r,vt,f,Zg m _ h1,h2,h3⟩
 |_=>exact h
theorem SR (live:List Nat) {st:St} {a:Act} (h:Rel X st a w):Rel X (st.Ig live) a w:=by
 obtain ⟨π,h⟩:=h
 have m:=Move.Ig (X:=X) (w:=w) (π:=π) live (H:=st.heap)
 refine ⟨π,⟨h.1.below,h.1.sc,h.1.sub,h.1.place,h.1.inj,λj hj Is=>h.1.fb j hj λh0=>Is (by show As (st.heap.map λp=>(p.1,m5 live p.1 p.2)) j=none;rw [gW,h0];rfl),λj=>?_⟩,?_⟩
 ·have hn:As (st.Ig live).heap j=(As st.heap j).map (m5 live j):=gW (m5 live) st.heap j
  have ho:=h.1.heap j
  cases l4:As st.heap j with
  |none=>rw [l4] at hn;exact Fl.Tg (ho.emp l4) hn
  |some c=>
   rw [l4] at hn
   refine Fl.Lg ?_ hn
   have hb:=(ho.Qq l4).move m (Ar _) (λr0 c h0 h1=>h.1.sub _ r0 c h0 h1) λ_ _ _ _ _=>rfl
   cases c with
   |arr fr tr e tid xs=>
    simp only [OB.map,By,Jo,OB.Ig,m5] at hb⊢
    cases hp:π j with
    |none=>rw [hp] at hb;exact hb
    |some r=>
     rw [hp] at hb
     obtain ⟨⟨g1,g2,g3⟩,cur,ti,g4,g5,g6,g7,g8,g9⟩:=hb
     refine ⟨⟨g1,g2,λhf=>g3 (Bm.1 hf).1⟩,cur,ti,g4,g5,g6,g7,λi x hx=>?_,λht=>g9 (Bm.1 ht).1⟩
     obtain ⟨es,k1,k2,k3⟩:=g8 i x hx
     refine ⟨es,k1,k2,Cells.Fw (Ar _) (λ_ _ _=>rfl) (λb _ hA=>?_) e es x k3⟩
     exact hA.imp id (Or.imp id λ⟨h1,h2⟩=>⟨(Bm.1 h1).1,h2⟩)
   |Gg e tid xs=>exact hb
   |Bj e te rows out kp=>exact hb
   |var tid vs=>
    have e:(OB.var tid vs).map (λc=>c)= .var tid vs:=by simp [OB.map]
    rw [e] at hb
    obtain ⟨r',h1,h2,cur,h3,h4,h5⟩:=hb
    refine ⟨r',h1,h2,cur,h3,by rw [h4,Jv],λi c hc=>?_⟩
    rw [Ge] at hc
    cases hv:vs[i]? with
    |none=>rw [hv] at hc;cases hc
    |some c0=>
     rw [hv] at hc
     obtain ⟨u,k1,k2,k3⟩:=h5 i c0 hv
     refine ⟨u,k1,k2,?_⟩
     have hc:AC.XZ (live.contains Ta) c0=c:=Aw hc
     subst hc
     cases c0 with
     |data fr τ x=>
      show Cz w (Cr X.w0.heap.size X.Sc π (fr&&!(live.contains Ta&&τ.flat))) τ u x
      exact Cz.Ig k3 λb _ hA=>hA.imp id (Or.imp id λ⟨h1,h2⟩=>⟨(Bm.1 h1).1,h2⟩)
     |_=>exact k3
   |Ul v f=>exact hb
 ·exact ⟨h.2.size,h.2.defers,λt=>by have:=m.av (h.2.tmps t);rwa [AC.map_id] at this⟩
theorem wF (t:Nat) {st:St} {a:Act} (h:Rel X st a w):Rel X (aJ t st) a w:=by
 obtain ⟨π,h⟩:=h
 unfold aJ
 split
 ·rename_i l off len hg
  split
  ·rename_i fr tr e tid xs hl
   split
   ·rename_i ow
    have hv:=h.2.tmps t
    rw [hg] at hv
    obtain ⟨π',h1,h2,_⟩:=qH h (by simpa using ow) hl hv
    refine ⟨π',h1.1,⟨?_,h1.2.defers,λk=>?_⟩⟩
    ·show a.tmps.size=(Rr _ t _).length
     rw [Yi];exact h1.2.size
    ·show Bf X w π' _ ((Rr _ t _).getD k .undef) _
     rw [Qe]
     split
     ·rename_i hk
      obtain ⟨rfl,_⟩:=hk
      exact h2
     ·exact h1.2.tmps k
   ·exact ⟨π,h⟩
  ·exact ⟨π,h⟩
 ·exact ⟨π,h⟩
theorem Move.Aaq {H:List (Nat×OB)} {π:Pi} {m:Nat} {tid:TypeId} {vs vs':List AC} (hm:As H m=some (.var tid vs)):Move X w w π π H (Yr H m (.var tid vs')) (λc=>c):=by
 have ne: ∀l b,As H l=some b->(∀t us,b≠ .var t us)->As (Yr H m (.var tid vs')) l=some b:= λl b h hb=>by
  rw [Dv H m l _ (λe=>by subst e;rw [hm] at h;cases h;exact hb _ _ rfl)];exact h
 have va: ∀l t us,As H l=some (.var t us)-> ∃t' Vw,As (Yr H m (.var tid vs')) l=some (.var t' Vw):= λl t us h=>by
  by_cases e:l=m
  ·subst e;exact ⟨_,_,Ej H l _ _ hm⟩
  ·exact ⟨t,us,by rw [Dv H m l _ e];exact h⟩
 refine ⟨λc v h=>?_,λ_ _ _ _ h=>h⟩
 cases c with
 |own l off len=>obtain ⟨b,sz,n,h1,h2,h3⟩:=h;exact ⟨b,sz,n,ne l b h1 (λt us e=>by subst e;cases h2),h2,h3⟩
 |Gr l i=>obtain ⟨r,t,us,h1,h2⟩:=h;obtain ⟨t',Vw,h3⟩:=va l t us h1;exact ⟨r,t',Vw,h3,h2⟩
 |Jp l i=>obtain ⟨r,b,sz,n,h1,h2,h3⟩:=h;exact ⟨r,b,sz,n,ne l b h1 (λt us e=>by subst e;cases h2),h2,h3⟩
 |sub l i c=>obtain ⟨r,b,sz,n,h1,h2,h3⟩:=h;exact ⟨r,b,sz,n,ne l b h1 (λt us e=>by subst e;cases h2),h2,h3⟩
 |Jn l i j=>obtain ⟨r,b,n,sz,g,o,len,cap,h1,h2,h3⟩:=h;exact ⟨r,b,n,sz,g,o,len,cap,ne l b h1 (λt us e=>by subst e;cases h2),h2,h3⟩
 |clo f Eb=>
  obtain ⟨us,h1,h2,h3⟩:=h
  refine ⟨us,h1,h2,λj p hp=>?_⟩
  obtain ⟨r,t,ws,h4,h5⟩:=h3 j p hp
  obtain ⟨t',Vw,h6⟩:=va p.1 t ws h4
  exact ⟨r,t',Vw,h6,h5⟩
 |Ka l=>obtain ⟨r,vt,f,h1,h2⟩:=h;exact ⟨r,vt,f,ne l _ h1 (λt us e=>by cases e),h2⟩
 |_=>exact h
theorem zG {π:Pi} {st:St} {a:Act} (h:Bb X π st a w) {m:Nat} {tid:TypeId} {vs:List AC} (hm:As st.heap m=some (.var tid vs)) {c:Nat} {x:AC}
  (hx: ∀r cur u,π m=some r->w.heap[r.g]?=some (.cells cur tid (0,0))->cur.toList[c]?=some u->Gy X w π st.heap x u):Bb X π (st.Jm m (.var tid (vs.set c x))) a w:=by
 have mv:=Move.Aaq (X:=X) (w:=w) (π:=π) (vs':=vs.set c x) hm
 refine ⟨⟨h.1.below,h.1.sc,h.1.sub,h.1.place,h.1.inj,λj hj Is=>h.1.fb j hj λh0=>Is ?_,λj=>?_⟩,?_⟩
 ·show As (Yr st.heap m _) j=none
  rw [Dv _ _ _ _ (λe=>by subst e;rw [hm] at h0;cases h0)];exact h0
 ·have ho:=h.1.heap j
  by_cases e:j=m
  ·subst e
   refine Fl.Lg (b:= .var tid (vs.set c x)) ?_ (Ej st.heap j _ _ hm)
   obtain ⟨r,h1,h2,cur,h3,h4⟩:=ho.Qq hm
   refine ⟨r,h1,h2,cur,h3,?_⟩
   obtain ⟨h5,h6⟩:=h4
   refine ⟨by rw [Ce];exact h5,λi d hd=>?_⟩
   rw [Eh] at hd
   split at hd
   ·rename_i hci
    subst hci
    split at hd
    ·rename_i Jx
     cases hd
     obtain ⟨u,g1,g2,_⟩:=h6 c vs[c] (Ac Jx)
     exact ⟨u,g1,g2,mv.ac _ _ (hx r cur u h1 h3 g1)⟩
    ·cases hd
   ·obtain ⟨u,g1,g2,g3⟩:=h6 i d hd
    exact ⟨u,g1,g2,mv.ac _ _ g3⟩
  ·have hn:As (st.Jm m (.var tid (vs.set c x))).heap j=As st.heap j:=Dv _ _ _ _ e
   cases hg:As st.heap j with
   |none=>exact Fl.Tg (ho.emp hg) (hn.trans hg)
   |some b=>
    have hb:=(ho.Qq hg).move mv (Ar _) (λr0 c h0 h1=>h.1.sub _ r0 c h0 h1) λ_ _ _ _ _=>rfl
    refine Fl.Lg ?_ (hn.trans hg)
    have eid:b.map (λc=>c)=b:=by cases b<;>simp [OB.map]
    rw [eid] at hb
    exact hb
 ·exact ⟨h.2.size,h.2.defers,λt=>by have:=mv.av (h.2.tmps t);rwa [AC.map_id] at this⟩
theorem mR (c:Nat) {st:St} {a:Act} (h:Rel X st a w):Rel X (Pg c st) a w:=by
 obtain ⟨π,h⟩:=h
 unfold Pg
 split
 ·rename_i Apw vs hm
  split
  ·rename_i l off len hc
   split
   ·rename_i fr tr e te xs hl
    split
    ·rename_i ow
     split
     ·rename_i tid vs' hm'
      have hlv:On≠l:= λe=>by subst e;rw [hm] at hl;cases hl
      obtain ⟨r,h1,h2,cur,h3,h4,h5⟩:=(h.1.heap On).Qq hm
      obtain ⟨u,g1,g2,g3⟩:=h5 c _ hc
      obtain ⟨π',k1,k2,k3⟩:=qH h (by simpa using ow) hl g3
      refine ⟨π',zG k1 hm' λr' Yn u' q1 q2 q3=>?_⟩
      rw [k3 On hlv,h1] at q1
      cases q1
      rw [h3] at q2
      cases q2
      rw [g1] at q3
      cases q3
      exact k2
     ·exact ⟨π,h⟩
    ·exact ⟨π,h⟩
   ·exact ⟨π,h⟩
  ·exact ⟨π,h⟩
 ·exact ⟨π,h⟩
theorem eF (live:List Nat): ∀(n c:Nat) (st:St) (a:Act) (w:World),Rel X st a w->Rel X (Pa live n c st) a w
 |0,_,_,_,_,h=>h
 |n+1,c,st,a,w,h=>by
  simp only [Pa]
  refine eF live n (c+1) _ a w ?_
  split
  ·exact mR c h
  ·exact h
theorem j0 (live:List Nat): ∀(n t:Nat) (st:St) (a:Act) (w:World),Rel X st a w->Rel X (Oj live n t st) a w
 |0,_,st,a,w,h=>eF live 16 0 st a w h
 |n+1,t,st,a,w,h=>by
  simp only [Oj]
  refine j0 live n (t+1) _ a w ?_
  split
  ·exact wF t h
  ·exact h
theorem IE (live:List Nat) {st:St} {a:Act} (h:Rel X st a w):Rel X (st.clean live) a w:=by
 obtain ⟨π,h⟩:=h
 have PN: ∀s:St,Rel X s a w->Rel X (if live.any (λt=>Nat.ble Ta t) then s.Ig live else s) a w:=by
  intro s hs
  split
  ·exact SR live hs
  ·exact hs
 have key: ∀s:St,Rel X s a w->Rel X (if live.contains bw then Mf s.tmps.length 0 s else s) a w:=by
  intro s hs
  split
  ·exact gu _ _ _ a w hs
  ·exact hs
 have PQ: ∀s:St,Rel X s a w->Rel X (if live.any (λt=>Nat.ble aK t&&Nat.blt t bw) then Oj live s.tmps.length 0 s else s) a w:=by
  intro s hs
  split
  ·exact j0 _ _ _ _ a w hs
  ·exact hs
 unfold St.clean
 refine PN _ (key _ (PQ _ (bM _ _ a w ⟨π,h.1,⟨by simp [Wh,h.2.size],h.2.defers,λt=>?_⟩⟩)))
 show Bf X w π st.heap ((Hs live 0 st.tmps).getD t .undef) _
 rcases al live 0 st.tmps t with e|e
 ·rw [e];trivial
 ·rw [e];exact h.2.tmps t
def YP:Ld->Exit
 | .normal=> .normal
 | .exit id=> .exit id
 | .ret=> .ret
def p9 (P:Program) (c:Code) (Q:Exit->Act->World->Prop) (a:Act) (w:World):Prop:=
 ∀(b:Frame) (k:List Item) (cs:List Frame),∃e a' w',Q e a' w'/\Arrives P (lone (b.at a (.code c:: .inLoop c::k)) cs w) b k cs e a' w'
theorem yX {c:Code} {Q:Exit->Act->World->Prop} {a:Act} {w:World} (h:c.wp P (Exit.then (p9 P c Q) Q) a w):p9 P c Q a w:=by
 intro b k cs
 obtain ⟨e,NB,SU,hq,yA⟩:=h b (.inLoop c::k) cs
 cases e with
 |normal=>
  obtain ⟨Ahb,Ah5,Ak3,Adu,UB⟩:=hq b k cs
  exact ⟨Ahb,Ah5,Ak3,Adu, .of_steps (Steps.trans yA (.one step_inLoop)) UB⟩
 |exit id=>exact ⟨_,NB,SU,hq, .pass (x:= .inLoop c) rfl (λ_ _=> .inl (by simp)) yA⟩
 |goto l=>exact ⟨_,NB,SU,hq, .pass (x:= .inLoop c) rfl (λ_ _=> .inl (by simp)) yA⟩
 |ret=>exact ⟨_,NB,SU,hq, .pass (x:= .inLoop c) rfl (λ_ _=> .inl (by simp)) yA⟩
 |panic ch=>exact ⟨_,NB,SU,hq, .pass (x:= .inLoop c) rfl (λ_ _=> .inl (by simp)) yA⟩
 |outgrown=>exact ⟨_,NB,SU,hq, .pass (x:= .inLoop c) rfl (λ_ _=> .inl (by simp)) yA⟩
theorem ME {c:Code} {Q:Exit->Act->World->Prop} {a:Act} {w:World} (h:p9 P c Q a w):(Code.loop c).wp P Q a w:=by
 intro b k cs
 obtain ⟨e,a',w',hq,yA⟩:=h b k cs
 exact ⟨e,a',w',hq, .of_steps (.one step_loop) yA⟩
theorem eo (ops:Array Oper): ∀(i:Nat) (l:List AV),(Oc ops i l).length=l.length
 |_,[]=>rfl
 |i,v::r=>by cases v<;>simp [Oc,eo ops (i+1) r]
theorem iF (ops:Array Oper): ∀(i:Nat) (l:List AV) (t:Nat),(Oc ops i l).getD t .undef= .undef\/(Oc ops i l).getD t .undef=l.getD t .undef
 |_,[],_=> .inr rfl
 |i,v::r,0=>by
  cases v with
  |Mh l=>
   simp only [Oc,eg]
   split
   ·exact .inr rfl
   ·exact .inl rfl
  |_=>exact .inr rfl
 |i,v::r,t+1=>by
  have h:=iF ops (i+1) r t
  cases v<;>(simp only [Oc,Mv];exact h)
theorem yh (ops:Array Oper) {st:St} {a:Act} (h:Rel X st a w):Rel X (st.kG ops) a w:=by
 obtain ⟨π,h⟩:=h
 refine ⟨π,h.1,⟨by show a.tmps.size=(Oc ops 0 st.tmps).length;rw [eo];exact h.2.size,h.2.defers,λt=>?_⟩⟩
 show Bf X w π st.heap ((Oc ops 0 st.tmps).getD t .undef) _
 rcases iF ops 0 st.tmps t with e|e
 ·rw [e];trivial
 ·rw [e];exact h.2.tmps t
theorem qN (hT:Du P T) (Of:Ju P Γ) (hm:P.follows .mixedOrders=true) {live:Nat->List Nat} {c:Code} {st:St} {K:Ld->St->Prop} (hr:Ns T Γ live c st K):
  ∀(a:Act) (w:World) (Q:Exit->Act->World->Prop),Rel X st a w->(∀e st' a' w',K e st'->Rel X st' a' w'->Q (YP e) a' w')->c.wp P Q a w/\ ∀c',c= .loop c'->p9 P c' Q a w:=by
 induction hr with
 |skip hk=>exact λa w Q h hQ=>⟨wp_skip (hQ .normal _ _ _ hk h),λc' e=>by cases e⟩
 |label hk=>exact λa w Q h hQ=>⟨wp_label (hQ .normal _ _ _ hk h),λc' e=>by cases e⟩
 |exit hk=>exact λa w Q h hQ=>⟨wp_exit (hQ (.exit _) _ _ _ hk h),λc' e=>by cases e⟩
 |ret hk=>exact λa w Q h hQ=>⟨wp_ret (hQ .ret _ _ _ hk h),λc' e=>by cases e⟩
 |region hk=>exact λa w Q h hQ=>⟨ED hT (Of.reg _) hm (yh _ h) hk λst' a' w' h1 h2=>hQ .normal _ _ _ h1 h2,λc' e=>by cases e⟩
 |seq Q1 _ _ h3 JC yG=>
  intro a w Q h hQ
  refine ⟨wp_seq ((JC a w _ h λe st' a' w' hk h'=>?_).1),λc' e=>by cases e⟩
  cases e with
  |normal=>exact (yG st' hk a' w' Q h' hQ).1
  |exit id=>exact hQ (.exit id) _ _ _ (h3 _ _ (by simp) hk) h'
  |ret=>exact hQ .ret _ _ _ (h3 _ _ (by simp) hk) h'
 |cond hc _ _ JC yG=>
  intro a w Q h hQ
  refine ⟨?_,λc' e=>by cases e⟩
  obtain ⟨π,h'⟩:=h
  rename_i c x y st fr t Q0 _ _
  have hr:=Dn h'.2 c
  rw [hc] at hr
  refine wp_cond (Yh hr) ?_
  cases t with
  |true=>exact (JC rfl a w Q ⟨π,h'⟩ hQ).1
  |false=>exact (yG rfl a w Q ⟨π,h'⟩ hQ).1
 |block Q1 _ h2 ih=>
  intro a w Q h hQ
  rename_i id c st Q0 _
  refine ⟨wp_block ((ih a w _ h λe st' a' w' hk h'=>?_).1),λc' e=>by cases e⟩
  have h3:=h2 e st' hk
  cases e with
  |normal=>exact hQ .normal _ _ _ h3 h'
  |ret=>exact hQ .ret _ _ _ h3 h'
  |exit JB=>
   show (if JB=id then Q .normal a' w' else Q (.exit JB) a' w')
   simp only [tN] at h3
   by_cases OH:JB=id
   ·rw [Ab OH] at h3⊢;exact hQ .normal _ _ _ h3 h'
   ·rw [Ai OH] at h3⊢;exact hQ (.exit JB) _ _ _ h3 h'
 |loop Q1 _ _ h3 JC yG=>
  intro a w Q h hQ
  rename_i c st Q0 _ _
  have key:p9 P c Q a w:=by
   refine yX ((JC a w _ (IE _ h) λe st' a' w' hk h'=>?_).1)
   cases e with
   |normal=>exact (yG st' hk a' w' Q h' hQ).2 c rfl
   |exit id=>exact hQ (.exit id) _ _ _ (h3 _ _ (by simp) hk) h'
   |ret=>exact hQ .ret _ _ _ (h3 _ _ (by simp) hk) h'
  exact ⟨ME key,λc' e=>by cases e;exact key⟩
def EH (tmps:Array Value):ResultVar->Sem Value
 | .tmp t=>pure (tmps.getD t undef)
 | .cell p t=>do loadVar t (<-asAddr (tmps.getD p undef))
theorem dG (fn:Func) (tmps:Array Value):results fn tmps=(do
  let vs<-fn.results.mapM (EH tmps)
  pure (if h:vs.size=1 then vs[0] else .tuple vs)):=by
 rfl
theorem HC {α:Type} {l:List α} (h:l.length=2): ∃a b,l= [a,b]:=by
 rcases l with _|⟨a,_|⟨b,_|⟨c,r⟩⟩⟩<;>simp at h
 exact ⟨a,b,rfl⟩
theorem tW {α:Type} {l:List α} (h:l.length=3): ∃a b c,l= [a,b,c]:=by
 rcases l with _|⟨a,_|⟨b,_|⟨c,_|⟨d,r⟩⟩⟩⟩<;>simp at h
 exact ⟨a,b,c,rfl⟩
theorem yV {t:TypeId} {v u:Value} (h:(Instr.loadAt t v).run P w= .ok u w):(do loadVar t (<-asAddr v):Sem Value).run P w= .ok u w:=by
 unfold Instr.loadAt at h
 cases v with
 |pointer a=>
  cases a with
  |some a=>simpa [Instr.sureAddr,asAddr] using h
  |none=>simp [Instr.sureAddr,Result.andThen] at h
 |_=>simp [Instr.sureAddr,Result.andThen] at h
theorem Wv (hT:Du P T) {st:St} {a:Act} (h:Bb X π st a w): ∀(rs:List ResultVar) (l:List AV),bR T st rs=some l->
  ∃vs:List Value,vs.length=rs.length/\l.length=rs.length/\(∀(i:Nat) r v,rs[i]?=some r->vs[i]?=some v->(EH a.tmps r).run P w= .ok v w)/\(∀(i:Nat) c v,l[i]?=some c->vs[i]?=some v->Bf X w π st.heap c v)
 | [],l,he=>by
  simp only [bR,Aa] at he;subst he
  exact ⟨[],rfl,rfl,λi r v hr=>by simp at hr,λi c v hc=>by simp at hc⟩
 | .tmp t::r,l,he=>by
  simp only [bR] at he
  cases hr:bR T st r with
  |none=>rw [hr] at he;cases he
  |some l'=>
   rw [hr] at he
   simp only [Ah,Aa] at he;subst he
   obtain ⟨vs,h1,h2,h3,h4⟩:=Wv hT h r l' hr
   refine ⟨a.tmps.getD t undef::vs,by simp [h1],by simp [h2],λi r' v ix hv=>?_,λi c v hc hv=>?_⟩
   ·rcases i with _|i
    ·rw [Bl,Aa] at ix hv;subst ix;subst hv;rfl
    ·exact h3 i r' v (by simpa using ix) (by simpa using hv)
   ·rcases i with _|i
    ·rw [Bl,Aa] at hc hv;subst hc;subst hv;exact h.2.tmps t
    ·exact h4 i c v (by simpa using hc) (by simpa using hv)
 | .cell p t::r,l,he=>by
  simp only [bR] at he
  split at he
  ·rename_i c0 l' ZM hr
   simp only [Aa] at he;subst he
   obtain ⟨u,hu,hru⟩:=kN hT h t _ _ c0 (h.2.tmps p) ZM
   obtain ⟨vs,h1,h2,h3,h4⟩:=Wv hT h r l' hr
   refine ⟨u::vs,by simp [h1],by simp [h2],λi r' v ix hv=>?_,λi c v hc hv=>?_⟩
   ·rcases i with _|i
    ·simp at ix hv;subst ix;subst hv;exact yV hu
    ·exact h3 i r' v (by simpa using ix) (by simpa using hv)
   ·rcases i with _|i
    ·simp at hc hv;subst hc;subst hv;exact hru
    ·exact h4 i c v (by simpa using hc) (by simpa using hv)
  ·cases he
theorem yl (hT:Du P T) {st:St} {a:Act} (h:Bb X π st a w) (s:Spec) (fn:Func) (fr:Bool) (y:s.res.den) (he:kR T s fn st=some (fr,y)) {S:Nat->Prop} (hS:Qh X S fr):
  ∃v,(results fn a.tmps).run P w= .ok v w/\jr s w S v y:=by
 have UR:fn.results=fn.results.toList.toArray:=Array.toArray_toList.symm
 unfold kR at he
 split at he
 ·rename_i c hl
  obtain ⟨vs,h1,h2,h3,h4⟩:=Wv hT h _ _ hl
  split at he
  ·cases he
  ·rename_i hm
   have hlen:fn.results.toList.length=1:=by rw [<-h2];rfl
   obtain ⟨r,hr⟩:=Dy.1 hlen
   rw [hlen] at h1
   obtain ⟨v,rfl⟩:=Dy.1 h1
   have e0:=h3 0 r v (by rw [hr];rfl) rfl
   refine ⟨v,?_,?_⟩
   ·rw [dG,UR,hr]
    simp [e0]
   ·unfold jr
    rw [Ai hm]
    exact Xe h.1 s.res c v fr y (h4 0 c v rfl rfl) he hS
 ·rename_i c d hl
  obtain ⟨vs,h1,h2,h3,h4⟩:=Wv hT h _ _ hl
  split at he
  ·rename_i hm
   have hlen:fn.results.toList.length=2:=by rw [<-h2];rfl
   obtain ⟨r1,r2,hr⟩:=HC hlen
   rw [hlen] at h1
   obtain ⟨v1,v2,rfl⟩:=HC h1
   have e0:=h3 0 r1 v1 (by rw [hr];rfl) rfl
   have e1:=h3 1 r2 v2 (by rw [hr];rfl) rfl
   refine ⟨.tuple #[v1,v2],?_,?_⟩
   ·rw [dG,UR,hr]
    simp [e0,e1]
   ·unfold jr
    rw [Ab hm]
    exact ⟨[v1,v2],rfl,Zt h.1 s.res _ _ fr y rfl h4 he hS⟩
  ·cases he
 ·rename_i c d d' hl
  obtain ⟨vs,h1,h2,h3,h4⟩:=Wv hT h _ _ hl
  split at he
  ·rename_i hm
   have hlen:fn.results.toList.length=3:=by rw [<-h2];rfl
   obtain ⟨r1,r2,r3,hr⟩:=tW hlen
   rw [hlen] at h1
   obtain ⟨v1,v2,v3,rfl⟩:=tW h1
   have e0:=h3 0 r1 v1 (by rw [hr];rfl) rfl
   have e1:=h3 1 r2 v2 (by rw [hr];rfl) rfl
   have e2:=h3 2 r3 v3 (by rw [hr];rfl) rfl
   refine ⟨.tuple #[v1,v2,v3],?_,?_⟩
   ·rw [dG,UR,hr]
    simp [e0,e1,e2]
   ·unfold jr
    rw [Ab hm]
    exact ⟨[v1,v2,v3],rfl,Zt h.1 s.res _ _ fr y rfl h4 he hS⟩
  ·cases he
 ·cases he
theorem pv {S:Nat->Prop} : ∀(τ:Ty) (vs:List Value) (x:τ.den),Cl w S τ vs x->
  (Rx τ x).length=vs.length/\ ∀i,Bf ⟨w,S,λ_=>False,λ_=>none⟩ w (λ_=>none) [] ((Rx τ x).getD i .undef) (vs.getD i undef)
 | .pair a r,[],x,h=>h.elim
 | .pair a r,v::vs,x,h=>by
  obtain ⟨h1,h2⟩:=pv r vs x.2 h.2
  refine ⟨by simp [Rx,h1],λi=>?_⟩
  rcases i with _|i
  ·simp only [Rx,eg]
   cases hf:a.flat with
   |true=>exact Cz.flat hf h.1
   |false=>
    exact Cz.Ig h.1 λk _ hk=>by
     rcases hk with ⟨l,r,hl,_⟩|hk|⟨hk,_⟩
     ·cases hl
     ·exact hk
     ·cases hk
  ·simpa [Rx] using h2 i
 | .unit,[],_,_=>⟨rfl,λi=>by simp [Rx];trivial⟩
 | .unit,_::_,_,h=>h.elim
 | .int _,_,_,h=>by simp [Cl] at h
 | .bool,_,_,h=>by simp [Cl] at h
 | .str,_,_,h=>by simp [Cl] at h
 | .slice _,_,_,h=>by simp [Cl] at h
 | .ptr _,_,_,h=>by simp [Cl] at h
 | .oslice _,_,_,h=>by simp [Cl] at h
 | .optr _,_,_,h=>by simp [Cl] at h
 | .smap _,_,_,h=>by simp [Cl] at h
 | .clo _ _,_,_,h=>by simp [Cl] at h
theorem vo (hT:Du P T) (Of:Ju P Γ) (hm:P.follows .mixedOrders=true) {f:FuncId} {fn:Func} (hf:P.funcs[f]?=some fn) (s:Spec) (w:World) (S:Nat->Prop) (vs:List Value) (x:s.arg.den) (y:s.res.den)
  (hS: ∀k,S k->k<w.heap.size) (hx:Cl w S s.arg vs x) (he:MV T Γ s fn x λz=>z=y):
  Calls P f vs.toArray w λe w'=> ∃v,e= .returned v/\Below w.heap.size w w'/\jr s w' (λb=>S b\/(s.fresh=true/\b<w.heap.size)) v y:=by
 obtain ⟨c,hb,he⟩:=he
 skip
 ·obtain ⟨hl,Qk⟩:=pv (w:=w) s.arg vs x hx
  have h0:Rel ⟨w,S,λ_=>False,λ_=>none⟩ {tmps:=Rx s.arg x++List.replicate (fn.ntmps-(Rx s.arg x).length) .undef,heap:= []} {tmps:=vs.toArray++Array.replicate (fn.ntmps-vs.toArray.size) undef,defers:= []} w:=by
   refine ⟨λ_=>none,⟨Kl.refl _ _ _,λb hb=>⟨hS b hb,λh=>h⟩,(λ_ _ _ h=>by cases h),(λ_ _ _ h=>by cases h),(λ_ _ _ _ _ h=>by cases h),λl _ hn=>absurd rfl hn,λl=>rfl⟩,⟨by simp [hl],rfl,λt=>?_⟩⟩
   have h1:=Qk t
   show Bf _ w _ [] ((Rx s.arg x++List.replicate _ AV.undef).getD t .undef) ((vs.toArray++Array.replicate _ undef).getD t undef)
   by_cases ht:t<vs.length
   ·rw [Al,Aq (by omega),<-Al]
    rw [aX,Sj (by simpa using ht)]
    simpa [Al] using h1
   ·have:(Rx s.arg x++List.replicate (fn.ntmps-(Rx s.arg x).length) AV.undef).getD t .undef= .undef:=by
     rw [Al,Ao (by omega)]
     rw [List.getElem?_replicate]
     split<;>rfl
    rw [this];trivial
  refine calls_of_wp hf hb ?_
  refine (qN hT Of hm he _ w _ h0 λe st a' w' ⟨Is,fr,y',oA,vD,hy⟩ ⟨π,h'⟩=>?_).1
  subst hy
  have Ado:=yl hT h' s fn fr y' oA (S:= λb=>S b\/(s.fresh=true/\b<w.heap.size)) ⟨λk hk=>⟨by rcases hk with hk|hk;exact hS k hk;exact hk.2,λh=>h⟩,by
   simp only [Lk,Eg] at vD
   rcases vD with h|h
   ·exact .inl h
   ·right;intro k hk;rcases hk with hk|⟨hk,_⟩
    ·exact hk
    ·rw [h] at hk;cases hk⟩
  obtain ⟨v,hv,hr⟩:=Ado
  cases e with
  |normal=>exact ⟨h'.2.defers,v,hv,v,rfl,h'.1.below.plain,hr⟩
  |ret=>exact ⟨h'.2.defers,v,hv,v,rfl,h'.1.below.plain,hr⟩
  |exit id=>exact absurd rfl (Is id)
theorem fq {f:FuncId} {fn:Func} (hf:P.funcs[f]?=some fn) (hn:(fn.name== "runtime.NumGoroutine")=false) (hb:fn.body.isNone=false) (args:Array Value) (w:World):
  (callFunc f args).run P w= .ok (.enter f args) w:=by
 unfold callFunc
 simp only [Sem.run_bind,run_program,Result.andThen_ok,hf,hn,hb,Cy,Sl,Sem.run_pure]
theorem RI (hT:Du P T) (Of:Ju P Γ) (hm:P.follows .mixedOrders=true) {f:FuncId} {fn:Func} (hf:P.funcs[f]?=some fn) (hn:(fn.name== "runtime.NumGoroutine")=false) (hb:fn.body.isNone=false) (s:Spec)
  (h: ∀x y,s.fn x=some y->MV T Γ s fn x λz=>z=y):Sound P f s:=
 ⟨fq hf hn hb,λw S vs x y hS hx hy=>vo hT Of hm hf s w S vs x y hS hx (h x y hy)⟩
end
end Go.Proofs.Ytkkdpknjohcekaa
