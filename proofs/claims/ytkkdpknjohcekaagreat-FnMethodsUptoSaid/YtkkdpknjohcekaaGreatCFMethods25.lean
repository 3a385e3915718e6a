/-
  Part 26 of the proof that the statement FnMethods holds.
-/
import Derived.Test.YtkkdpknjohcekaaGreatCFMethods24
namespace Go.Proofs.YtkkdpknjohcekaaGreat
open Go.RowKit
section
variable {P:Program} {T:Tab} {Γ:Env} {X:Ctx} {w w':World} {π:Pi}
def cr (π:Pi) (l k:Nat):Pi:= λm=>if m=k then π l else if m=l then none else π m
theorem Aa3 {st:St} {l k:Nat} {b:OB} (hk:Av st.heap k=none) (hl:Av st.heap l=some b):
  Av (Pn (aM (st.heap.map λp=>(p.1,p.2.map (Wb l k))) l) k (b.map (Wb l k))) k=some (b.map (Wb l k))/\
  Av (Pn (aM (st.heap.map λp=>(p.1,p.2.map (Wb l k))) l) k (b.map (Wb l k))) l=none/\
  ∀m,m≠k->m≠l->Av (Pn (aM (st.heap.map λp=>(p.1,p.2.map (Wb l k))) l) k (b.map (Wb l k))) m=(Av st.heap m).map (OB.map (Wb l k)):=by
 have Jd:l≠k:= λe=>by subst e;rw [hk] at hl;cases hl
 refine ⟨Rh _ _ _ ?_,?_,λm h1 h2=>?_⟩
 ·rw [Ot _ _ _ Jd.symm,Pv,hk];rfl
 ·rw [Qd _ _ _ _ Jd,Nl]
 ·rw [Qd _ _ _ _ h1,Ot _ _ _ h2,Pv]
theorem Move.ren {st:St} {l k:Nat} {b:OB} {H':List (Nat×OB)} (hk:Av st.heap k=none) (hl:Av st.heap l=some b) (e1:Av H' k=some (b.map (Wb l k))) (_e2:Av H' l=none)
  (e3: ∀m,m≠k->m≠l->Av H' m=(Av st.heap m).map (OB.map (Wb l k))) (eC: ∀c,Vd (cr π l k) c->Vd π c):Move X w w π (cr π l k) st.heap H' (Wb l k):=by
 have Jd:l≠k:= λe=>by subst e;rw [hk] at hl;cases hl
 have hc: ∀fr τ cs x,Cells w (Dc X.w0.heap.size X.Sc π fr) τ cs x->Cells w (Dc X.w0.heap.size X.Sc (cr π l k) fr) τ cs x:=
  fun fr τ cs x h=>Cells.Gj (Aq _) (λ_ _ _=>rfl) (λc _ hA=>hA.imp (eC c) id) τ cs x h
 have Wl: ∀m c,Av st.heap m=some c->Av H' (q9 l k m)=some (c.map (Wb l k))/\cr π l k (q9 l k m)=π m:=by
  intro m c hm
  unfold q9
  by_cases e:m=l
  ·subst e
   rw [hl] at hm;cases hm
   rw [Ab rfl]
   exact ⟨e1,by unfold cr;rw [Ab rfl]⟩
  ·have e':m≠k:= λe'=>by subst e';rw [hk] at hm;cases hm
   rw [Ai e]
   exact ⟨by rw [e3 m e' e,hm];rfl,by unfold cr;rw [Ai e',Ai e]⟩
 refine ⟨λc v h=>?_,hc⟩
 cases c with
 |data fr τ x=>obtain ⟨cs,h1,h2⟩:=h;exact ⟨cs,hc _ _ _ _ h1,h2⟩
 |own m off len=>
  obtain ⟨b',sz,n,h1,h0,h2,h3⟩:=h
  obtain ⟨g1,g2⟩:=Wl m b' h1
  exact ⟨_,sz,n,g1,by cases b'<;>exact h0,h2,by rw [g2];exact h3⟩
 |Ii m i=>
  obtain ⟨r,tid,vs,h1,h2,h3⟩:=h
  obtain ⟨g1,g2⟩:=Wl m _ h1
  exact ⟨r,tid,_,g1,by rw [g2];exact h2,h3⟩
 |Ld m i=>
  obtain ⟨r,b',sz,n,h1,h0,h2,h3,h4⟩:=h
  obtain ⟨g1,g2⟩:=Wl m b' h1
  exact ⟨r,_,sz,n,g1,by cases b'<;>exact h0,h2,by rw [g2];exact h3,h4⟩
 |sub m i c=>
  obtain ⟨r,b,sz,n,h1,h0,h2,h3,h4,h5⟩:=h
  obtain ⟨g1,g2⟩:=Wl m _ h1
  exact ⟨r,_,sz,n,g1,by cases b<;>exact h0,by rw [g2];exact h2,h3,h4,h5⟩
 |Ky m i c=>
  obtain ⟨r,b,n,sz,g,o,len,cap,h1,h0,h2,h3⟩:=h
  obtain ⟨g1,g2⟩:=Wl m _ h1
  exact ⟨r,_,n,sz,g,o,len,cap,g1,by cases b<;>exact h0,by rw [g2];exact h2,h3⟩
 |clo f Ev=>
  obtain ⟨us,h1,h2,h3⟩:=h
  refine ⟨us,h1,by simpa using h2,λj p hp=>?_⟩
  rw [Fo] at hp
  cases hq:Ev[j]? with
  |none=>rw [hq] at hp;cases hp
  |some q=>
   rw [hq] at hp
   simp only [An,Aa] at hp
   subst hp
   obtain ⟨r,tid,vs,h4,h5,h6⟩:=h3 j q hq
   obtain ⟨g1,g2⟩:=Wl q.1 _ h4
   exact ⟨r,tid,_,g1,by rw [g2];exact h5,h6⟩
 |Lk m=>
  obtain ⟨r,vt,f,h1,h2,h3⟩:=h
  obtain ⟨g1,g2⟩:=Wl m _ h1
  exact ⟨r,vt,f,g1,by rw [g2];exact h2,h3⟩
 |_=>exact h
theorem OH (l k:Nat) {st:St} {a:Act} (h:Rel X st a w):Rel X (st.rename l k) a w:=by
 unfold St.rename
 split
 ·rename_i b hk hl
  split
  ·rename_i hp
   simp only [Ah,Oc] at hp
   obtain ⟨π,h⟩:=h
   have Jd:l≠k:= λe=>by subst e;rw [hk] at hl;cases hl
   obtain ⟨e1,e2,e3⟩:=Aa3 hk hl
   have hpk:π k=none:=(h.1.heap k).emp hk
   have un: ∀m r,cr π l k m=some r-> ∃m',π m'=some r/\q9 l k m'=m:= λm r hm=>by
    unfold cr at hm
    split at hm
    ·rename_i e;subst e;exact ⟨l,hm,by unfold q9;rw [Ab rfl]⟩
    ·rename_i e
     split at hm
     ·cases hm
     ·rename_i e';exact ⟨m,hm,by unfold q9;rw [Ai e']⟩
   have m:=Move.ren (X:=X) (w:=w) (π:=π) hk hl e1 e2 e3 λc ⟨j,r,h1,h2⟩=>let ⟨j',h3,_⟩:=un j r h1;⟨j',r,h3,h2⟩
   refine ⟨cr π l k,⟨h.1.below,h.1.sc,λj r c h1 h2=>?_,λj r c h1 h2=>?_,λj1 j2 r1 r2 c h1 h2 h3 h4=>?_,λj hj Ak2=>?_,λj=>?_⟩,?_⟩
   ·obtain ⟨j',h3,_⟩:=un j r h1;exact h.1.sub j' r c h3 h2
   ·obtain ⟨j',h3,_⟩:=un j r h1;exact h.1.place j' r c h3 h2
   ·obtain ⟨j1',g1,g2⟩:=un j1 r1 h1
    obtain ⟨j2',g3,g4⟩:=un j2 r2 h2
    rw [<-g2,<-g4,h.1.inj j1' j2' r1 r2 c g1 g3 h3 h4]
   ·have n1:j≠k:= λe=>by omega
    have n2:j≠l:= λe=>by omega
    have Ao5:Av st.heap j≠none:= λh0=>Ak2 ((e3 j n1 n2).trans (by rw [h0];rfl))
    have:=h.1.iD j hj Ao5
    unfold cr
    rw [Ai n1,Ai n2]
    exact this
   ·by_cases n1:j=k
    ·subst n1
     refine Hc.Ms ?_ e1
     unfold cr
     rw [Ab rfl]
     exact ((h.1.heap l).Sl hl).move m (Aq _) (λr0 c h0 h1=>h.1.sub _ r0 c h0 h1) λ_ _ _ _ _=>rfl
    ·by_cases n2:j=l
     ·subst n2
      exact Hc.Ux (by unfold cr;rw [Ai n1,Ab rfl]) e2
     ·have hr:cr π l k j=π j:=by unfold cr;rw [Ai n1,Ai n2]
      have hn:=e3 j n1 n2
      have ho:=h.1.heap j
      cases mn:Av st.heap j with
      |none=>rw [mn] at hn;exact Hc.Ux (by rw [hr];exact ho.emp mn) hn
      |some c=>
       rw [mn] at hn
       refine Hc.Ms ?_ hn
       rw [hr]
       exact (ho.Sl mn).move m (Aq _) (λr0 c h0 h1=>h.1.sub _ r0 c h0 h1) λ_ _ _ _ _=>rfl
   ·have:sH X w (cr π l k) {tmps:=st.tmps.map (·.map (Wb l k)),heap:=Pn (aM (st.heap.map λp=>(p.1,p.2.map (Wb l k))) l) k (b.map (Wb l k))} a:=m.OG rfl h.2
    exact this
  ·exact h
 ·exact h
theorem jF: ∀(n t:Nat) (st:St) (a:Act) (w:World),Rel X st a w->Rel X (Nq n t st) a w
 |0,_,_,_,_,h=>h
 |n+1,t,st,a,w,h=>by
  simp only [Nq]
  refine jF n (t+1) _ a w ?_
  split
  ·split
   ·split
    ·exact h
    ·exact OH _ _ h
   ·exact h
  ·exact h
theorem kz (f:Nat->OB->OB): ∀(H:List (Nat×OB)) (l:Nat),Av (H.map λp=>(p.1,f p.1 p.2)) l=(Av H l).map (f l)
 | [],_=>rfl
 |(k,b)::r,l=>by
  simp only [Bz,Av]
  split
  ·rename_i e;subst e;rfl
  ·exact kz f r l
theorem OB.KB (x y z:Bool) (b:OB):(b.Jv x y z).row=b.row:=by cases b<;>rfl
def oZ (live:List Nat) (l:Nat) (b:OB):OB:=b.Jv (live.contains Ur) (live.contains (KA+l)) (live.contains (Adm+l))
theorem Move.Jv (live:List Nat) {H:List (Nat×OB)} :Move X w w π π H (H.map λp=>(p.1,oZ live p.1 p.2)) (λc=>c):=by
 refine ⟨λc v h=>?_,λfr τ cs x h=>h⟩
 have Wl: ∀m c,Av H m=some c->Av (H.map λp=>(p.1,oZ live p.1 p.2)) m=some (oZ live m c):= λm c hm=>by rw [kz,hm];rfl
 cases c with
 |own m off len=>
  obtain ⟨b',sz,n,h1,h0,h2,h3⟩:=h
  exact ⟨_,sz,n,Wl m b' h1,by unfold oZ;rw [OB.KB];exact h0,h2,h3⟩
 |Ii m i=>
  obtain ⟨r,tid,vs,h1,h2,h3⟩:=h
  exact ⟨r,tid,_,Wl m _ h1,h2,h3⟩
 |Ld m i=>
  obtain ⟨r,b',sz,n,h1,h0,h2,h3,h4⟩:=h
  exact ⟨r,_,sz,n,Wl m b' h1,by unfold oZ;rw [OB.KB];exact h0,h2,h3,h4⟩
 |sub m i c=>
  obtain ⟨r,b,sz,n,h1,h0,h2⟩:=h
  exact ⟨r,_,sz,n,Wl m _ h1,by cases b<;>exact h0,h2⟩
 |Ky m i c=>
  obtain ⟨r,b,n,sz,g,o,len,cap,h1,h0,h2⟩:=h
  exact ⟨r,_,n,sz,g,o,len,cap,Wl m _ h1,by cases b<;>exact h0,h2⟩
 |clo f Ev=>
  obtain ⟨us,h1,h2,h3⟩:=h
  refine ⟨us,h1,h2,λj p hp=>?_⟩
  obtain ⟨r,tid,vs,h4,h5,h6⟩:=h3 j p hp
  exact ⟨r,tid,_,Wl p.1 _ h4,h5,h6⟩
 |Lk m=>
  obtain ⟨r,vt,f,h1,h2,h3⟩:=h
  exact ⟨r,vt,f,Wl m _ h1,h2,h3⟩
 |_=>exact h
theorem Adn (live:List Nat) {st:St} {a:Act} (h:Rel X st a w):Rel X (st.Jv live) a w:=by
 obtain ⟨π,h⟩:=h
 have m:=Move.Jv (X:=X) (w:=w) (π:=π) live (H:=st.heap)
 refine ⟨π,⟨h.1.below,h.1.sc,h.1.sub,h.1.place,h.1.inj,λj hj Jd=>h.1.iD j hj λh0=>Jd (by show Av (st.heap.map λp=>(p.1,oZ live p.1 p.2)) j=none;rw [kz,h0];rfl),λj=>?_⟩,?_⟩
 ·have hn:Av (st.Jv live).heap j=(Av st.heap j).map (oZ live j):=kz (oZ live) st.heap j
  have ho:=h.1.heap j
  cases mn:Av st.heap j with
  |none=>rw [mn] at hn;exact Hc.Ux (ho.emp mn) hn
  |some c=>
   rw [mn] at hn
   refine Hc.Ms ?_ hn
   have hb:=(ho.Sl mn).move m (Aq _) (λr0 c h0 h1=>h.1.sub _ r0 c h0 h1) λ_ _ _ _ _=>rfl
   cases c with
   |arr fr tr e tid xs=>
    simp only [OB.map,Cl,Kz,OB.Jv,oZ] at hb⊢
    cases hp:π j with
    |none=>rw [hp] at hb;exact hb
    |some r=>
     rw [hp] at hb
     obtain ⟨⟨g1,g2,g3⟩,cur,ti,g4,g5,g6,g7,g8,g9⟩:=hb
     refine ⟨⟨g1,g2,λhf=>g3 (Cx.1 hf).1⟩,cur,ti,g4,g5,g6,g7,λi x hx=>?_,λht=>g9 (Cx.1 ht).1⟩
     obtain ⟨es,k1,k2,k3⟩:=g8 i x hx
     refine ⟨es,k1,k2,Cells.Gj (Aq _) (λ_ _ _=>rfl) (λb _ hA=>?_) e es x k3⟩
     exact hA.imp id (Or.imp id λ⟨h1,h2⟩=>⟨(Cx.1 h1).1,h2⟩)
   |Hs e tid xs=>exact hb
   |Bu e te rows out kp=>exact hb
   |var tid vs=>
    have e:(OB.var tid vs).map (λc=>c)= .var tid vs:=by simp [OB.map]
    rw [e] at hb
    obtain ⟨r',h1,h2,cur,h3,h4,h5⟩:=hb
    refine ⟨r',h1,h2,cur,h3,by rw [h4,Dk],λi c hc=>?_⟩
    rw [Fo] at hc
    cases hv:vs[i]? with
    |none=>rw [hv] at hc;cases hc
    |some c0=>
     rw [hv] at hc
     obtain ⟨u,k1,k2,k3⟩:=h5 i c0 hv
     refine ⟨u,k1,k2,?_⟩
     have hc:AC.Air (live.contains Ur) c0=c:=Bd hc
     subst hc
     cases c0 with
     |data fr τ x=>
      show Dg w (Dc X.w0.heap.size X.Sc π (fr&&!(live.contains Ur&&τ.flat))) τ u x
      exact Dg.Jv k3 λb _ hA=>hA.imp id (Or.imp id λ⟨h1,h2⟩=>⟨(Cx.1 h1).1,h2⟩)
     |_=>exact k3
   |Wi v f=>exact hb
 ·exact ⟨h.2.size,h.2.defers,λt=>by have:=m.av (h.2.tmps t);rwa [AC.map_id] at this⟩
theorem BL (t:Nat) {st:St} {a:Act} (h:Rel X st a w):Rel X (cq t st) a w:=by
 obtain ⟨π,h⟩:=h
 unfold cq
 split
 ·rename_i l off len hg
  split
  ·rename_i fr tr e tid xs hl
   split
   ·rename_i pH
    have hv:=h.2.tmps t
    rw [hg] at hv
    obtain ⟨π',h1,h2,_⟩:=uN h (by simpa using pH) hl hv
    refine ⟨π',h1.1,⟨?_,h1.2.defers,λk=>?_⟩⟩
    ·show a.tmps.size=(Tk _ t _).length
     rw [ar];exact h1.2.size
    ·show Bs X w π' _ ((Tk _ t _).getD k .undef) _
     rw [Rp]
     split
     ·rename_i hk
      obtain ⟨rfl,_⟩:=hk
      exact h2
     ·exact h1.2.tmps k
   ·exact ⟨π,h⟩
  ·exact ⟨π,h⟩
 ·exact ⟨π,h⟩
theorem Move.Alc {H:List (Nat×OB)} {π:Pi} {m:Nat} {tid:TypeId} {vs vs':List AC} (hm:Av H m=some (.var tid vs)):Move X w w π π H (aF H m (.var tid vs')) (λc=>c):=by
 have ne: ∀l b,Av H l=some b->(∀t us,b≠ .var t us)->Av (aF H m (.var tid vs')) l=some b:= λl b h hb=>by
  rw [El H m l _ (λe=>by subst e;rw [hm] at h;cases h;exact hb _ _ rfl)];exact h
 have va: ∀l t us,Av H l=some (.var t us)-> ∃t' Ug,Av (aF H m (.var tid vs')) l=some (.var t' Ug):= λl t us h=>by
  by_cases e:l=m
  ·subst e;exact ⟨_,_,Fu H l _ _ hm⟩
  ·exact ⟨t,us,by rw [El H m l _ e];exact h⟩
 refine ⟨λc v h=>?_,λ_ _ _ _ h=>h⟩
 cases c with
 |own l off len=>obtain ⟨b,sz,n,h1,h2,h3⟩:=h;exact ⟨b,sz,n,ne l b h1 (λt us e=>by subst e;cases h2),h2,h3⟩
 |Ii l i=>obtain ⟨r,t,us,h1,h2⟩:=h;obtain ⟨t',Ug,h3⟩:=va l t us h1;exact ⟨r,t',Ug,h3,h2⟩
 |Ld l i=>obtain ⟨r,b,sz,n,h1,h2,h3⟩:=h;exact ⟨r,b,sz,n,ne l b h1 (λt us e=>by subst e;cases h2),h2,h3⟩
 |sub l i c=>obtain ⟨r,b,sz,n,h1,h2,h3⟩:=h;exact ⟨r,b,sz,n,ne l b h1 (λt us e=>by subst e;cases h2),h2,h3⟩
 |Ky l i j=>obtain ⟨r,b,n,sz,g,o,len,cap,h1,h2,h3⟩:=h;exact ⟨r,b,n,sz,g,o,len,cap,ne l b h1 (λt us e=>by subst e;cases h2),h2,h3⟩
 |clo f Ev=>
  obtain ⟨us,h1,h2,h3⟩:=h
  refine ⟨us,h1,h2,λj p hp=>?_⟩
  obtain ⟨r,t,ws,h4,h5⟩:=h3 j p hp
  obtain ⟨t',Ug,h6⟩:=va p.1 t ws h4
  exact ⟨r,t',Ug,h6,h5⟩
 |Lk l=>obtain ⟨r,vt,f,h1,h2⟩:=h;exact ⟨r,vt,f,ne l _ h1 (λt us e=>by cases e),h2⟩
 |_=>exact h
theorem IN {π:Pi} {st:St} {a:Act} (h:Bh X π st a w) {m:Nat} {tid:TypeId} {vs:List AC} (hm:Av st.heap m=some (.var tid vs)) {c:Nat} {x:AC}
  (hx: ∀r cur u,π m=some r->w.heap[r.g]?=some (.cells cur tid (0,0))->cur.toList[c]?=some u->Iq X w π st.heap x u):Bh X π (st.Kx m (.var tid (vs.set c x))) a w:=by
 have mv:=Move.Alc (X:=X) (w:=w) (π:=π) (vs':=vs.set c x) hm
 refine ⟨⟨h.1.below,h.1.sc,h.1.sub,h.1.place,h.1.inj,λj hj Jd=>h.1.iD j hj λh0=>Jd ?_,λj=>?_⟩,?_⟩
 ·show Av (aF st.heap m _) j=none
  rw [El _ _ _ _ (λe=>by subst e;rw [hm] at h0;cases h0)];exact h0
 ·have ho:=h.1.heap j
  by_cases e:j=m
  ·subst e
   refine Hc.Ms (b:= .var tid (vs.set c x)) ?_ (Fu st.heap j _ _ hm)
   obtain ⟨r,h1,h2,cur,h3,h4⟩:=ho.Sl hm
   refine ⟨r,h1,h2,cur,h3,?_⟩
   obtain ⟨h5,h6⟩:=h4
   refine ⟨by rw [Co];exact h5,λi d hd=>?_⟩
   rw [Ex] at hd
   split at hd
   ·rename_i hci
    subst hci
    split at hd
    ·rename_i Me
     cases hd
     obtain ⟨u,g1,g2,_⟩:=h6 c vs[c] (Ac Me)
     exact ⟨u,g1,g2,mv.ac _ _ (hx r cur u h1 h3 g1)⟩
    ·cases hd
   ·obtain ⟨u,g1,g2,g3⟩:=h6 i d hd
    exact ⟨u,g1,g2,mv.ac _ _ g3⟩
  ·have hn:Av (st.Kx m (.var tid (vs.set c x))).heap j=Av st.heap j:=El _ _ _ _ e
   cases hg:Av st.heap j with
   |none=>exact Hc.Ux (ho.emp hg) (hn.trans hg)
   |some b=>
    have hb:=(ho.Sl hg).move mv (Aq _) (λr0 c h0 h1=>h.1.sub _ r0 c h0 h1) λ_ _ _ _ _=>rfl
    refine Hc.Ms ?_ (hn.trans hg)
    have eid:b.map (λc=>c)=b:=by cases b<;>simp [OB.map]
    rw [eid] at hb
    exact hb
 ·exact ⟨h.2.size,h.2.defers,λt=>by have:=mv.av (h.2.tmps t);rwa [AC.map_id] at this⟩
theorem q8 (c:Nat) {st:St} {a:Act} (h:Rel X st a w):Rel X (Qp c st) a w:=by
 obtain ⟨π,h⟩:=h
 unfold Qp
 split
 ·rename_i Bc2 vs hm
  split
  ·rename_i l off len hc
   split
   ·rename_i fr tr e te xs hl
    split
    ·rename_i pH
     split
     ·rename_i tid vs' hm'
      have hlv:Pz≠l:= λe=>by subst e;rw [hm] at hl;cases hl
      obtain ⟨r,h1,h2,cur,h3,h4,h5⟩:=(h.1.heap Pz).Sl hm
      obtain ⟨u,g1,g2,g3⟩:=h5 c _ hc
      obtain ⟨π',k1,k2,k3⟩:=uN h (by simpa using pH) hl g3
      refine ⟨π',IN k1 hm' λr' aA u' q1 q2 q3=>?_⟩
      rw [k3 Pz hlv,h1] at q1
      cases q1
      rw [h3] at q2
      cases q2
      rw [g1] at q3
      cases q3
      exact k2
     ·exact ⟨π,h⟩
    ·exact ⟨π,h⟩
   ·exact ⟨π,h⟩
  ·exact ⟨π,h⟩
 ·exact ⟨π,h⟩
theorem gX (live:List Nat): ∀(n c:Nat) (st:St) (a:Act) (w:World),Rel X st a w->Rel X (Qg live n c st) a w
 |0,_,_,_,_,h=>h
 |n+1,c,st,a,w,h=>by
  simp only [Qg]
  refine gX live n (c+1) _ a w ?_
  split
  ·exact q8 c h
  ·exact h
theorem lB (live:List Nat): ∀(n t:Nat) (st:St) (a:Act) (w:World),Rel X st a w->Rel X (Px live n t st) a w
 |0,_,st,a,w,h=>gX live 16 0 st a w h
 |n+1,t,st,a,w,h=>by
  simp only [Px]
  refine lB live n (t+1) _ a w ?_
  split
  ·exact BL t h
  ·exact h
theorem TR (live:List Nat) {st:St} {a:Act} (h:Rel X st a w):Rel X (st.clean live) a w:=by
 obtain ⟨π,h⟩:=h
 have Aaz: ∀s:St,Rel X s a w->Rel X (if live.any (λt=>Nat.ble Ur t) then s.Jv live else s) a w:=by
  intro s hs
  split
  ·exact Adn live hs
  ·exact hs
 have key: ∀s:St,Rel X s a w->Rel X (if live.contains di then Nq s.tmps.length 0 s else s) a w:=by
  intro s hs
  split
  ·exact jF _ _ _ a w hs
  ·exact hs
 have Ab0: ∀s:St,Rel X s a w->Rel X (if live.any (λt=>Nat.ble Np t&&Nat.blt t di) then Px live s.tmps.length 0 s else s) a w:=by
  intro s hs
  split
  ·exact lB _ _ _ _ a w hs
  ·exact hs
 unfold St.clean
 refine Aaz _ (key _ (Ab0 _ (dE _ _ a w ⟨π,h.1,⟨by simp [Yh,h.2.size],h.2.defers,λt=>?_⟩⟩)))
 show Bs X w π st.heap ((Jf live 0 st.tmps).getD t .undef) _
 rcases bT live 0 st.tmps t with e|e
 ·rw [e];trivial
 ·rw [e];exact h.2.tmps t
def Aj3:Mn->Exit
 | .normal=> .normal
 | .exit id=> .exit id
 | .ret=> .ret
def sG (P:Program) (c:Code) (Q:Exit->Act->World->Prop) (a:Act) (w:World):Prop:=
 ∀(b:Frame) (k:List Item) (cs:List Frame),∃e a' w',Q e a' w'/\Arrives P (lone (b.at a (.code c:: .inLoop c::k)) cs w) b k cs e a' w'
theorem GR {c:Code} {Q:Exit->Act->World->Prop} {a:Act} {w:World} (h:c.wp P (Exit.then (sG P c Q) Q) a w):sG P c Q a w:=by
 intro b k cs
 obtain ⟨e,ZE,Ado,hq,FU⟩:=h b (.inLoop c::k) cs
 cases e with
 |normal=>
  obtain ⟨At3,Asw,Awe,Aom,Aez⟩:=hq b k cs
  exact ⟨At3,Asw,Awe,Aom, .of_steps (Steps.trans FU (.one step_inLoop)) Aez⟩
 |exit id=>exact ⟨_,ZE,Ado,hq, .pass (x:= .inLoop c) rfl (λ_ _=> .inl (by simp)) FU⟩
 |goto l=>exact ⟨_,ZE,Ado,hq, .pass (x:= .inLoop c) rfl (λ_ _=> .inl (by simp)) FU⟩
 |ret=>exact ⟨_,ZE,Ado,hq, .pass (x:= .inLoop c) rfl (λ_ _=> .inl (by simp)) FU⟩
 |panic ch=>exact ⟨_,ZE,Ado,hq, .pass (x:= .inLoop c) rfl (λ_ _=> .inl (by simp)) FU⟩
 |outgrown=>exact ⟨_,ZE,Ado,hq, .pass (x:= .inLoop c) rfl (λ_ _=> .inl (by simp)) FU⟩
theorem YE {c:Code} {Q:Exit->Act->World->Prop} {a:Act} {w:World} (h:sG P c Q a w):(Code.loop c).wp P Q a w:=by
 intro b k cs
 obtain ⟨e,a',w',hq,FU⟩:=h b k cs
 exact ⟨e,a',w',hq, .of_steps (.one step_loop) FU⟩
theorem gH (ops:Array Oper): ∀(i:Nat) (l:List AV),(Ps ops i l).length=l.length
 |_,[]=>rfl
 |i,v::r=>by cases v<;>simp [Ps,gH ops (i+1) r]
theorem l7 (ops:Array Oper): ∀(i:Nat) (l:List AV) (t:Nat),(Ps ops i l).getD t .undef= .undef\/(Ps ops i l).getD t .undef=l.getD t .undef
 |_,[],_=> .inr rfl
 |i,v::r,0=>by
  cases v with
  |Nr l=>
   simp only [Ps,Yd]
   split
   ·exact .inr rfl
   ·exact .inl rfl
  |_=>exact .inr rfl
 |i,v::r,t+1=>by
  have h:=l7 ops (i+1) r t
  cases v<;>(simp only [Ps,Ok];exact h)
theorem FA (ops:Array Oper) {st:St} {a:Act} (h:Rel X st a w):Rel X (st.nB ops) a w:=by
 obtain ⟨π,h⟩:=h
 refine ⟨π,h.1,⟨by show a.tmps.size=(Ps ops 0 st.tmps).length;rw [gH];exact h.2.size,h.2.defers,λt=>?_⟩⟩
 show Bs X w π st.heap ((Ps ops 0 st.tmps).getD t .undef) _
 rcases l7 ops 0 st.tmps t with e|e
 ·rw [e];trivial
 ·rw [e];exact h.2.tmps t
theorem uU (hT:Ep P T) (Pw:Lr P Γ) (hm:P.follows .mixedOrders=true) {live:Nat->List Nat} {c:Code} {st:St} {K:Mn->St->Prop} (hr:Pk T Γ live c st K):
  ∀(a:Act) (w:World) (Q:Exit->Act->World->Prop),Rel X st a w->(∀e st' a' w',K e st'->Rel X st' a' w'->Q (Aj3 e) a' w')->c.wp P Q a w/\ ∀c',c= .loop c'->sG P c' Q a w:=by
 induction hr with
 |skip hk=>exact λa w Q h hQ=>⟨wp_skip (hQ .normal _ _ _ hk h),λc' e=>by cases e⟩
 |label hk=>exact λa w Q h hQ=>⟨wp_label (hQ .normal _ _ _ hk h),λc' e=>by cases e⟩
 |exit hk=>exact λa w Q h hQ=>⟨wp_exit (hQ (.exit _) _ _ _ hk h),λc' e=>by cases e⟩
 |ret hk=>exact λa w Q h hQ=>⟨wp_ret (hQ .ret _ _ _ hk h),λc' e=>by cases e⟩
 |region hk=>exact λa w Q h hQ=>⟨OF hT (Pw.reg _) hm (FA _ h) hk λst' a' w' h1 h2=>hQ .normal _ _ _ h1 h2,λc' e=>by cases e⟩
 |seq Q1 _ _ h3 UR GB=>
  intro a w Q h hQ
  refine ⟨wp_seq ((UR a w _ h λe st' a' w' hk h'=>?_).1),λc' e=>by cases e⟩
  cases e with
  |normal=>exact (GB st' hk a' w' Q h' hQ).1
  |exit id=>exact hQ (.exit id) _ _ _ (h3 _ _ (by simp) hk) h'
  |ret=>exact hQ .ret _ _ _ (h3 _ _ (by simp) hk) h'
 |cond hc _ _ UR GB=>
  intro a w Q h hQ
  refine ⟨?_,λc' e=>by cases e⟩
  obtain ⟨π,h'⟩:=h
  rename_i c x y st fr t Q0 _ _
  have hr:=Ed h'.2 c
  rw [hc] at hr
  refine wp_cond (aq hr) ?_
  cases t with
  |true=>exact (UR rfl a w Q ⟨π,h'⟩ hQ).1
  |false=>exact (GB rfl a w Q ⟨π,h'⟩ hQ).1
 |block Q1 _ h2 ih=>
  intro a w Q h hQ
  rename_i id c st Q0 _
  refine ⟨wp_block ((ih a w _ h λe st' a' w' hk h'=>?_).1),λc' e=>by cases e⟩
  have h3:=h2 e st' hk
  cases e with
  |normal=>exact hQ .normal _ _ _ h3 h'
  |ret=>exact hQ .ret _ _ _ h3 h'
  |exit UP=>
   show (if UP=id then Q .normal a' w' else Q (.exit UP) a' w')
   simp only [xR] at h3
   by_cases YL:UP=id
   ·rw [Ab YL] at h3⊢;exact hQ .normal _ _ _ h3 h'
   ·rw [Ai YL] at h3⊢;exact hQ (.exit UP) _ _ _ h3 h'
 |loop Q1 _ _ h3 UR GB=>
  intro a w Q h hQ
  rename_i c st Q0 _ _
  have key:sG P c Q a w:=by
   refine GR ((UR a w _ (TR _ h) λe st' a' w' hk h'=>?_).1)
   cases e with
   |normal=>exact (GB st' hk a' w' Q h' hQ).2 c rfl
   |exit id=>exact hQ (.exit id) _ _ _ (h3 _ _ (by simp) hk) h'
   |ret=>exact hQ .ret _ _ _ (h3 _ _ (by simp) hk) h'
  exact ⟨YE key,λc' e=>by cases e;exact key⟩
def OJ (tmps:Array Value):ResultVar->Sem Value
 | .tmp t=>pure (tmps.getD t undef)
 | .cell p t=>do loadVar t (<-asAddr (tmps.getD p undef))
theorem fX (fn:Func) (tmps:Array Value):results fn tmps=(do
  let vs<-fn.results.mapM (OJ tmps)
  pure (if h:vs.size=1 then vs[0] else .tuple vs)):=by
 rfl
theorem SM {α:Type} {l:List α} (h:l.length=2): ∃a b,l= [a,b]:=by
 rcases l with _|⟨a,_|⟨b,_|⟨c,r⟩⟩⟩<;>simp at h
 exact ⟨a,b,rfl⟩
theorem y0 {α:Type} {l:List α} (h:l.length=3): ∃a b c,l= [a,b,c]:=by
 rcases l with _|⟨a,_|⟨b,_|⟨c,_|⟨d,r⟩⟩⟩⟩<;>simp at h
 exact ⟨a,b,c,rfl⟩
theorem GP {t:TypeId} {v u:Value} (h:(Instr.loadAt t v).run P w= .ok u w):(do loadVar t (<-asAddr v):Sem Value).run P w= .ok u w:=by
 unfold Instr.loadAt at h
 cases v with
 |pointer a=>
  cases a with
  |some a=>simpa [Instr.sureAddr,asAddr] using h
  |none=>simp [Instr.sureAddr,Result.andThen] at h
 |_=>simp [Instr.sureAddr,Result.andThen] at h
theorem Yx (hT:Ep P T) {st:St} {a:Act} (h:Bh X π st a w): ∀(rs:List ResultVar) (l:List AV),dL T st rs=some l->
  ∃vs:List Value,vs.length=rs.length/\l.length=rs.length/\(∀(i:Nat) r v,rs[i]?=some r->vs[i]?=some v->(OJ a.tmps r).run P w= .ok v w)/\(∀(i:Nat) c v,l[i]?=some c->vs[i]?=some v->Bs X w π st.heap c v)
 | [],l,he=>by
  simp only [dL,Aa] at he;subst he
  exact ⟨[],rfl,rfl,λi r v hr=>by simp at hr,λi c v hc=>by simp at hc⟩
 | .tmp t::r,l,he=>by
  simp only [dL] at he
  cases hr:dL T st r with
  |none=>rw [hr] at he;cases he
  |some l'=>
   rw [hr] at he
   simp only [An,Aa] at he;subst he
   obtain ⟨vs,h1,h2,h3,h4⟩:=Yx hT h r l' hr
   refine ⟨a.tmps.getD t undef::vs,by simp [h1],by simp [h2],λi r' v kW hv=>?_,λi c v hc hv=>?_⟩
   ·rcases i with _|i
    ·rw [Bx,Aa] at kW hv;subst kW;subst hv;rfl
    ·exact h3 i r' v (by simpa using kW) (by simpa using hv)
   ·rcases i with _|i
    ·rw [Bx,Aa] at hc hv;subst hc;subst hv;exact h.2.tmps t
    ·exact h4 i c v (by simpa using hc) (by simpa using hv)
 | .cell p t::r,l,he=>by
  simp only [dL] at he
  split at he
  ·rename_i c0 l' hl0 hr
   simp only [Aa] at he;subst he
   obtain ⟨u,hu,hru⟩:=nI hT h t _ _ c0 (h.2.tmps p) hl0
   obtain ⟨vs,h1,h2,h3,h4⟩:=Yx hT h r l' hr
   refine ⟨u::vs,by simp [h1],by simp [h2],λi r' v kW hv=>?_,λi c v hc hv=>?_⟩
   ·rcases i with _|i
    ·simp at kW hv;subst kW;subst hv;exact GP hu
    ·exact h3 i r' v (by simpa using kW) (by simpa using hv)
   ·rcases i with _|i
    ·simp at hc hv;subst hc;subst hv;exact hru
    ·exact h4 i c v (by simpa using hc) (by simpa using hv)
  ·cases he
theorem FE (hT:Ep P T) {st:St} {a:Act} (h:Bh X π st a w) (s:Spec) (fn:Func) (fr:Bool) (y:s.res.den) (he:nM T s fn st=some (fr,y)) {S:Nat->Prop} (hS:Uh X S fr):
  ∃v,(results fn a.tmps).run P w= .ok v w/\lU s w S v y:=by
 have hrs:fn.results=fn.results.toList.toArray:=Array.toArray_toList.symm
 unfold nM at he
 split at he
 ·rename_i c hl
  obtain ⟨vs,h1,h2,h3,h4⟩:=Yx hT h _ _ hl
  split at he
  ·cases he
  ·rename_i hm
   have hlen:fn.results.toList.length=1:=by rw [<-h2];rfl
   obtain ⟨r,hr⟩:=En.1 hlen
   rw [hlen] at h1
   obtain ⟨v,rfl⟩:=En.1 h1
   have e0:=h3 0 r v (by rw [hr];rfl) rfl
   refine ⟨v,?_,?_⟩
   ·rw [fX,hrs,hr]
    simp [e0]
   ·unfold lU
    rw [Ai hm]
    exact Zi h.1 s.res c v fr y (h4 0 c v rfl rfl) he hS
 ·rename_i c d hl
  obtain ⟨vs,h1,h2,h3,h4⟩:=Yx hT h _ _ hl
  split at he
  ·rename_i hm
   have hlen:fn.results.toList.length=2:=by rw [<-h2];rfl
   obtain ⟨r1,r2,hr⟩:=SM hlen
   rw [hlen] at h1
   obtain ⟨v1,v2,rfl⟩:=SM h1
   have e0:=h3 0 r1 v1 (by rw [hr];rfl) rfl
   have e1:=h3 1 r2 v2 (by rw [hr];rfl) rfl
   refine ⟨.tuple #[v1,v2],?_,?_⟩
   ·rw [fX,hrs,hr]
    simp [e0,e1]
   ·unfold lU
    rw [Ab hm]
    exact ⟨[v1,v2],rfl,bo h.1 s.res _ _ fr y rfl h4 he hS⟩
  ·cases he
 ·rename_i c d d' hl
  obtain ⟨vs,h1,h2,h3,h4⟩:=Yx hT h _ _ hl
  split at he
  ·rename_i hm
   have hlen:fn.results.toList.length=3:=by rw [<-h2];rfl
   obtain ⟨r1,r2,r3,hr⟩:=y0 hlen
   rw [hlen] at h1
   obtain ⟨v1,v2,v3,rfl⟩:=y0 h1
   have e0:=h3 0 r1 v1 (by rw [hr];rfl) rfl
   have e1:=h3 1 r2 v2 (by rw [hr];rfl) rfl
   have e2:=h3 2 r3 v3 (by rw [hr];rfl) rfl
   refine ⟨.tuple #[v1,v2,v3],?_,?_⟩
   ·rw [fX,hrs,hr]
    simp [e0,e1,e2]
   ·unfold lU
    rw [Ab hm]
    exact ⟨[v1,v2,v3],rfl,bo h.1 s.res _ _ fr y rfl h4 he hS⟩
  ·cases he
 ·cases he
theorem sQ {S:Nat->Prop} : ∀(τ:Ty) (vs:List Value) (x:τ.den),Cy w S τ vs x->
  (Tq τ x).length=vs.length/\ ∀i,Bs ⟨w,S,λ_=>False,λ_=>none⟩ w (λ_=>none) [] ((Tq τ x).getD i .undef) (vs.getD i undef)
 | .pair a r,[],x,h=>h.elim
 | .pair a r,v::vs,x,h=>by
  obtain ⟨h1,h2⟩:=sQ r vs x.2 h.2
  refine ⟨by simp [Tq,h1],λi=>?_⟩
  rcases i with _|i
  ·simp only [Tq,Yd]
   cases hf:a.flat with
   |true=>exact Dg.flat hf h.1
   |false=>
    exact Dg.Jv h.1 λk _ hk=>by
     rcases hk with ⟨l,r,hl,_⟩|hk|⟨hk,_⟩
     ·cases hl
     ·exact hk
     ·cases hk
  ·simpa [Tq] using h2 i
 | .unit,[],_,_=>⟨rfl,λi=>by simp [Tq];trivial⟩
 | .unit,_::_,_,h=>h.elim
 | .int _,_,_,h=>by simp [Cy] at h
 | .bool,_,_,h=>by simp [Cy] at h
 | .str,_,_,h=>by simp [Cy] at h
 | .slice _,_,_,h=>by simp [Cy] at h
 | .ptr _,_,_,h=>by simp [Cy] at h
 | .oslice _,_,_,h=>by simp [Cy] at h
 | .optr _,_,_,h=>by simp [Cy] at h
 | .smap _,_,_,h=>by simp [Cy] at h
 | .clo _ _,_,_,h=>by simp [Cy] at h
theorem zv (hT:Ep P T) (Pw:Lr P Γ) (hm:P.follows .mixedOrders=true) {f:FuncId} {fn:Func} (hf:P.funcs[f]?=some fn) (s:Spec) (w:World) (S:Nat->Prop) (vs:List Value) (x:s.arg.den) (y:s.res.den)
  (hS: ∀k,S k->k<w.heap.size) (hx:Cy w S s.arg vs x) (he:YX T Γ s fn x λz=>z=y):
  Calls P f vs.toArray w λe w'=> ∃v,e= .returned v/\Below w.heap.size w w'/\lU s w' (λb=>S b\/(s.fresh=true/\b<w.heap.size)) v y:=by
 obtain ⟨c,hb,he⟩:=he
 skip
 ·obtain ⟨hl,Rz⟩:=sQ (w:=w) s.arg vs x hx
  have h0:Rel ⟨w,S,λ_=>False,λ_=>none⟩ {tmps:=Tq s.arg x++List.replicate (fn.ntmps-(Tq s.arg x).length) .undef,heap:= []} {tmps:=vs.toArray++Array.replicate (fn.ntmps-vs.toArray.size) undef,defers:= []} w:=by
   refine ⟨λ_=>none,⟨Jz.refl _ _ _,λb hb=>⟨hS b hb,λh=>h⟩,(λ_ _ _ h=>by cases h),(λ_ _ _ h=>by cases h),(λ_ _ _ _ _ h=>by cases h),λl _ hn=>absurd rfl hn,λl=>rfl⟩,⟨by simp [hl],rfl,λt=>?_⟩⟩
   have h1:=Rz t
   show Bs _ w _ [] ((Tq s.arg x++List.replicate _ AV.undef).getD t .undef) ((vs.toArray++Array.replicate _ undef).getD t undef)
   by_cases ht:t<vs.length
   ·rw [Ak,At (by omega),<-Ak]
    rw [cK,Uc (by simpa using ht)]
    simpa [Ak] using h1
   ·have:(Tq s.arg x++List.replicate (fn.ntmps-(Tq s.arg x).length) AV.undef).getD t .undef= .undef:=by
     rw [Ak,As (by omega)]
     rw [Zk]
     split<;>rfl
    rw [this];trivial
  refine calls_of_wp hf hb ?_
  refine (uU hT Pw hm he _ w _ h0 λe st a' w' ⟨Jd,fr,y',rW,zG,hy⟩ ⟨π,h'⟩=>?_).1
  subst hy
  have Aoh:=FE hT h' s fn fr y' rW (S:= λb=>S b\/(s.fresh=true/\b<w.heap.size)) ⟨λk hk=>⟨by rcases hk with hk|hk;exact hS k hk;exact hk.2,λh=>h⟩,by
   simp only [Lh,Fm] at zG
   rcases zG with h|h
   ·exact .inl h
   ·right;intro k hk;rcases hk with hk|⟨hk,_⟩
    ·exact hk
    ·rw [h] at hk;cases hk⟩
  obtain ⟨v,hv,hr⟩:=Aoh
  cases e with
  |normal=>exact ⟨h'.2.defers,v,hv,v,rfl,h'.1.below.plain,hr⟩
  |ret=>exact ⟨h'.2.defers,v,hv,v,rfl,h'.1.below.plain,hr⟩
  |exit id=>exact absurd rfl (Jd id)
theorem bQ {f:FuncId} {fn:Func} (hf:P.funcs[f]?=some fn) (hn:(fn.name== "runtime.NumGoroutine")=false) (hb:fn.body.isNone=false) (args:Array Value) (w:World):
  (callFunc f args).run P w= .ok (.enter f args) w:=by
 unfold callFunc
 simp only [Sem.run_bind,run_program,Result.andThen_ok,hf,hn,hb,Dh,Si,Sem.run_pure]
theorem Acg (hT:Ep P T) (Pw:Lr P Γ) (hm:P.follows .mixedOrders=true) {f:FuncId} {fn:Func} (hf:P.funcs[f]?=some fn) (hn:(fn.name== "runtime.NumGoroutine")=false) (hb:fn.body.isNone=false) (s:Spec)
  (h: ∀x y,s.fn x=some y->YX T Γ s fn x λz=>z=y):Sound P f s:=
 ⟨bQ hf hn hb,λw S vs x y hS hx hy=>zv hT Pw hm hf s w S vs x y hS hx (h x y hy)⟩
end
end Go.Proofs.YtkkdpknjohcekaaGreat
