/-
  Part 26 of the proof that the statement FnSubgroups holds.
-/
import Derived.Test.YtkkdpknjohcekaaCFSubgroups24
namespace Go.Proofs.Ytkkdpknjohcekaa
open Go.RowKit
section
variable {P:Program} {T:Tab} {Γ:Env} {X:Ctx} {w w':World} {π:Pi}
def bY (π:Pi) (l k:Nat):Pi:= λm=>if m=k then π l else if m=l then none else π m
theorem ZR {st:St} {l k:Nat} {b:OB} (hk:Aw st.heap k=none) (hl:Aw st.heap l=some b):
  Aw (Nz (aF (st.heap.map λp=>(p.1,p.2.map (Vi l k))) l) k (b.map (Vi l k))) k=some (b.map (Vi l k))/\
  Aw (Nz (aF (st.heap.map λp=>(p.1,p.2.map (Vi l k))) l) k (b.map (Vi l k))) l=none/\
  ∀m,m≠k->m≠l->Aw (Nz (aF (st.heap.map λp=>(p.1,p.2.map (Vi l k))) l) k (b.map (Vi l k))) m=(Aw st.heap m).map (OB.map (Vi l k)):=by
 have Ig:l≠k:= λe=>by subst e;rw [hk] at hl;cases hl
 refine ⟨Qg _ _ _ ?_,?_,λm h1 h2=>?_⟩
 ·rw [Nh _ _ _ Ig.symm,Ol,hk];rfl
 ·rw [Pb _ _ _ _ Ig,Mg]
 ·rw [Pb _ _ _ _ h1,Nh _ _ _ h2,Ol]
theorem Move.ren {st:St} {l k:Nat} {b:OB} {H':List (Nat×OB)} (hk:Aw st.heap k=none) (hl:Aw st.heap l=some b) (e1:Aw H' k=some (b.map (Vi l k))) (_e2:Aw H' l=none)
  (e3: ∀m,m≠k->m≠l->Aw H' m=(Aw st.heap m).map (OB.map (Vi l k))) (ez: ∀c,Vu (bY π l k) c->Vu π c):Move X w w π (bY π l k) st.heap H' (Vi l k):=by
 have Ig:l≠k:= λe=>by subst e;rw [hk] at hl;cases hl
 have hc: ∀fr τ cs x,Cells w (De X.w0.heap.size X.Sc π fr) τ cs x->Cells w (De X.w0.heap.size X.Sc (bY π l k) fr) τ cs x:=
  fun fr τ cs x h=>Cells.Fm (Aq _) (λ_ _ _=>rfl) (λc _ hA=>hA.imp (ez c) id) τ cs x h
 have Ss: ∀m c,Aw st.heap m=some c->Aw H' (pW l k m)=some (c.map (Vi l k))/\bY π l k (pW l k m)=π m:=by
  intro m c hm
  unfold pW
  by_cases e:m=l
  ·subst e
   rw [hl] at hm;cases hm
   rw [Ab rfl]
   exact ⟨e1,by unfold bY;rw [Ab rfl]⟩
  ·have e':m≠k:= λe'=>by subst e';rw [hk] at hm;cases hm
   rw [Ak e]
   exact ⟨by rw [e3 m e' e,hm];rfl,by unfold bY;rw [Ak e',Ak e]⟩
 refine ⟨λc v h=>?_,hc⟩
 cases c with
 |data fr τ x=>obtain ⟨cs,h1,h2⟩:=h;exact ⟨cs,hc _ _ _ _ h1,h2⟩
 |own m off len=>
  obtain ⟨b',sz,n,h1,h0,h2,h3⟩:=h
  obtain ⟨g1,g2⟩:=Ss m b' h1
  exact ⟨_,sz,n,g1,by cases b'<;>exact h0,h2,by rw [g2];exact h3⟩
 |He m i=>
  obtain ⟨r,tid,vs,h1,h2,h3⟩:=h
  obtain ⟨g1,g2⟩:=Ss m _ h1
  exact ⟨r,tid,_,g1,by rw [g2];exact h2,h3⟩
 |Jv m i=>
  obtain ⟨r,b',sz,n,h1,h0,h2,h3,h4⟩:=h
  obtain ⟨g1,g2⟩:=Ss m b' h1
  exact ⟨r,_,sz,n,g1,by cases b'<;>exact h0,h2,by rw [g2];exact h3,h4⟩
 |sub m i c=>
  obtain ⟨r,b,sz,n,h1,h0,h2,h3,h4,h5⟩:=h
  obtain ⟨g1,g2⟩:=Ss m _ h1
  exact ⟨r,_,sz,n,g1,by cases b<;>exact h0,by rw [g2];exact h2,h3,h4,h5⟩
 |Js m i c=>
  obtain ⟨r,b,n,sz,g,o,len,cap,h1,h0,h2,h3⟩:=h
  obtain ⟨g1,g2⟩:=Ss m _ h1
  exact ⟨r,_,n,sz,g,o,len,cap,g1,by cases b<;>exact h0,by rw [g2];exact h2,h3⟩
 |clo f Ek=>
  obtain ⟨us,h1,h2,h3⟩:=h
  refine ⟨us,h1,by simpa using h2,λj p hp=>?_⟩
  rw [Ex] at hp
  cases hq:Ek[j]? with
  |none=>rw [hq] at hp;cases hp
  |some q=>
   rw [hq] at hp
   simp only [Am,Aa] at hp
   subst hp
   obtain ⟨r,tid,vs,h4,h5,h6⟩:=h3 j q hq
   obtain ⟨g1,g2⟩:=Ss q.1 _ h4
   exact ⟨r,tid,_,g1,by rw [g2];exact h5,h6⟩
 |Kh m=>
  obtain ⟨r,vt,f,h1,h2,h3⟩:=h
  obtain ⟨g1,g2⟩:=Ss m _ h1
  exact ⟨r,vt,f,g1,by rw [g2];exact h2,h3⟩
 |_=>exact h
theorem NV (l k:Nat) {st:St} {a:Act} (h:Rel X st a w):Rel X (st.rename l k) a w:=by
 unfold St.rename
 split
 ·rename_i b hk hl
  split
  ·rename_i hp
   simp only [Ai,Mw] at hp
   obtain ⟨π,h⟩:=h
   have Ig:l≠k:= λe=>by subst e;rw [hk] at hl;cases hl
   obtain ⟨e1,e2,e3⟩:=ZR hk hl
   have hpk:π k=none:=(h.1.heap k).emp hk
   have un: ∀m r,bY π l k m=some r-> ∃m',π m'=some r/\pW l k m'=m:= λm r hm=>by
    unfold bY at hm
    split at hm
    ·rename_i e;subst e;exact ⟨l,hm,by unfold pW;rw [Ab rfl]⟩
    ·rename_i e
     split at hm
     ·cases hm
     ·rename_i e';exact ⟨m,hm,by unfold pW;rw [Ak e']⟩
   have m:=Move.ren (X:=X) (w:=w) (π:=π) hk hl e1 e2 e3 λc ⟨j,r,h1,h2⟩=>let ⟨j',h3,_⟩:=un j r h1;⟨j',r,h3,h2⟩
   refine ⟨bY π l k,⟨h.1.below,h.1.sc,λj r c h1 h2=>?_,λj r c h1 h2=>?_,λj1 j2 r1 r2 c h1 h2 h3 h4=>?_,λj hj Ajm=>?_,λj=>?_⟩,?_⟩
   ·obtain ⟨j',h3,_⟩:=un j r h1;exact h.1.sub j' r c h3 h2
   ·obtain ⟨j',h3,_⟩:=un j r h1;exact h.1.place j' r c h3 h2
   ·obtain ⟨j1',g1,g2⟩:=un j1 r1 h1
    obtain ⟨j2',g3,g4⟩:=un j2 r2 h2
    rw [<-g2,<-g4,h.1.inj j1' j2' r1 r2 c g1 g3 h3 h4]
   ·have n1:j≠k:= λe=>by omega
    have n2:j≠l:= λe=>by omega
    have Ao6:Aw st.heap j≠none:= λh0=>Ajm ((e3 j n1 n2).trans (by rw [h0];rfl))
    have:=h.1.iu j hj Ao6
    unfold bY
    rw [Ak n1,Ak n2]
    exact this
   ·by_cases n1:j=k
    ·subst n1
     refine Gg.Lk ?_ e1
     unfold bY
     rw [Ab rfl]
     exact ((h.1.heap l).Rc hl).move m (Aq _) (λr0 c h0 h1=>h.1.sub _ r0 c h0 h1) λ_ _ _ _ _=>rfl
    ·by_cases n2:j=l
     ·subst n2
      exact Gg.Uk (by unfold bY;rw [Ak n1,Ab rfl]) e2
     ·have hr:bY π l k j=π j:=by unfold bY;rw [Ak n1,Ak n2]
      have hn:=e3 j n1 n2
      have ho:=h.1.heap j
      cases gI:Aw st.heap j with
      |none=>rw [gI] at hn;exact Gg.Uk (by rw [hr];exact ho.emp gI) hn
      |some c=>
       rw [gI] at hn
       refine Gg.Lk ?_ hn
       rw [hr]
       exact (ho.Rc gI).move m (Aq _) (λr0 c h0 h1=>h.1.sub _ r0 c h0 h1) λ_ _ _ _ _=>rfl
   ·have:sB X w (bY π l k) {tmps:=st.tmps.map (·.map (Vi l k)),heap:=Nz (aF (st.heap.map λp=>(p.1,p.2.map (Vi l k))) l) k (b.map (Vi l k))} a:=m.NU rfl h.2
    exact this
  ·exact h
 ·exact h
theorem jA: ∀(n t:Nat) (st:St) (a:Act) (w:World),Rel X st a w->Rel X (Ml n t st) a w
 |0,_,_,_,_,h=>h
 |n+1,t,st,a,w,h=>by
  simp only [Ml]
  refine jA n (t+1) _ a w ?_
  split
  ·split
   ·split
    ·exact h
    ·exact NV _ _ h
   ·exact h
  ·exact h
theorem kv (f:Nat->OB->OB): ∀(H:List (Nat×OB)) (l:Nat),Aw (H.map λp=>(p.1,f p.1 p.2)) l=(Aw H l).map (f l)
 | [],_=>rfl
 |(k,b)::r,l=>by
  simp only [Ca,Aw]
  split
  ·rename_i e;subst e;rfl
  ·exact kv f r l
theorem OB.JN (x y z:Bool) (b:OB):(b.Ii x y z).row=b.row:=by cases b<;>rfl
def oT (live:List Nat) (l:Nat) (b:OB):OB:=b.Ii (live.contains ak) (live.contains (JM+l)) (live.contains (vI+l))
theorem Move.Ii (live:List Nat) {H:List (Nat×OB)} :Move X w w π π H (H.map λp=>(p.1,oT live p.1 p.2)) (λc=>c):=by
 refine ⟨λc v h=>?_,λfr τ cs x h=>h⟩
 have Ss: ∀m c,Aw H m=some c->Aw (H.map λp=>(p.1,oT live p.1 p.2)) m=some (oT live m c):= λm c hm=>by rw [kv,hm];rfl
 cases c with
 |own m off len=>
  obtain ⟨b',sz,n,h1,h0,h2,h3⟩:=h
  exact ⟨_,sz,n,Ss m b' h1,by unfold oT;rw [OB.JN];exact h0,h2,h3⟩
 |He m i=>
  obtain ⟨r,tid,vs,h1,h2,h3⟩:=h
  exact ⟨r,tid,_,Ss m _ h1,h2,h3⟩
 |Jv m i=>
  obtain ⟨r,b',sz,n,h1,h0,h2,h3,h4⟩:=h
  exact ⟨r,_,sz,n,Ss m b' h1,by unfold oT;rw [OB.JN];exact h0,h2,h3,h4⟩
 |sub m i c=>
  obtain ⟨r,b,sz,n,h1,h0,h2⟩:=h
  exact ⟨r,_,sz,n,Ss m _ h1,by cases b<;>exact h0,h2⟩
 |Js m i c=>
  obtain ⟨r,b,n,sz,g,o,len,cap,h1,h0,h2⟩:=h
  exact ⟨r,_,n,sz,g,o,len,cap,Ss m _ h1,by cases b<;>exact h0,h2⟩
 |clo f Ek=>
  obtain ⟨us,h1,h2,h3⟩:=h
  refine ⟨us,h1,h2,λj p hp=>?_⟩
  obtain ⟨r,tid,vs,h4,h5,h6⟩:=h3 j p hp
  exact ⟨r,tid,_,Ss p.1 _ h4,h5,h6⟩
 |Kh m=>
  obtain ⟨r,vt,f,h1,h2,h3⟩:=h
  exact ⟨r,vt,f,Ss m _ h1,h2,h3⟩
 |_=>exact h
theorem Adb (live:List Nat) {st:St} {a:Act} (h:Rel X st a w):Rel X (st.Ii live) a w:=by
 obtain ⟨π,h⟩:=h
 have m:=Move.Ii (X:=X) (w:=w) (π:=π) live (H:=st.heap)
 refine ⟨π,⟨h.1.below,h.1.sc,h.1.sub,h.1.place,h.1.inj,λj hj Ig=>h.1.iu j hj λh0=>Ig (by show Aw (st.heap.map λp=>(p.1,oT live p.1 p.2)) j=none;rw [kv,h0];rfl),λj=>?_⟩,?_⟩
 ·have hn:Aw (st.Ii live).heap j=(Aw st.heap j).map (oT live j):=kv (oT live) st.heap j
  have ho:=h.1.heap j
  cases gI:Aw st.heap j with
  |none=>rw [gI] at hn;exact Gg.Uk (ho.emp gI) hn
  |some c=>
   rw [gI] at hn
   refine Gg.Lk ?_ hn
   have hb:=(ho.Rc gI).move m (Aq _) (λr0 c h0 h1=>h.1.sub _ r0 c h0 h1) λ_ _ _ _ _=>rfl
   cases c with
   |arr fr tr e tid xs=>
    simp only [OB.map,Cn,Jt,OB.Ii,oT] at hb⊢
    cases hp:π j with
    |none=>rw [hp] at hb;exact hb
    |some r=>
     rw [hp] at hb
     obtain ⟨⟨g1,g2,g3⟩,cur,ti,g4,g5,g6,g7,g8,g9⟩:=hb
     refine ⟨⟨g1,g2,λhf=>g3 (Ct.1 hf).1⟩,cur,ti,g4,g5,g6,g7,λi x hx=>?_,λht=>g9 (Ct.1 ht).1⟩
     obtain ⟨es,k1,k2,k3⟩:=g8 i x hx
     refine ⟨es,k1,k2,Cells.Fm (Aq _) (λ_ _ _=>rfl) (λb _ hA=>?_) e es x k3⟩
     exact hA.imp id (Or.imp id λ⟨h1,h2⟩=>⟨(Ct.1 h1).1,h2⟩)
   |Gx e tid xs=>exact hb
   |Bo e te rows out kp=>exact hb
   |var tid vs=>
    have e:(OB.var tid vs).map (λc=>c)= .var tid vs:=by simp [OB.map]
    rw [e] at hb
    obtain ⟨r',h1,h2,cur,h3,h4,h5⟩:=hb
    refine ⟨r',h1,h2,cur,h3,by rw [h4,Bs],λi c hc=>?_⟩
    rw [Ex] at hc
    cases hv:vs[i]? with
    |none=>rw [hv] at hc;cases hc
    |some c0=>
     rw [hv] at hc
     obtain ⟨u,k1,k2,k3⟩:=h5 i c0 hv
     refine ⟨u,k1,k2,?_⟩
     have hc:AC.Aig (live.contains ak) c0=c:=Bd hc
     subst hc
     cases c0 with
     |data fr τ x=>
      show Da w (De X.w0.heap.size X.Sc π (fr&&!(live.contains ak&&τ.flat))) τ u x
      exact Da.Ii k3 λb _ hA=>hA.imp id (Or.imp id λ⟨h1,h2⟩=>⟨(Ct.1 h1).1,h2⟩)
     |_=>exact k3
   |Vq v f=>exact hb
 ·exact ⟨h.2.size,h.2.defers,λt=>by have:=m.av (h.2.tmps t);rwa [AC.map_id] at this⟩
theorem AN (t:Nat) {st:St} {a:Act} (h:Rel X st a w):Rel X (bX t st) a w:=by
 obtain ⟨π,h⟩:=h
 unfold bX
 split
 ·rename_i l off len hg
  split
  ·rename_i fr tr e tid xs hl
   split
   ·rename_i rR
    have hv:=h.2.tmps t
    rw [hg] at hv
    obtain ⟨π',h1,h2,_⟩:=uy h (by simpa using rR) hl hv
    refine ⟨π',h1.1,⟨?_,h1.2.defers,λk=>?_⟩⟩
    ·show a.tmps.size=(Sn _ t _).length
     rw [ae];exact h1.2.size
    ·show Bq X w π' _ ((Sn _ t _).getD k .undef) _
     rw [Qo]
     split
     ·rename_i hk
      obtain ⟨rfl,_⟩:=hk
      exact h2
     ·exact h1.2.tmps k
   ·exact ⟨π,h⟩
  ·exact ⟨π,h⟩
 ·exact ⟨π,h⟩
theorem Move.Al0 {H:List (Nat×OB)} {π:Pi} {m:Nat} {tid:TypeId} {vs vs':List AC} (hm:Aw H m=some (.var tid vs)):Move X w w π π H (ay H m (.var tid vs')) (λc=>c):=by
 have ne: ∀l b,Aw H l=some b->(∀t us,b≠ .var t us)->Aw (ay H m (.var tid vs')) l=some b:= λl b h hb=>by
  rw [Eg H m l _ (λe=>by subst e;rw [hm] at h;cases h;exact hb _ _ rfl)];exact h
 have va: ∀l t us,Aw H l=some (.var t us)-> ∃t' Xa,Aw (ay H m (.var tid vs')) l=some (.var t' Xa):= λl t us h=>by
  by_cases e:l=m
  ·subst e;exact ⟨_,_,Fb H l _ _ hm⟩
  ·exact ⟨t,us,by rw [Eg H m l _ e];exact h⟩
 refine ⟨λc v h=>?_,λ_ _ _ _ h=>h⟩
 cases c with
 |own l off len=>obtain ⟨b,sz,n,h1,h2,h3⟩:=h;exact ⟨b,sz,n,ne l b h1 (λt us e=>by subst e;cases h2),h2,h3⟩
 |He l i=>obtain ⟨r,t,us,h1,h2⟩:=h;obtain ⟨t',Xa,h3⟩:=va l t us h1;exact ⟨r,t',Xa,h3,h2⟩
 |Jv l i=>obtain ⟨r,b,sz,n,h1,h2,h3⟩:=h;exact ⟨r,b,sz,n,ne l b h1 (λt us e=>by subst e;cases h2),h2,h3⟩
 |sub l i c=>obtain ⟨r,b,sz,n,h1,h2,h3⟩:=h;exact ⟨r,b,sz,n,ne l b h1 (λt us e=>by subst e;cases h2),h2,h3⟩
 |Js l i j=>obtain ⟨r,b,n,sz,g,o,len,cap,h1,h2,h3⟩:=h;exact ⟨r,b,n,sz,g,o,len,cap,ne l b h1 (λt us e=>by subst e;cases h2),h2,h3⟩
 |clo f Ek=>
  obtain ⟨us,h1,h2,h3⟩:=h
  refine ⟨us,h1,h2,λj p hp=>?_⟩
  obtain ⟨r,t,ws,h4,h5⟩:=h3 j p hp
  obtain ⟨t',Xa,h6⟩:=va p.1 t ws h4
  exact ⟨r,t',Xa,h6,h5⟩
 |Kh l=>obtain ⟨r,vt,f,h1,h2⟩:=h;exact ⟨r,vt,f,ne l _ h1 (λt us e=>by cases e),h2⟩
 |_=>exact h
theorem IG {π:Pi} {st:St} {a:Act} (h:Bl X π st a w) {m:Nat} {tid:TypeId} {vs:List AC} (hm:Aw st.heap m=some (.var tid vs)) {c:Nat} {x:AC}
  (hx: ∀r cur u,π m=some r->w.heap[r.g]?=some (.cells cur tid (0,0))->cur.toList[c]?=some u->Hj X w π st.heap x u):Bl X π (st.Jr m (.var tid (vs.set c x))) a w:=by
 have mv:=Move.Al0 (X:=X) (w:=w) (π:=π) (vs':=vs.set c x) hm
 refine ⟨⟨h.1.below,h.1.sc,h.1.sub,h.1.place,h.1.inj,λj hj Ig=>h.1.iu j hj λh0=>Ig ?_,λj=>?_⟩,?_⟩
 ·show Aw (ay st.heap m _) j=none
  rw [Eg _ _ _ _ (λe=>by subst e;rw [hm] at h0;cases h0)];exact h0
 ·have ho:=h.1.heap j
  by_cases e:j=m
  ·subst e
   refine Gg.Lk (b:= .var tid (vs.set c x)) ?_ (Fb st.heap j _ _ hm)
   obtain ⟨r,h1,h2,cur,h3,h4⟩:=ho.Rc hm
   refine ⟨r,h1,h2,cur,h3,?_⟩
   obtain ⟨h5,h6⟩:=h4
   refine ⟨by rw [Bv];exact h5,λi d hd=>?_⟩
   rw [Em] at hd
   split at hd
   ·rename_i hci
    subst hci
    split at hd
    ·rename_i Jc
     cases hd
     obtain ⟨u,g1,g2,_⟩:=h6 c vs[c] (Ad Jc)
     exact ⟨u,g1,g2,mv.ac _ _ (hx r cur u h1 h3 g1)⟩
    ·cases hd
   ·obtain ⟨u,g1,g2,g3⟩:=h6 i d hd
    exact ⟨u,g1,g2,mv.ac _ _ g3⟩
  ·have hn:Aw (st.Jr m (.var tid (vs.set c x))).heap j=Aw st.heap j:=Eg _ _ _ _ e
   cases hg:Aw st.heap j with
   |none=>exact Gg.Uk (ho.emp hg) (hn.trans hg)
   |some b=>
    have hb:=(ho.Rc hg).move mv (Aq _) (λr0 c h0 h1=>h.1.sub _ r0 c h0 h1) λ_ _ _ _ _=>rfl
    refine Gg.Lk ?_ (hn.trans hg)
    have eid:b.map (λc=>c)=b:=by cases b<;>simp [OB.map]
    rw [eid] at hb
    exact hb
 ·exact ⟨h.2.size,h.2.defers,λt=>by have:=mv.av (h.2.tmps t);rwa [AC.map_id] at this⟩
theorem pV (c:Nat) {st:St} {a:Act} (h:Rel X st a w):Rel X (Pp c st) a w:=by
 obtain ⟨π,h⟩:=h
 unfold Pp
 split
 ·rename_i Bau vs hm
  split
  ·rename_i l off len hc
   split
   ·rename_i fr tr e te xs hl
    split
    ·rename_i rR
     split
     ·rename_i tid vs' FL
      have hlv:Ov≠l:= λe=>by subst e;rw [hm] at hl;cases hl
      obtain ⟨r,h1,h2,cur,h3,h4,h5⟩:=(h.1.heap Ov).Rc hm
      obtain ⟨u,g1,g2,g3⟩:=h5 c _ hc
      obtain ⟨π',k1,k2,k3⟩:=uy h (by simpa using rR) hl g3
      refine ⟨π',IG k1 FL λr' ao u' q1 q2 q3=>?_⟩
      rw [k3 Ov hlv,h1] at q1
      cases q1
      rw [h3] at q2
      cases q2
      rw [g1] at q3
      cases q3
      exact k2
     ·exact ⟨π,h⟩
    ·exact ⟨π,h⟩
   ·exact ⟨π,h⟩
  ·exact ⟨π,h⟩
 ·exact ⟨π,h⟩
theorem gQ (live:List Nat): ∀(n c:Nat) (st:St) (a:Act) (w:World),Rel X st a w->Rel X (Pe live n c st) a w
 |0,_,_,_,_,h=>h
 |n+1,c,st,a,w,h=>by
  simp only [Pe]
  refine gQ live n (c+1) _ a w ?_
  split
  ·exact pV c h
  ·exact h
theorem lC (live:List Nat): ∀(n t:Nat) (st:St) (a:Act) (w:World),Rel X st a w->Rel X (Oq live n t st) a w
 |0,_,st,a,w,h=>gQ live 16 0 st a w h
 |n+1,t,st,a,w,h=>by
  simp only [Oq]
  refine lC live n (t+1) _ a w ?_
  split
  ·exact AN t h
  ·exact h
theorem TD (live:List Nat) {st:St} {a:Act} (h:Rel X st a w):Rel X (st.clean live) a w:=by
 obtain ⟨π,h⟩:=h
 have Aah: ∀s:St,Rel X s a w->Rel X (if live.any (λt=>Nat.ble ak t) then s.Ii live else s) a w:=by
  intro s hs
  split
  ·exact Adb live hs
  ·exact hs
 have key: ∀s:St,Rel X s a w->Rel X (if live.contains cX then Ml s.tmps.length 0 s else s) a w:=by
  intro s hs
  split
  ·exact jA _ _ _ a w hs
  ·exact hs
 have Aai: ∀s:St,Rel X s a w->Rel X (if live.any (λt=>Nat.ble Mk t&&Nat.blt t cX) then Oq live s.tmps.length 0 s else s) a w:=by
  intro s hs
  split
  ·exact lC _ _ _ _ a w hs
  ·exact hs
 unfold St.clean
 refine Aah _ (key _ (Aai _ (dr _ _ a w ⟨π,h.1,⟨by simp [Xm,h.2.size],h.2.defers,λt=>?_⟩⟩)))
 show Bq X w π st.heap ((Ia live 0 st.tmps).getD t .undef) _
 rcases bC live 0 st.tmps t with e|e
 ·rw [e];trivial
 ·rw [e];exact h.2.tmps t
def Aiw:Lh->Exit
 | .normal=> .normal
 | .exit id=> .exit id
 | .ret=> .ret
def sA (P:Program) (c:Code) (Q:Exit->Act->World->Prop) (a:Act) (w:World):Prop:=
 ∀(b:Frame) (k:List Item) (cs:List Frame),∃e a' w',Q e a' w'/\Arrives P (lone (b.at a (.code c:: .inLoop c::k)) cs w) b k cs e a' w'
theorem GM {c:Code} {Q:Exit->Act->World->Prop} {a:Act} {w:World} (h:c.wp P (Exit.then (sA P c Q) Q) a w):sA P c Q a w:=by
 intro b k cs
 obtain ⟨e,YL,Adc,hq,FF⟩:=h b (.inLoop c::k) cs
 cases e with
 |normal=>
  obtain ⟨Ash,Asa,Avj,Aom,Ael⟩:=hq b k cs
  exact ⟨Ash,Asa,Avj,Aom, .of_steps (Steps.trans FF (.one step_inLoop)) Ael⟩
 |exit id=>exact ⟨_,YL,Adc,hq, .pass (x:= .inLoop c) rfl (λ_ _=> .inl (by simp)) FF⟩
 |goto l=>exact ⟨_,YL,Adc,hq, .pass (x:= .inLoop c) rfl (λ_ _=> .inl (by simp)) FF⟩
 |ret=>exact ⟨_,YL,Adc,hq, .pass (x:= .inLoop c) rfl (λ_ _=> .inl (by simp)) FF⟩
 |panic ch=>exact ⟨_,YL,Adc,hq, .pass (x:= .inLoop c) rfl (λ_ _=> .inl (by simp)) FF⟩
 |outgrown=>exact ⟨_,YL,Adc,hq, .pass (x:= .inLoop c) rfl (λ_ _=> .inl (by simp)) FF⟩
theorem XI {c:Code} {Q:Exit->Act->World->Prop} {a:Act} {w:World} (h:sA P c Q a w):(Code.loop c).wp P Q a w:=by
 intro b k cs
 obtain ⟨e,a',w',hq,FF⟩:=h b k cs
 exact ⟨e,a',w',hq, .of_steps (.one step_loop) FF⟩
theorem gE (ops:Array Oper): ∀(i:Nat) (l:List AV),(Oj ops i l).length=l.length
 |_,[]=>rfl
 |i,v::r=>by cases v<;>simp [Oj,gE ops (i+1) r]
theorem l5 (ops:Array Oper): ∀(i:Nat) (l:List AV) (t:Nat),(Oj ops i l).getD t .undef= .undef\/(Oj ops i l).getD t .undef=l.getD t .undef
 |_,[],_=> .inr rfl
 |i,v::r,0=>by
  cases v with
  |Mn l=>
   simp only [Oj,Xh]
   split
   ·exact .inr rfl
   ·exact .inl rfl
  |_=>exact .inr rfl
 |i,v::r,t+1=>by
  have h:=l5 ops (i+1) r t
  cases v<;>(simp only [Oj,Nb];exact h)
theorem EK (ops:Array Oper) {st:St} {a:Act} (h:Rel X st a w):Rel X (st.nA ops) a w:=by
 obtain ⟨π,h⟩:=h
 refine ⟨π,h.1,⟨by show a.tmps.size=(Oj ops 0 st.tmps).length;rw [gE];exact h.2.size,h.2.defers,λt=>?_⟩⟩
 show Bq X w π st.heap ((Oj ops 0 st.tmps).getD t .undef) _
 rcases l5 ops 0 st.tmps t with e|e
 ·rw [e];trivial
 ·rw [e];exact h.2.tmps t
theorem uG (hT:Ef P T) (Om:Kq P Γ) (hm:P.follows .mixedOrders=true) {live:Nat->List Nat} {c:Code} {st:St} {K:Lh->St->Prop} (hr:Nx T Γ live c st K):
  ∀(a:Act) (w:World) (Q:Exit->Act->World->Prop),Rel X st a w->(∀e st' a' w',K e st'->Rel X st' a' w'->Q (Aiw e) a' w')->c.wp P Q a w/\ ∀c',c= .loop c'->sA P c' Q a w:=by
 induction hr with
 |skip hk=>exact λa w Q h hQ=>⟨wp_skip (hQ .normal _ _ _ hk h),λc' e=>by cases e⟩
 |label hk=>exact λa w Q h hQ=>⟨wp_label (hQ .normal _ _ _ hk h),λc' e=>by cases e⟩
 |exit hk=>exact λa w Q h hQ=>⟨wp_exit (hQ (.exit _) _ _ _ hk h),λc' e=>by cases e⟩
 |ret hk=>exact λa w Q h hQ=>⟨wp_ret (hQ .ret _ _ _ hk h),λc' e=>by cases e⟩
 |region hk=>exact λa w Q h hQ=>⟨NT hT (Om.reg _) hm (EK _ h) hk λst' a' w' h1 h2=>hQ .normal _ _ _ h1 h2,λc' e=>by cases e⟩
 |seq Q1 _ _ h3 UC FU=>
  intro a w Q h hQ
  refine ⟨wp_seq ((UC a w _ h λe st' a' w' hk h'=>?_).1),λc' e=>by cases e⟩
  cases e with
  |normal=>exact (FU st' hk a' w' Q h' hQ).1
  |exit id=>exact hQ (.exit id) _ _ _ (h3 _ _ (by simp) hk) h'
  |ret=>exact hQ .ret _ _ _ (h3 _ _ (by simp) hk) h'
 |cond hc _ _ UC FU=>
  intro a w Q h hQ
  refine ⟨?_,λc' e=>by cases e⟩
  obtain ⟨π,h'⟩:=h
  rename_i c x y st fr t Q0 _ _
  have hr:=Ea h'.2 c
  rw [hc] at hr
  refine wp_cond (a8 hr) ?_
  cases t with
  |true=>exact (UC rfl a w Q ⟨π,h'⟩ hQ).1
  |false=>exact (FU rfl a w Q ⟨π,h'⟩ hQ).1
 |block Q1 _ h2 ih=>
  intro a w Q h hQ
  rename_i id c st Q0 _
  refine ⟨wp_block ((ih a w _ h λe st' a' w' hk h'=>?_).1),λc' e=>by cases e⟩
  have h3:=h2 e st' hk
  cases e with
  |normal=>exact hQ .normal _ _ _ h3 h'
  |ret=>exact hQ .ret _ _ _ h3 h'
  |exit UA=>
   show (if UA=id then Q .normal a' w' else Q (.exit UA) a' w')
   simp only [xA] at h3
   by_cases hid:UA=id
   ·rw [Ab hid] at h3⊢;exact hQ .normal _ _ _ h3 h'
   ·rw [Ak hid] at h3⊢;exact hQ (.exit UA) _ _ _ h3 h'
 |loop Q1 _ _ h3 UC FU=>
  intro a w Q h hQ
  rename_i c st Q0 _ _
  have key:sA P c Q a w:=by
   refine GM ((UC a w _ (TD _ h) λe st' a' w' hk h'=>?_).1)
   cases e with
   |normal=>exact (FU st' hk a' w' Q h' hQ).2 c rfl
   |exit id=>exact hQ (.exit id) _ _ _ (h3 _ _ (by simp) hk) h'
   |ret=>exact hQ .ret _ _ _ (h3 _ _ (by simp) hk) h'
  exact ⟨XI key,λc' e=>by cases e;exact key⟩
def NX (tmps:Array Value):ResultVar->Sem Value
 | .tmp t=>pure (tmps.getD t undef)
 | .cell p t=>do loadVar t (<-asAddr (tmps.getD p undef))
theorem fR (fn:Func) (tmps:Array Value):results fn tmps=(do
  let vs<-fn.results.mapM (NX tmps)
  pure (if h:vs.size=1 then vs[0] else .tuple vs)):=by
 rfl
theorem RT {α:Type} {l:List α} (h:l.length=2): ∃a b,l= [a,b]:=by
 rcases l with _|⟨a,_|⟨b,_|⟨c,r⟩⟩⟩<;>simp at h
 exact ⟨a,b,rfl⟩
theorem xK {α:Type} {l:List α} (h:l.length=3): ∃a b c,l= [a,b,c]:=by
 rcases l with _|⟨a,_|⟨b,_|⟨c,_|⟨d,r⟩⟩⟩⟩<;>simp at h
 exact ⟨a,b,c,rfl⟩
theorem GK {t:TypeId} {v u:Value} (h:(Instr.loadAt t v).run P w= .ok u w):(do loadVar t (<-asAddr v):Sem Value).run P w= .ok u w:=by
 unfold Instr.loadAt at h
 cases v with
 |pointer a=>
  cases a with
  |some a=>simpa [Instr.sureAddr,asAddr] using h
  |none=>simp [Instr.sureAddr,Result.andThen] at h
 |_=>simp [Instr.sureAddr,Result.andThen] at h
theorem Yc (hT:Ef P T) {st:St} {a:Act} (h:Bl X π st a w): ∀(rs:List ResultVar) (l:List AV),dA T st rs=some l->
  ∃vs:List Value,vs.length=rs.length/\l.length=rs.length/\(∀(i:Nat) r v,rs[i]?=some r->vs[i]?=some v->(NX a.tmps r).run P w= .ok v w)/\(∀(i:Nat) c v,l[i]?=some c->vs[i]?=some v->Bq X w π st.heap c v)
 | [],l,he=>by
  simp only [dA,Aa] at he;subst he
  exact ⟨[],rfl,rfl,λi r v hr=>by simp at hr,λi c v hc=>by simp at hc⟩
 | .tmp t::r,l,he=>by
  simp only [dA] at he
  cases hr:dA T st r with
  |none=>rw [hr] at he;cases he
  |some l'=>
   rw [hr] at he
   simp only [Am,Aa] at he;subst he
   obtain ⟨vs,h1,h2,h3,h4⟩:=Yc hT h r l' hr
   refine ⟨a.tmps.getD t undef::vs,by simp [h1],by simp [h2],λi r' v dQ hv=>?_,λi c v hc hv=>?_⟩
   ·rcases i with _|i
    ·rw [Bz,Aa] at dQ hv;subst dQ;subst hv;rfl
    ·exact h3 i r' v (by simpa using dQ) (by simpa using hv)
   ·rcases i with _|i
    ·rw [Bz,Aa] at hc hv;subst hc;subst hv;exact h.2.tmps t
    ·exact h4 i c v (by simpa using hc) (by simpa using hv)
 | .cell p t::r,l,he=>by
  simp only [dA] at he
  split at he
  ·rename_i c0 l' hl0 hr
   simp only [Aa] at he;subst he
   obtain ⟨u,hu,hru⟩:=nH hT h t _ _ c0 (h.2.tmps p) hl0
   obtain ⟨vs,h1,h2,h3,h4⟩:=Yc hT h r l' hr
   refine ⟨u::vs,by simp [h1],by simp [h2],λi r' v dQ hv=>?_,λi c v hc hv=>?_⟩
   ·rcases i with _|i
    ·simp at dQ hv;subst dQ;subst hv;exact GK hu
    ·exact h3 i r' v (by simpa using dQ) (by simpa using hv)
   ·rcases i with _|i
    ·simp at hc hv;subst hc;subst hv;exact hru
    ·exact h4 i c v (by simpa using hc) (by simpa using hv)
  ·cases he
theorem EO (hT:Ef P T) {st:St} {a:Act} (h:Bl X π st a w) (s:Spec) (fn:Func) (fr:Bool) (y:s.res.den) (he:nL T s fn st=some (fr,y)) {S:Nat->Prop} (hS:Tn X S fr):
  ∃v,(results fn a.tmps).run P w= .ok v w/\lY s w S v y:=by
 have hrs:fn.results=fn.results.toList.toArray:=Array.toArray_toList.symm
 unfold nL at he
 split at he
 ·rename_i c hl
  obtain ⟨vs,h1,h2,h3,h4⟩:=Yc hT h _ _ hl
  split at he
  ·cases he
  ·rename_i hm
   have hlen:fn.results.toList.length=1:=by rw [<-h2];rfl
   obtain ⟨r,hr⟩:=Eh.1 hlen
   rw [hlen] at h1
   obtain ⟨v,rfl⟩:=Eh.1 h1
   have e0:=h3 0 r v (by rw [hr];rfl) rfl
   refine ⟨v,?_,?_⟩
   ·rw [fR,hrs,hr]
    simp [e0]
   ·unfold lY
    rw [Ak hm]
    exact Yx h.1 s.res c v fr y (h4 0 c v rfl rfl) he hS
 ·rename_i c d hl
  obtain ⟨vs,h1,h2,h3,h4⟩:=Yc hT h _ _ hl
  split at he
  ·rename_i hm
   have hlen:fn.results.toList.length=2:=by rw [<-h2];rfl
   obtain ⟨r1,r2,hr⟩:=RT hlen
   rw [hlen] at h1
   obtain ⟨v1,v2,rfl⟩:=RT h1
   have e0:=h3 0 r1 v1 (by rw [hr];rfl) rfl
   have e1:=h3 1 r2 v2 (by rw [hr];rfl) rfl
   refine ⟨.tuple #[v1,v2],?_,?_⟩
   ·rw [fR,hrs,hr]
    simp [e0,e1]
   ·unfold lY
    rw [Ab hm]
    exact ⟨[v1,v2],rfl,ba h.1 s.res _ _ fr y rfl h4 he hS⟩
  ·cases he
 ·rename_i c d d' hl
  obtain ⟨vs,h1,h2,h3,h4⟩:=Yc hT h _ _ hl
  split at he
  ·rename_i hm
   have hlen:fn.results.toList.length=3:=by rw [<-h2];rfl
   obtain ⟨r1,r2,r3,hr⟩:=xK hlen
   rw [hlen] at h1
   obtain ⟨v1,v2,v3,rfl⟩:=xK h1
   have e0:=h3 0 r1 v1 (by rw [hr];rfl) rfl
   have e1:=h3 1 r2 v2 (by rw [hr];rfl) rfl
   have e2:=h3 2 r3 v3 (by rw [hr];rfl) rfl
   refine ⟨.tuple #[v1,v2,v3],?_,?_⟩
   ·rw [fR,hrs,hr]
    simp [e0,e1,e2]
   ·unfold lY
    rw [Ab hm]
    exact ⟨[v1,v2,v3],rfl,ba h.1 s.res _ _ fr y rfl h4 he hS⟩
  ·cases he
 ·cases he
theorem sM {S:Nat->Prop} : ∀(τ:Ty) (vs:List Value) (x:τ.den),Cy w S τ vs x->
  (Sw τ x).length=vs.length/\ ∀i,Bq ⟨w,S,λ_=>False,λ_=>none⟩ w (λ_=>none) [] ((Sw τ x).getD i .undef) (vs.getD i undef)
 | .pair a r,[],x,h=>h.elim
 | .pair a r,v::vs,x,h=>by
  obtain ⟨h1,h2⟩:=sM r vs x.2 h.2
  refine ⟨by simp [Sw,h1],λi=>?_⟩
  rcases i with _|i
  ·simp only [Sw,Xh]
   cases hf:a.flat with
   |true=>exact Da.flat hf h.1
   |false=>
    exact Da.Ii h.1 λk _ hk=>by
     rcases hk with ⟨l,r,hl,_⟩|hk|⟨hk,_⟩
     ·cases hl
     ·exact hk
     ·cases hk
  ·simpa [Sw] using h2 i
 | .unit,[],_,_=>⟨rfl,λi=>by simp [Sw];trivial⟩
 | .unit,_::_,_,h=>h.elim
 | .int _,_,_,h=>by simp [Cy] at h
 | .bool,_,_,h=>by simp [Cy] at h
 | .str,_,_,h=>by simp [Cy] at h
 | .slice _,_,_,h=>by simp [Cy] at h
 | .ptr _,_,_,h=>by simp [Cy] at h
 | .oslice _,_,_,h=>by simp [Cy] at h
 | .optr _,_,_,h=>by simp [Cy] at h
 | .smap _,_,_,h=>by simp [Cy] at h
 | .clo _ _,_,_,h=>by simp [Cy] at h
theorem z9 (hT:Ef P T) (Om:Kq P Γ) (hm:P.follows .mixedOrders=true) {f:FuncId} {fn:Func} (hf:P.funcs[f]?=some fn) (s:Spec) (w:World) (S:Nat->Prop) (vs:List Value) (x:s.arg.den) (y:s.res.den)
  (hS: ∀k,S k->k<w.heap.size) (hx:Cy w S s.arg vs x) (he:YA T Γ s fn x λz=>z=y):
  Calls P f vs.toArray w λe w'=> ∃v,e= .returned v/\Below w.heap.size w w'/\lY s w' (λb=>S b\/(s.fresh=true/\b<w.heap.size)) v y:=by
 obtain ⟨c,hb,he⟩:=he
 skip
 ·obtain ⟨hl,Qt⟩:=sM (w:=w) s.arg vs x hx
  have h0:Rel ⟨w,S,λ_=>False,λ_=>none⟩ {tmps:=Sw s.arg x++List.replicate (fn.ntmps-(Sw s.arg x).length) .undef,heap:= []} {tmps:=vs.toArray++Array.replicate (fn.ntmps-vs.toArray.size) undef,defers:= []} w:=by
   refine ⟨λ_=>none,⟨Kp.refl _ _ _,λb hb=>⟨hS b hb,λh=>h⟩,(λ_ _ _ h=>by cases h),(λ_ _ _ h=>by cases h),(λ_ _ _ _ _ h=>by cases h),λl _ hn=>absurd rfl hn,λl=>rfl⟩,⟨by simp [hl],rfl,λt=>?_⟩⟩
   have h1:=Qt t
   show Bq _ w _ [] ((Sw s.arg x++List.replicate _ AV.undef).getD t .undef) ((vs.toArray++Array.replicate _ undef).getD t undef)
   by_cases ht:t<vs.length
   ·rw [Al,At (by omega),<-Al]
    rw [cq,Tj (by simpa using ht)]
    simpa [Al] using h1
   ·have:(Sw s.arg x++List.replicate (fn.ntmps-(Sw s.arg x).length) AV.undef).getD t .undef= .undef:=by
     rw [Al,As (by omega)]
     rw [Yz]
     split<;>rfl
    rw [this];trivial
  refine calls_of_wp hf hb ?_
  refine (uG hT Om hm he _ w _ h0 λe st a' w' ⟨Ig,fr,y',rW,FJ,hy⟩ ⟨π,h'⟩=>?_).1
  subst hy
  have Aoh:=EO hT h' s fn fr y' rW (S:= λb=>S b\/(s.fresh=true/\b<w.heap.size)) ⟨λk hk=>⟨by rcases hk with hk|hk;exact hS k hk;exact hk.2,λh=>h⟩,by
   simp only [Jz,Ew] at FJ
   rcases FJ with h|h
   ·exact .inl h
   ·right;intro k hk;rcases hk with hk|⟨hk,_⟩
    ·exact hk
    ·rw [h] at hk;cases hk⟩
  obtain ⟨v,hv,hr⟩:=Aoh
  cases e with
  |normal=>exact ⟨h'.2.defers,v,hv,v,rfl,h'.1.below.plain,hr⟩
  |ret=>exact ⟨h'.2.defers,v,hv,v,rfl,h'.1.below.plain,hr⟩
  |exit id=>exact absurd rfl (Ig id)
theorem iI {f:FuncId} {fn:Func} (hf:P.funcs[f]?=some fn) (hn:(fn.name== "runtime.NumGoroutine")=false) (hb:fn.body.isNone=false) (args:Array Value) (w:World):
  (callFunc f args).run P w= .ok (.enter f args) w:=by
 unfold callFunc
 simp only [Sem.run_bind,run_program,Result.andThen_ok,hf,hn,hb,Df,Rb,Sem.run_pure]
theorem Aby (hT:Ef P T) (Om:Kq P Γ) (hm:P.follows .mixedOrders=true) {f:FuncId} {fn:Func} (hf:P.funcs[f]?=some fn) (hn:(fn.name== "runtime.NumGoroutine")=false) (hb:fn.body.isNone=false) (s:Spec)
  (h: ∀x y,s.fn x=some y->YA T Γ s fn x λz=>z=y):Sound P f s:=
 ⟨iI hf hn hb,λw S vs x y hS hx hy=>z9 hT Om hm hf s w S vs x y hS hx (h x y hy)⟩
end
end Go.Proofs.Ytkkdpknjohcekaa
