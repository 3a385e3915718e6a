/-
  Part 26 of the proof that the statement FnBoundStatistics holds.
-/
import Derived.Test.YtkkdpknjohcekaaCFBoundStatistics24
namespace Go.Proofs.Ytkkdpknjohcekaa
open Go.RowKit
section
variable {P:Program} {T:Tab} {Γ:Env} {X:Ctx} {w w':World} {π:Pi}
def bZ (π:Pi) (l k:Nat):Pi:= λm=>if m=k then π l else if m=l then none else π m
theorem YE {st:St} {l k:Nat} {b:OB} (hk:At st.heap k=none) (hl:At st.heap l=some b):
  At (Om (aA (st.heap.map λp=>(p.1,p.2.map (Vj l k))) l) k (b.map (Vj l k))) k=some (b.map (Vj l k))/\
  At (Om (aA (st.heap.map λp=>(p.1,p.2.map (Vj l k))) l) k (b.map (Vj l k))) l=none/\
  ∀m,m≠k->m≠l->At (Om (aA (st.heap.map λp=>(p.1,p.2.map (Vj l k))) l) k (b.map (Vj l k))) m=(At st.heap m).map (OB.map (Vj l k)):=by
 have Iv:l≠k:= λe=>by subst e;rw [hk] at hl;cases hl
 refine ⟨Qt _ _ _ ?_,?_,λm h1 h2=>?_⟩
 ·rw [Nx _ _ _ Iv.symm,Oz,hk];rfl
 ·rw [Pn _ _ _ _ Iv,Mq]
 ·rw [Pn _ _ _ _ h1,Nx _ _ _ h2,Oz]
theorem Move.ren {st:St} {l k:Nat} {b:OB} {H':List (Nat×OB)} (hk:At st.heap k=none) (hl:At st.heap l=some b) (e1:At H' k=some (b.map (Vj l k))) (_e2:At H' l=none)
  (e3: ∀m,m≠k->m≠l->At H' m=(At st.heap m).map (OB.map (Vj l k))) (ef: ∀c,Vy (bZ π l k) c->Vy π c):Move X w w π (bZ π l k) st.heap H' (Vj l k):=by
 have Iv:l≠k:= λe=>by subst e;rw [hk] at hl;cases hl
 have hc: ∀fr τ cs x,Cells w (Da X.w0.heap.size X.Sc π fr) τ cs x->Cells w (Da X.w0.heap.size X.Sc (bZ π l k) fr) τ cs x:=
  fun fr τ cs x h=>Cells.Fb (Ap _) (λ_ _ _=>rfl) (λc _ hA=>hA.imp (ef c) id) τ cs x h
 have Zk: ∀m c,At st.heap m=some c->At H' (pA l k m)=some (c.map (Vj l k))/\bZ π l k (pA l k m)=π m:=by
  intro m c hm
  unfold pA
  by_cases e:m=l
  ·subst e
   rw [hl] at hm;cases hm
   rw [Ac rfl]
   exact ⟨e1,by unfold bZ;rw [Ac rfl]⟩
  ·have e':m≠k:= λe'=>by subst e';rw [hk] at hm;cases hm
   rw [Ak e]
   exact ⟨by rw [e3 m e' e,hm];rfl,by unfold bZ;rw [Ak e',Ak e]⟩
 refine ⟨λc v h=>?_,hc⟩
 cases c with
 |data fr τ x=>obtain ⟨cs,h1,h2⟩:=h;exact ⟨cs,hc _ _ _ _ h1,h2⟩
 |own m off len=>
  obtain ⟨b',sz,n,h1,h0,h2,h3⟩:=h
  obtain ⟨g1,g2⟩:=Zk m b' h1
  exact ⟨_,sz,n,g1,by cases b'<;>exact h0,h2,by rw [g2];exact h3⟩
 |Hj m i=>
  obtain ⟨r,tid,vs,h1,h2,h3⟩:=h
  obtain ⟨g1,g2⟩:=Zk m _ h1
  exact ⟨r,tid,_,g1,by rw [g2];exact h2,h3⟩
 |Kk m i=>
  obtain ⟨r,b',sz,n,h1,h0,h2,h3,h4⟩:=h
  obtain ⟨g1,g2⟩:=Zk m b' h1
  exact ⟨r,_,sz,n,g1,by cases b'<;>exact h0,h2,by rw [g2];exact h3,h4⟩
 |sub m i c=>
  obtain ⟨r,b,sz,n,h1,h0,h2,h3,h4,h5⟩:=h
  obtain ⟨g1,g2⟩:=Zk m _ h1
  exact ⟨r,_,sz,n,g1,by cases b<;>exact h0,by rw [g2];exact h2,h3,h4,h5⟩
 |Kh m i c=>
  obtain ⟨r,b,n,sz,g,o,len,cap,h1,h0,h2,h3⟩:=h
  obtain ⟨g1,g2⟩:=Zk m _ h1
  exact ⟨r,_,n,sz,g,o,len,cap,g1,by cases b<;>exact h0,by rw [g2];exact h2,h3⟩
 |clo f Ee=>
  obtain ⟨us,h1,h2,h3⟩:=h
  refine ⟨us,h1,by simpa using h2,λj p hp=>?_⟩
  rw [En] at hp
  cases hq:Ee[j]? with
  |none=>rw [hq] at hp;cases hp
  |some q=>
   rw [hq] at hp
   simp only [Am,Aa] at hp
   subst hp
   obtain ⟨r,tid,vs,h4,h5,h6⟩:=h3 j q hq
   obtain ⟨g1,g2⟩:=Zk q.1 _ h4
   exact ⟨r,tid,_,g1,by rw [g2];exact h5,h6⟩
 |Ks m=>
  obtain ⟨r,vt,f,h1,h2,h3⟩:=h
  obtain ⟨g1,g2⟩:=Zk m _ h1
  exact ⟨r,vt,f,g1,by rw [g2];exact h2,h3⟩
 |_=>exact h
theorem NC (l k:Nat) {st:St} {a:Act} (h:Rel X st a w):Rel X (st.rename l k) a w:=by
 unfold St.rename
 split
 ·rename_i b hk hl
  split
  ·rename_i hp
   simp only [Af,Nn] at hp
   obtain ⟨π,h⟩:=h
   have Iv:l≠k:= λe=>by subst e;rw [hk] at hl;cases hl
   obtain ⟨e1,e2,e3⟩:=YE hk hl
   have hpk:π k=none:=(h.1.heap k).emp hk
   have un: ∀m r,bZ π l k m=some r-> ∃m',π m'=some r/\pA l k m'=m:= λm r hm=>by
    unfold bZ at hm
    split at hm
    ·rename_i e;subst e;exact ⟨l,hm,by unfold pA;rw [Ac rfl]⟩
    ·rename_i e
     split at hm
     ·cases hm
     ·rename_i e';exact ⟨m,hm,by unfold pA;rw [Ak e']⟩
   have m:=Move.ren (X:=X) (w:=w) (π:=π) hk hl e1 e2 e3 λc ⟨j,r,h1,h2⟩=>let ⟨j',h3,_⟩:=un j r h1;⟨j',r,h3,h2⟩
   refine ⟨bZ π l k,⟨h.1.below,h.1.sc,λj r c h1 h2=>?_,λj r c h1 h2=>?_,λj1 j2 r1 r2 c h1 h2 h3 h4=>?_,λj hj Ahx=>?_,λj=>?_⟩,?_⟩
   ·obtain ⟨j',h3,_⟩:=un j r h1;exact h.1.sub j' r c h3 h2
   ·obtain ⟨j',h3,_⟩:=un j r h1;exact h.1.place j' r c h3 h2
   ·obtain ⟨j1',g1,g2⟩:=un j1 r1 h1
    obtain ⟨j2',g3,g4⟩:=un j2 r2 h2
    rw [<-g2,<-g4,h.1.inj j1' j2' r1 r2 c g1 g3 h3 h4]
   ·have n1:j≠k:= λe=>by omega
    have n2:j≠l:= λe=>by omega
    have Aly:At st.heap j≠none:= λh0=>Ahx ((e3 j n1 n2).trans (by rw [h0];rfl))
    have:=h.1.gW j hj Aly
    unfold bZ
    rw [Ak n1,Ak n2]
    exact this
   ·by_cases n1:j=k
    ·subst n1
     refine Gh.Lr ?_ e1
     unfold bZ
     rw [Ac rfl]
     exact ((h.1.heap l).Rp hl).move m (Ap _) (λr0 c h0 h1=>h.1.sub _ r0 c h0 h1) λ_ _ _ _ _=>rfl
    ·by_cases n2:j=l
     ·subst n2
      exact Gh.Um (by unfold bZ;rw [Ak n1,Ac rfl]) e2
     ·have hr:bZ π l k j=π j:=by unfold bZ;rw [Ak n1,Ak n2]
      have hn:=e3 j n1 n2
      have ho:=h.1.heap j
      cases jU:At st.heap j with
      |none=>rw [jU] at hn;exact Gh.Um (by rw [hr];exact ho.emp jU) hn
      |some c=>
       rw [jU] at hn
       refine Gh.Lr ?_ hn
       rw [hr]
       exact (ho.Rp jU).move m (Ap _) (λr0 c h0 h1=>h.1.sub _ r0 c h0 h1) λ_ _ _ _ _=>rfl
   ·have:sq X w (bZ π l k) {tmps:=st.tmps.map (·.map (Vj l k)),heap:=Om (aA (st.heap.map λp=>(p.1,p.2.map (Vj l k))) l) k (b.map (Vj l k))} a:=m.NB rfl h.2
    exact this
  ·exact h
 ·exact h
theorem jh: ∀(n t:Nat) (st:St) (a:Act) (w:World),Rel X st a w->Rel X (Mt n t st) a w
 |0,_,_,_,_,h=>h
 |n+1,t,st,a,w,h=>by
  simp only [Mt]
  refine jh n (t+1) _ a w ?_
  split
  ·split
   ·split
    ·exact h
    ·exact NC _ _ h
   ·exact h
  ·exact h
theorem jT (f:Nat->OB->OB): ∀(H:List (Nat×OB)) (l:Nat),At (H.map λp=>(p.1,f p.1 p.2)) l=(At H l).map (f l)
 | [],_=>rfl
 |(k,b)::r,l=>by
  simp only [Bm,At]
  split
  ·rename_i e;subst e;rfl
  ·exact jT f r l
theorem OB.IU (x y z:Bool) (b:OB):(b.Iw x y z).row=b.row:=by cases b<;>rfl
def oA (live:List Nat) (l:Nat) (b:OB):OB:=b.Iw (live.contains Pf) (live.contains (Od+l)) (live.contains (vh+l))
theorem Move.Iw (live:List Nat) {H:List (Nat×OB)} :Move X w w π π H (H.map λp=>(p.1,oA live p.1 p.2)) (λc=>c):=by
 refine ⟨λc v h=>?_,λfr τ cs x h=>h⟩
 have Zk: ∀m c,At H m=some c->At (H.map λp=>(p.1,oA live p.1 p.2)) m=some (oA live m c):= λm c hm=>by rw [jT,hm];rfl
 cases c with
 |own m off len=>
  obtain ⟨b',sz,n,h1,h0,h2,h3⟩:=h
  exact ⟨_,sz,n,Zk m b' h1,by unfold oA;rw [OB.IU];exact h0,h2,h3⟩
 |Hj m i=>
  obtain ⟨r,tid,vs,h1,h2,h3⟩:=h
  exact ⟨r,tid,_,Zk m _ h1,h2,h3⟩
 |Kk m i=>
  obtain ⟨r,b',sz,n,h1,h0,h2,h3,h4⟩:=h
  exact ⟨r,_,sz,n,Zk m b' h1,by unfold oA;rw [OB.IU];exact h0,h2,h3,h4⟩
 |sub m i c=>
  obtain ⟨r,b,sz,n,h1,h0,h2⟩:=h
  exact ⟨r,_,sz,n,Zk m _ h1,by cases b<;>exact h0,h2⟩
 |Kh m i c=>
  obtain ⟨r,b,n,sz,g,o,len,cap,h1,h0,h2⟩:=h
  exact ⟨r,_,n,sz,g,o,len,cap,Zk m _ h1,by cases b<;>exact h0,h2⟩
 |clo f Ee=>
  obtain ⟨us,h1,h2,h3⟩:=h
  refine ⟨us,h1,h2,λj p hp=>?_⟩
  obtain ⟨r,tid,vs,h4,h5,h6⟩:=h3 j p hp
  exact ⟨r,tid,_,Zk p.1 _ h4,h5,h6⟩
 |Ks m=>
  obtain ⟨r,vt,f,h1,h2,h3⟩:=h
  exact ⟨r,vt,f,Zk m _ h1,h2,h3⟩
 |_=>exact h
theorem Ac0 (live:List Nat) {st:St} {a:Act} (h:Rel X st a w):Rel X (st.Iw live) a w:=by
 obtain ⟨π,h⟩:=h
 have m:=Move.Iw (X:=X) (w:=w) (π:=π) live (H:=st.heap)
 refine ⟨π,⟨h.1.below,h.1.sc,h.1.sub,h.1.place,h.1.inj,λj hj Iv=>h.1.gW j hj λh0=>Iv (by show At (st.heap.map λp=>(p.1,oA live p.1 p.2)) j=none;rw [jT,h0];rfl),λj=>?_⟩,?_⟩
 ·have hn:At (st.Iw live).heap j=(At st.heap j).map (oA live j):=jT (oA live) st.heap j
  have ho:=h.1.heap j
  cases jU:At st.heap j with
  |none=>rw [jU] at hn;exact Gh.Um (ho.emp jU) hn
  |some c=>
   rw [jU] at hn
   refine Gh.Lr ?_ hn
   have hb:=(ho.Rp jU).move m (Ap _) (λr0 c h0 h1=>h.1.sub _ r0 c h0 h1) λ_ _ _ _ _=>rfl
   cases c with
   |arr fr tr e tid xs=>
    simp only [OB.map,Cj,Ki,OB.Iw,oA] at hb⊢
    cases hp:π j with
    |none=>rw [hp] at hb;exact hb
    |some r=>
     rw [hp] at hb
     obtain ⟨⟨g1,g2,g3⟩,cur,ti,g4,g5,g6,g7,g8,g9⟩:=hb
     refine ⟨⟨g1,g2,λhf=>g3 (Ce.1 hf).1⟩,cur,ti,g4,g5,g6,g7,λi x hx=>?_,λht=>g9 (Ce.1 ht).1⟩
     obtain ⟨es,k1,k2,k3⟩:=g8 i x hx
     refine ⟨es,k1,k2,Cells.Fb (Ap _) (λ_ _ _=>rfl) (λb _ hA=>?_) e es x k3⟩
     exact hA.imp id (Or.imp id λ⟨h1,h2⟩=>⟨(Ce.1 h1).1,h2⟩)
   |Gu e tid xs=>exact hb
   |Bl e te rows out kp=>exact hb
   |var tid vs=>
    have e:(OB.var tid vs).map (λc=>c)= .var tid vs:=by simp [OB.map]
    rw [e] at hb
    obtain ⟨r',h1,h2,cur,h3,h4,h5⟩:=hb
    refine ⟨r',h1,h2,cur,h3,by rw [h4,Bt],λi c hc=>?_⟩
    rw [En] at hc
    cases hv:vs[i]? with
    |none=>rw [hv] at hc;cases hc
    |some c0=>
     rw [hv] at hc
     obtain ⟨u,k1,k2,k3⟩:=h5 i c0 hv
     refine ⟨u,k1,k2,?_⟩
     have hc:AC.Agr (live.contains Pf) c0=c:=Bb hc
     subst hc
     cases c0 with
     |data fr τ x=>
      show Cw w (Da X.w0.heap.size X.Sc π (fr&&!(live.contains Pf&&τ.flat))) τ u x
      exact Cw.Iw k3 λb _ hA=>hA.imp id (Or.imp id λ⟨h1,h2⟩=>⟨(Ce.1 h1).1,h2⟩)
     |_=>exact k3
   |Vu v f=>exact hb
 ·exact ⟨h.2.size,h.2.defers,λt=>by have:=m.av (h.2.tmps t);rwa [AC.map_id] at this⟩
theorem zQ (t:Nat) {st:St} {a:Act} (h:Rel X st a w):Rel X (bY t st) a w:=by
 obtain ⟨π,h⟩:=h
 unfold bY
 split
 ·rename_i l off len hg
  split
  ·rename_i fr tr e tid xs hl
   split
   ·rename_i tu
    have hv:=h.2.tmps t
    rw [hg] at hv
    obtain ⟨π',h1,h2,_⟩:=ui h (by simpa using tu) hl hv
    refine ⟨π',h1.1,⟨?_,h1.2.defers,λk=>?_⟩⟩
    ·show a.tmps.size=(Sz _ t _).length
     rw [ab];exact h1.2.size
    ·show Bq X w π' _ ((Sz _ t _).getD k .undef) _
     rw [Rb]
     split
     ·rename_i hk
      obtain ⟨rfl,_⟩:=hk
      exact h2
     ·exact h1.2.tmps k
   ·exact ⟨π,h⟩
  ·exact ⟨π,h⟩
 ·exact ⟨π,h⟩
theorem Move.Ajf {H:List (Nat×OB)} {π:Pi} {m:Nat} {tid:TypeId} {vs vs':List AC} (hm:At H m=some (.var tid vs)):Move X w w π π H (au H m (.var tid vs')) (λc=>c):=by
 have ne: ∀l b,At H l=some b->(∀t us,b≠ .var t us)->At (au H m (.var tid vs')) l=some b:= λl b h hb=>by
  rw [Ea H m l _ (λe=>by subst e;rw [hm] at h;cases h;exact hb _ _ rfl)];exact h
 have va: ∀l t us,At H l=some (.var t us)-> ∃t' Xl,At (au H m (.var tid vs')) l=some (.var t' Xl):= λl t us h=>by
  by_cases e:l=m
  ·subst e;exact ⟨_,_,Er H l _ _ hm⟩
  ·exact ⟨t,us,by rw [Ea H m l _ e];exact h⟩
 refine ⟨λc v h=>?_,λ_ _ _ _ h=>h⟩
 cases c with
 |own l off len=>obtain ⟨b,sz,n,h1,h2,h3⟩:=h;exact ⟨b,sz,n,ne l b h1 (λt us e=>by subst e;cases h2),h2,h3⟩
 |Hj l i=>obtain ⟨r,t,us,h1,h2⟩:=h;obtain ⟨t',Xl,h3⟩:=va l t us h1;exact ⟨r,t',Xl,h3,h2⟩
 |Kk l i=>obtain ⟨r,b,sz,n,h1,h2,h3⟩:=h;exact ⟨r,b,sz,n,ne l b h1 (λt us e=>by subst e;cases h2),h2,h3⟩
 |sub l i c=>obtain ⟨r,b,sz,n,h1,h2,h3⟩:=h;exact ⟨r,b,sz,n,ne l b h1 (λt us e=>by subst e;cases h2),h2,h3⟩
 |Kh l i j=>obtain ⟨r,b,n,sz,g,o,len,cap,h1,h2,h3⟩:=h;exact ⟨r,b,n,sz,g,o,len,cap,ne l b h1 (λt us e=>by subst e;cases h2),h2,h3⟩
 |clo f Ee=>
  obtain ⟨us,h1,h2,h3⟩:=h
  refine ⟨us,h1,h2,λj p hp=>?_⟩
  obtain ⟨r,t,ws,h4,h5⟩:=h3 j p hp
  obtain ⟨t',Xl,h6⟩:=va p.1 t ws h4
  exact ⟨r,t',Xl,h6,h5⟩
 |Ks l=>obtain ⟨r,vt,f,h1,h2⟩:=h;exact ⟨r,vt,f,ne l _ h1 (λt us e=>by cases e),h2⟩
 |_=>exact h
theorem HF {π:Pi} {st:St} {a:Act} (h:Bh X π st a w) {m:Nat} {tid:TypeId} {vs:List AC} (hm:At st.heap m=some (.var tid vs)) {c:Nat} {x:AC}
  (hx: ∀r cur u,π m=some r->w.heap[r.g]?=some (.cells cur tid (0,0))->cur.toList[c]?=some u->Hq X w π st.heap x u):Bh X π (st.Kg m (.var tid (vs.set c x))) a w:=by
 have mv:=Move.Ajf (X:=X) (w:=w) (π:=π) (vs':=vs.set c x) hm
 refine ⟨⟨h.1.below,h.1.sc,h.1.sub,h.1.place,h.1.inj,λj hj Iv=>h.1.gW j hj λh0=>Iv ?_,λj=>?_⟩,?_⟩
 ·show At (au st.heap m _) j=none
  rw [Ea _ _ _ _ (λe=>by subst e;rw [hm] at h0;cases h0)];exact h0
 ·have ho:=h.1.heap j
  by_cases e:j=m
  ·subst e
   refine Gh.Lr (b:= .var tid (vs.set c x)) ?_ (Er st.heap j _ _ hm)
   obtain ⟨r,h1,h2,cur,h3,h4⟩:=ho.Rp hm
   refine ⟨r,h1,h2,cur,h3,?_⟩
   obtain ⟨h5,h6⟩:=h4
   refine ⟨by rw [Cf];exact h5,λi d hd=>?_⟩
   rw [Ds] at hd
   split at hd
   ·rename_i hci
    subst hci
    split at hd
    ·rename_i Jr
     cases hd
     obtain ⟨u,g1,g2,_⟩:=h6 c vs[c] (Ab Jr)
     exact ⟨u,g1,g2,mv.ac _ _ (hx r cur u h1 h3 g1)⟩
    ·cases hd
   ·obtain ⟨u,g1,g2,g3⟩:=h6 i d hd
    exact ⟨u,g1,g2,mv.ac _ _ g3⟩
  ·have hn:At (st.Kg m (.var tid (vs.set c x))).heap j=At st.heap j:=Ea _ _ _ _ e
   cases hg:At st.heap j with
   |none=>exact Gh.Um (ho.emp hg) (hn.trans hg)
   |some b=>
    have hb:=(ho.Rp hg).move mv (Ap _) (λr0 c h0 h1=>h.1.sub _ r0 c h0 h1) λ_ _ _ _ _=>rfl
    refine Gh.Lr ?_ (hn.trans hg)
    have eid:b.map (λc=>c)=b:=by cases b<;>simp [OB.map]
    rw [eid] at hb
    exact hb
 ·exact ⟨h.2.size,h.2.defers,λt=>by have:=mv.av (h.2.tmps t);rwa [AC.map_id] at this⟩
theorem pz (c:Nat) {st:St} {a:Act} (h:Rel X st a w):Rel X (Qd c st) a w:=by
 obtain ⟨π,h⟩:=h
 unfold Qd
 split
 ·rename_i Aye vs hm
  split
  ·rename_i l off len hc
   split
   ·rename_i fr tr e te xs hl
    split
    ·rename_i tu
     split
     ·rename_i tid vs' EH
      have hlv:Pe≠l:= λe=>by subst e;rw [hm] at hl;cases hl
      obtain ⟨r,h1,h2,cur,h3,h4,h5⟩:=(h.1.heap Pe).Rp hm
      obtain ⟨u,g1,g2,g3⟩:=h5 c _ hc
      obtain ⟨π',k1,k2,k3⟩:=ui h (by simpa using tu) hl g3
      refine ⟨π',HF k1 EH λr' an u' q1 q2 q3=>?_⟩
      rw [k3 Pe hlv,h1] at q1
      cases q1
      rw [h3] at q2
      cases q2
      rw [g1] at q3
      cases q3
      exact k2
     ·exact ⟨π,h⟩
    ·exact ⟨π,h⟩
   ·exact ⟨π,h⟩
  ·exact ⟨π,h⟩
 ·exact ⟨π,h⟩
theorem gz (live:List Nat): ∀(n c:Nat) (st:St) (a:Act) (w:World),Rel X st a w->Rel X (Pu live n c st) a w
 |0,_,_,_,_,h=>h
 |n+1,c,st,a,w,h=>by
  simp only [Pu]
  refine gz live n (c+1) _ a w ?_
  split
  ·exact pz c h
  ·exact h
theorem lk (live:List Nat): ∀(n t:Nat) (st:St) (a:Act) (w:World),Rel X st a w->Rel X (Pc live n t st) a w
 |0,_,st,a,w,h=>gz live 16 0 st a w h
 |n+1,t,st,a,w,h=>by
  simp only [Pc]
  refine lk live n (t+1) _ a w ?_
  split
  ·exact zQ t h
  ·exact h
theorem RY (live:List Nat) {st:St} {a:Act} (h:Rel X st a w):Rel X (st.clean live) a w:=by
 obtain ⟨π,h⟩:=h
 have ZL: ∀s:St,Rel X s a w->Rel X (if live.any (λt=>Nat.ble Pf t) then s.Iw live else s) a w:=by
  intro s hs
  split
  ·exact Ac0 live hs
  ·exact hs
 have key: ∀s:St,Rel X s a w->Rel X (if live.contains cS then Mt s.tmps.length 0 s else s) a w:=by
  intro s hs
  split
  ·exact jh _ _ _ a w hs
  ·exact hs
 have ZM: ∀s:St,Rel X s a w->Rel X (if live.any (λt=>Nat.ble Si t&&Nat.blt t cS) then Pc live s.tmps.length 0 s else s) a w:=by
  intro s hs
  split
  ·exact lk _ _ _ _ a w hs
  ·exact hs
 unfold St.clean
 refine ZL _ (key _ (ZM _ (dk _ _ a w ⟨π,h.1,⟨by simp [Yb,h.2.size],h.2.defers,λt=>?_⟩⟩)))
 show Bq X w π st.heap ((Im live 0 st.tmps).getD t .undef) _
 rcases bF live 0 st.tmps t with e|e
 ·rw [e];trivial
 ·rw [e];exact h.2.tmps t
def Ah7:Lo->Exit
 | .normal=> .normal
 | .exit id=> .exit id
 | .ret=> .ret
def so (P:Program) (c:Code) (Q:Exit->Act->World->Prop) (a:Act) (w:World):Prop:=
 ∀(b:Frame) (k:List Item) (cs:List Frame),∃e a' w',Q e a' w'/\Arrives P (lone (b.at a (.code c:: .inLoop c::k)) cs w) b k cs e a' w'
theorem FE {c:Code} {Q:Exit->Act->World->Prop} {a:Act} {w:World} (h:c.wp P (Exit.then (so P c Q) Q) a w):so P c Q a w:=by
 intro b k cs
 obtain ⟨e,XB,Ac1,hq,EA⟩:=h b (.inLoop c::k) cs
 cases e with
 |normal=>
  obtain ⟨Aq8,Aq1,Ate,Ame,Ad5⟩:=hq b k cs
  exact ⟨Aq8,Aq1,Ate,Ame, .of_steps (Steps.trans EA (.one step_inLoop)) Ad5⟩
 |exit id=>exact ⟨_,XB,Ac1,hq, .pass (x:= .inLoop c) rfl (λ_ _=> .inl (by simp)) EA⟩
 |goto l=>exact ⟨_,XB,Ac1,hq, .pass (x:= .inLoop c) rfl (λ_ _=> .inl (by simp)) EA⟩
 |ret=>exact ⟨_,XB,Ac1,hq, .pass (x:= .inLoop c) rfl (λ_ _=> .inl (by simp)) EA⟩
 |panic ch=>exact ⟨_,XB,Ac1,hq, .pass (x:= .inLoop c) rfl (λ_ _=> .inl (by simp)) EA⟩
 |outgrown=>exact ⟨_,XB,Ac1,hq, .pass (x:= .inLoop c) rfl (λ_ _=> .inl (by simp)) EA⟩
theorem WB {c:Code} {Q:Exit->Act->World->Prop} {a:Act} {w:World} (h:so P c Q a w):(Code.loop c).wp P Q a w:=by
 intro b k cs
 obtain ⟨e,a',w',hq,EA⟩:=h b k cs
 exact ⟨e,a',w',hq, .of_steps (.one step_loop) EA⟩
theorem gf (ops:Array Oper): ∀(i:Nat) (l:List AV),(Ox ops i l).length=l.length
 |_,[]=>rfl
 |i,v::r=>by cases v<;>simp [Ox,gf ops (i+1) r]
theorem kP (ops:Array Oper): ∀(i:Nat) (l:List AV) (t:Nat),(Ox ops i l).getD t .undef= .undef\/(Ox ops i l).getD t .undef=l.getD t .undef
 |_,[],_=> .inr rfl
 |i,v::r,0=>by
  cases v with
  |Mw l=>
   simp only [Ox,Xv]
   split
   ·exact .inr rfl
   ·exact .inl rfl
  |_=>exact .inr rfl
 |i,v::r,t+1=>by
  have h:=kP ops (i+1) r t
  cases v<;>(simp only [Ox,Nr];exact h)
theorem DH (ops:Array Oper) {st:St} {a:Act} (h:Rel X st a w):Rel X (st.mR ops) a w:=by
 obtain ⟨π,h⟩:=h
 refine ⟨π,h.1,⟨by show a.tmps.size=(Ox ops 0 st.tmps).length;rw [gf];exact h.2.size,h.2.defers,λt=>?_⟩⟩
 show Bq X w π st.heap ((Ox ops 0 st.tmps).getD t .undef) _
 rcases kP ops 0 st.tmps t with e|e
 ·rw [e];trivial
 ·rw [e];exact h.2.tmps t
theorem ur (hT:Dz P T) (Pb:Kx P Γ) (hm:P.follows .mixedOrders=true) {live:Nat->List Nat} {c:Code} {st:St} {K:Lo->St->Prop} (hr:Ol T Γ live c st K):
  ∀(a:Act) (w:World) (Q:Exit->Act->World->Prop),Rel X st a w->(∀e st' a' w',K e st'->Rel X st' a' w'->Q (Ah7 e) a' w')->c.wp P Q a w/\ ∀c',c= .loop c'->so P c' Q a w:=by
 induction hr with
 |skip hk=>exact λa w Q h hQ=>⟨wp_skip (hQ .normal _ _ _ hk h),λc' e=>by cases e⟩
 |label hk=>exact λa w Q h hQ=>⟨wp_label (hQ .normal _ _ _ hk h),λc' e=>by cases e⟩
 |exit hk=>exact λa w Q h hQ=>⟨wp_exit (hQ (.exit _) _ _ _ hk h),λc' e=>by cases e⟩
 |ret hk=>exact λa w Q h hQ=>⟨wp_ret (hQ .ret _ _ _ hk h),λc' e=>by cases e⟩
 |region hk=>exact λa w Q h hQ=>⟨NA hT (Pb.reg _) hm (DH _ h) hk λst' a' w' h1 h2=>hQ .normal _ _ _ h1 h2,λc' e=>by cases e⟩
 |seq Q1 _ _ h3 SX EN=>
  intro a w Q h hQ
  refine ⟨wp_seq ((SX a w _ h λe st' a' w' hk h'=>?_).1),λc' e=>by cases e⟩
  cases e with
  |normal=>exact (EN st' hk a' w' Q h' hQ).1
  |exit id=>exact hQ (.exit id) _ _ _ (h3 _ _ (by simp) hk) h'
  |ret=>exact hQ .ret _ _ _ (h3 _ _ (by simp) hk) h'
 |cond hc _ _ SX EN=>
  intro a w Q h hQ
  refine ⟨?_,λc' e=>by cases e⟩
  obtain ⟨π,h'⟩:=h
  rename_i c x y st fr t Q0 _ _
  have hr:=Dr h'.2 c
  rw [hc] at hr
  refine wp_cond (aa hr) ?_
  cases t with
  |true=>exact (SX rfl a w Q ⟨π,h'⟩ hQ).1
  |false=>exact (EN rfl a w Q ⟨π,h'⟩ hQ).1
 |block Q1 _ h2 ih=>
  intro a w Q h hQ
  rename_i id c st Q0 _
  refine ⟨wp_block ((ih a w _ h λe st' a' w' hk h'=>?_).1),λc' e=>by cases e⟩
  have h3:=h2 e st' hk
  cases e with
  |normal=>exact hQ .normal _ _ _ h3 h'
  |ret=>exact hQ .ret _ _ _ h3 h'
  |exit SW=>
   show (if SW=id then Q .normal a' w' else Q (.exit SW) a' w')
   simp only [xm] at h3
   by_cases hid:SW=id
   ·rw [Ac hid] at h3⊢;exact hQ .normal _ _ _ h3 h'
   ·rw [Ak hid] at h3⊢;exact hQ (.exit SW) _ _ _ h3 h'
 |loop Q1 _ _ h3 SX EN=>
  intro a w Q h hQ
  rename_i c st Q0 _ _
  have key:so P c Q a w:=by
   refine FE ((SX a w _ (RY _ h) λe st' a' w' hk h'=>?_).1)
   cases e with
   |normal=>exact (EN st' hk a' w' Q h' hQ).2 c rfl
   |exit id=>exact hQ (.exit id) _ _ _ (h3 _ _ (by simp) hk) h'
   |ret=>exact hQ .ret _ _ _ (h3 _ _ (by simp) hk) h'
  exact ⟨WB key,λc' e=>by cases e;exact key⟩
def NF (tmps:Array Value):ResultVar->Sem Value
 | .tmp t=>pure (tmps.getD t undef)
 | .cell p t=>do loadVar t (<-asAddr (tmps.getD p undef))
theorem fG (fn:Func) (tmps:Array Value):results fn tmps=(do
  let vs<-fn.results.mapM (NF tmps)
  pure (if h:vs.size=1 then vs[0] else .tuple vs)):=by
 rfl
theorem QO {α:Type} {l:List α} (h:l.length=2): ∃a b,l= [a,b]:=by
 rcases l with _|⟨a,_|⟨b,_|⟨c,r⟩⟩⟩<;>simp at h
 exact ⟨a,b,rfl⟩
theorem xx {α:Type} {l:List α} (h:l.length=3): ∃a b c,l= [a,b,c]:=by
 rcases l with _|⟨a,_|⟨b,_|⟨c,_|⟨d,r⟩⟩⟩⟩<;>simp at h
 exact ⟨a,b,c,rfl⟩
theorem FC {t:TypeId} {v u:Value} (h:(Instr.loadAt t v).run P w= .ok u w):(do loadVar t (<-asAddr v):Sem Value).run P w= .ok u w:=by
 unfold Instr.loadAt at h
 cases v with
 |pointer a=>
  cases a with
  |some a=>simpa [Instr.sureAddr,asAddr] using h
  |none=>simp [Instr.sureAddr,Result.andThen] at h
 |_=>simp [Instr.sureAddr,Result.andThen] at h
theorem Yr (hT:Dz P T) {st:St} {a:Act} (h:Bh X π st a w): ∀(rs:List ResultVar) (l:List AV),dv T st rs=some l->
  ∃vs:List Value,vs.length=rs.length/\l.length=rs.length/\(∀(i:Nat) r v,rs[i]?=some r->vs[i]?=some v->(NF a.tmps r).run P w= .ok v w)/\(∀(i:Nat) c v,l[i]?=some c->vs[i]?=some v->Bq X w π st.heap c v)
 | [],l,he=>by
  simp only [dv,Aa] at he;subst he
  exact ⟨[],rfl,rfl,λi r v hr=>by simp at hr,λi c v hc=>by simp at hc⟩
 | .tmp t::r,l,he=>by
  simp only [dv] at he
  cases hr:dv T st r with
  |none=>rw [hr] at he;cases he
  |some l'=>
   rw [hr] at he
   simp only [Am,Aa] at he;subst he
   obtain ⟨vs,h1,h2,h3,h4⟩:=Yr hT h r l' hr
   refine ⟨a.tmps.getD t undef::vs,by simp [h1],by simp [h2],λi r' v dG hv=>?_,λi c v hc hv=>?_⟩
   ·rcases i with _|i
    ·rw [Bv,Aa] at dG hv;subst dG;subst hv;rfl
    ·exact h3 i r' v (by simpa using dG) (by simpa using hv)
   ·rcases i with _|i
    ·rw [Bv,Aa] at hc hv;subst hc;subst hv;exact h.2.tmps t
    ·exact h4 i c v (by simpa using hc) (by simpa using hv)
 | .cell p t::r,l,he=>by
  simp only [dv] at he
  split at he
  ·rename_i c0 l' hl0 hr
   simp only [Aa] at he;subst he
   obtain ⟨u,hu,hru⟩:=mY hT h t _ _ c0 (h.2.tmps p) hl0
   obtain ⟨vs,h1,h2,h3,h4⟩:=Yr hT h r l' hr
   refine ⟨u::vs,by simp [h1],by simp [h2],λi r' v dG hv=>?_,λi c v hc hv=>?_⟩
   ·rcases i with _|i
    ·simp at dG hv;subst dG;subst hv;exact FC hu
    ·exact h3 i r' v (by simpa using dG) (by simpa using hv)
   ·rcases i with _|i
    ·simp at hc hv;subst hc;subst hv;exact hru
    ·exact h4 i c v (by simpa using hc) (by simpa using hv)
  ·cases he
theorem DM (hT:Dz P T) {st:St} {a:Act} (h:Bh X π st a w) (s:Spec) (fn:Func) (fr:Bool) (y:s.res.den) (he:nf T s fn st=some (fr,y)) {S:Nat->Prop} (hS:Tu X S fr):
  ∃v,(results fn a.tmps).run P w= .ok v w/\lI s w S v y:=by
 have hrs:fn.results=fn.results.toList.toArray:=Array.toArray_toList.symm
 unfold nf at he
 split at he
 ·rename_i c hl
  obtain ⟨vs,h1,h2,h3,h4⟩:=Yr hT h _ _ hl
  split at he
  ·cases he
  ·rename_i hm
   have hlen:fn.results.toList.length=1:=by rw [<-h2];rfl
   obtain ⟨r,hr⟩:=Eb.1 hlen
   rw [hlen] at h1
   obtain ⟨v,rfl⟩:=Eb.1 h1
   have e0:=h3 0 r v (by rw [hr];rfl) rfl
   refine ⟨v,?_,?_⟩
   ·rw [fG,hrs,hr]
    simp [e0]
   ·unfold lI
    rw [Ak hm]
    exact Zf h.1 s.res c v fr y (h4 0 c v rfl rfl) he hS
 ·rename_i c d hl
  obtain ⟨vs,h1,h2,h3,h4⟩:=Yr hT h _ _ hl
  split at he
  ·rename_i hm
   have hlen:fn.results.toList.length=2:=by rw [<-h2];rfl
   obtain ⟨r1,r2,hr⟩:=QO hlen
   rw [hlen] at h1
   obtain ⟨v1,v2,rfl⟩:=QO h1
   have e0:=h3 0 r1 v1 (by rw [hr];rfl) rfl
   have e1:=h3 1 r2 v2 (by rw [hr];rfl) rfl
   refine ⟨.tuple #[v1,v2],?_,?_⟩
   ·rw [fG,hrs,hr]
    simp [e0,e1]
   ·unfold lI
    rw [Ac hm]
    exact ⟨[v1,v2],rfl,ba h.1 s.res _ _ fr y rfl h4 he hS⟩
  ·cases he
 ·rename_i c d d' hl
  obtain ⟨vs,h1,h2,h3,h4⟩:=Yr hT h _ _ hl
  split at he
  ·rename_i hm
   have hlen:fn.results.toList.length=3:=by rw [<-h2];rfl
   obtain ⟨r1,r2,r3,hr⟩:=xx hlen
   rw [hlen] at h1
   obtain ⟨v1,v2,v3,rfl⟩:=xx h1
   have e0:=h3 0 r1 v1 (by rw [hr];rfl) rfl
   have e1:=h3 1 r2 v2 (by rw [hr];rfl) rfl
   have e2:=h3 2 r3 v3 (by rw [hr];rfl) rfl
   refine ⟨.tuple #[v1,v2,v3],?_,?_⟩
   ·rw [fG,hrs,hr]
    simp [e0,e1,e2]
   ·unfold lI
    rw [Ac hm]
    exact ⟨[v1,v2,v3],rfl,ba h.1 s.res _ _ fr y rfl h4 he hS⟩
  ·cases he
 ·cases he
theorem sB {S:Nat->Prop} : ∀(τ:Ty) (vs:List Value) (x:τ.den),Cu w S τ vs x->
  (Te τ x).length=vs.length/\ ∀i,Bq ⟨w,S,λ_=>False,λ_=>none⟩ w (λ_=>none) [] ((Te τ x).getD i .undef) (vs.getD i undef)
 | .pair a r,[],x,h=>h.elim
 | .pair a r,v::vs,x,h=>by
  obtain ⟨h1,h2⟩:=sB r vs x.2 h.2
  refine ⟨by simp [Te,h1],λi=>?_⟩
  rcases i with _|i
  ·simp only [Te,Xv]
   cases hf:a.flat with
   |true=>exact Cw.flat hf h.1
   |false=>
    exact Cw.Iw h.1 λk _ hk=>by
     rcases hk with ⟨l,r,hl,_⟩|hk|⟨hk,_⟩
     ·cases hl
     ·exact hk
     ·cases hk
  ·simpa [Te] using h2 i
 | .unit,[],_,_=>⟨rfl,λi=>by simp [Te];trivial⟩
 | .unit,_::_,_,h=>h.elim
 | .int _,_,_,h=>by simp [Cu] at h
 | .bool,_,_,h=>by simp [Cu] at h
 | .str,_,_,h=>by simp [Cu] at h
 | .slice _,_,_,h=>by simp [Cu] at h
 | .ptr _,_,_,h=>by simp [Cu] at h
 | .oslice _,_,_,h=>by simp [Cu] at h
 | .optr _,_,_,h=>by simp [Cu] at h
 | .smap _,_,_,h=>by simp [Cu] at h
 | .clo _ _,_,_,h=>by simp [Cu] at h
theorem yM (hT:Dz P T) (Pb:Kx P Γ) (hm:P.follows .mixedOrders=true) {f:FuncId} {fn:Func} (hf:P.funcs[f]?=some fn) (s:Spec) (w:World) (S:Nat->Prop) (vs:List Value) (x:s.arg.den) (y:s.res.den)
  (hS: ∀k,S k->k<w.heap.size) (hx:Cu w S s.arg vs x) (he:WR T Γ s fn x λz=>z=y):
  Calls P f vs.toArray w λe w'=> ∃v,e= .returned v/\Below w.heap.size w w'/\lI s w' (λb=>S b\/(s.fresh=true/\b<w.heap.size)) v y:=by
 obtain ⟨c,hb,he⟩:=he
 skip
 ·obtain ⟨hl,Rg⟩:=sB (w:=w) s.arg vs x hx
  have h0:Rel ⟨w,S,λ_=>False,λ_=>none⟩ {tmps:=Te s.arg x++List.replicate (fn.ntmps-(Te s.arg x).length) .undef,heap:= []} {tmps:=vs.toArray++Array.replicate (fn.ntmps-vs.toArray.size) undef,defers:= []} w:=by
   refine ⟨λ_=>none,⟨Kw.refl _ _ _,λb hb=>⟨hS b hb,λh=>h⟩,(λ_ _ _ h=>by cases h),(λ_ _ _ h=>by cases h),(λ_ _ _ _ _ h=>by cases h),λl _ hn=>absurd rfl hn,λl=>rfl⟩,⟨by simp [hl],rfl,λt=>?_⟩⟩
   have h1:=Rg t
   show Bq _ w _ [] ((Te s.arg x++List.replicate _ AV.undef).getD t .undef) ((vs.toArray++Array.replicate _ undef).getD t undef)
   by_cases ht:t<vs.length
   ·rw [Ah,As (by omega),<-Ah]
    rw [cm,Tr (by simpa using ht)]
    simpa [Ah] using h1
   ·have:(Te s.arg x++List.replicate (fn.ntmps-(Te s.arg x).length) AV.undef).getD t .undef= .undef:=by
     rw [Ah,Ar (by omega)]
     rw [Zh]
     split<;>rfl
    rw [this];trivial
  refine calls_of_wp hf hb ?_
  refine (ur hT Pb hm he _ w _ h0 λe st a' w' ⟨Iv,fr,y',rn,EE,hy⟩ ⟨π,h'⟩=>?_).1
  subst hy
  have Am9:=DM hT h' s fn fr y' rn (S:= λb=>S b\/(s.fresh=true/\b<w.heap.size)) ⟨λk hk=>⟨by rcases hk with hk|hk;exact hS k hk;exact hk.2,λh=>h⟩,by
   simp only [Lu,Fz] at EE
   rcases EE with h|h
   ·exact .inl h
   ·right;intro k hk;rcases hk with hk|⟨hk,_⟩
    ·exact hk
    ·rw [h] at hk;cases hk⟩
  obtain ⟨v,hv,hr⟩:=Am9
  cases e with
  |normal=>exact ⟨h'.2.defers,v,hv,v,rfl,h'.1.below.plain,hr⟩
  |ret=>exact ⟨h'.2.defers,v,hv,v,rfl,h'.1.below.plain,hr⟩
  |exit id=>exact absurd rfl (Iv id)
theorem im {f:FuncId} {fn:Func} (hf:P.funcs[f]?=some fn) (hn:(fn.name== "runtime.NumGoroutine")=false) (hb:fn.body.isNone=false) (args:Array Value) (w:World):
  (callFunc f args).run P w= .ok (.enter f args) w:=by
 unfold callFunc
 simp only [Sem.run_bind,run_program,Result.andThen_ok,hf,hn,hb,Dc,Rn,Sem.run_pure]
theorem Aaw (hT:Dz P T) (Pb:Kx P Γ) (hm:P.follows .mixedOrders=true) {f:FuncId} {fn:Func} (hf:P.funcs[f]?=some fn) (hn:(fn.name== "runtime.NumGoroutine")=false) (hb:fn.body.isNone=false) (s:Spec)
  (h: ∀x y,s.fn x=some y->WR T Γ s fn x λz=>z=y):Sound P f s:=
 ⟨im hf hn hb,λw S vs x y hS hx hy=>yM hT Pb hm hf s w S vs x y hS hx (h x y hy)⟩
end
end Go.Proofs.Ytkkdpknjohcekaa
