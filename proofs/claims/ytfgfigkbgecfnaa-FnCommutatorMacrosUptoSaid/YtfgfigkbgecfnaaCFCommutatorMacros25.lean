/-
  Part 26 of the proof that the statement FnCommutatorMacros holds.
-/
import Derived.Test.YtfgfigkbgecfnaaCFCommutatorMacros24
namespace Go.Proofs.Ytfgfigkbgecfnaa
open Go.RowKit
section
variable {P:Program} {T:Tab} {Γ:Env} {X:Ctx} {w w':World} {π:Pi}
def Xh (π:Pi) (l k:Nat):Pi:= λm=>if m=k then π l else if m=l then none else π m
theorem BG {st:St} {l k:Nat} {b:OB} (hk:Ap st.heap k=none) (hl:Ap st.heap l=some b):
  Ap (Li (Vb (st.heap.map λp=>(p.1,p.2.map (Qs l k))) l) k (b.map (Qs l k))) k=some (b.map (Qs l k))/\
  Ap (Li (Vb (st.heap.map λp=>(p.1,p.2.map (Qs l k))) l) k (b.map (Qs l k))) l=none/\
  ∀m,m≠k->m≠l->Ap (Li (Vb (st.heap.map λp=>(p.1,p.2.map (Qs l k))) l) k (b.map (Qs l k))) m=(Ap st.heap m).map (OB.map (Qs l k)):=by
 have Hs:l≠k:= λe=>by subst e;rw [hk] at hl;cases hl
 refine ⟨Mz _ _ _ ?_,?_,λm h1 h2=>?_⟩
 ·rw [Kt _ _ _ Hs.symm,Lr,hk];rfl
 ·rw [Md _ _ _ _ Hs,Ju]
 ·rw [Md _ _ _ _ h1,Kt _ _ _ h2,Lr]
theorem Move.ren {st:St} {l k:Nat} {b:OB} {H':List (Nat×OB)} (hk:Ap st.heap k=none) (hl:Ap st.heap l=some b) (e1:Ap H' k=some (b.map (Qs l k))) (_e2:Ap H' l=none)
  (e3: ∀m,m≠k->m≠l->Ap H' m=(Ap st.heap m).map (OB.map (Qs l k))) (al: ∀c,Qk (Xh π l k) c->Qk π c):Move X w w π (Xh π l k) st.heap H' (Qs l k):=by
 have Hs:l≠k:= λe=>by subst e;rw [hk] at hl;cases hl
 have hc: ∀fr τ cs x,Cells w (Cb X.w0.heap.size X.Sc π fr) τ cs x->Cells w (Cb X.w0.heap.size X.Sc (Xh π l k) fr) τ cs x:=
  fun fr τ cs x h=>Cells.Ep (Ao _) (λ_ _ _=>rfl) (λc _ hA=>hA.imp (al c) id) τ cs x h
 have Vy: ∀m c,Ap st.heap m=some c->Ap H' (js l k m)=some (c.map (Qs l k))/\Xh π l k (js l k m)=π m:=by
  intro m c hm
  unfold js
  by_cases e:m=l
  ·subst e
   rw [hl] at hm;cases hm
   rw [Af rfl]
   exact ⟨e1,by unfold Xh;rw [Af rfl]⟩
  ·have e':m≠k:= λe'=>by subst e';rw [hk] at hm;cases hm
   rw [Aj e]
   exact ⟨by rw [e3 m e' e,hm];rfl,by unfold Xh;rw [Aj e',Aj e]⟩
 refine ⟨λc v h=>?_,hc⟩
 cases c with
 |data fr τ x=>obtain ⟨cs,h1,h2⟩:=h;exact ⟨cs,hc _ _ _ _ h1,h2⟩
 |own m off len=>
  obtain ⟨b',sz,n,h1,h0,h2,h3⟩:=h
  obtain ⟨g1,g2⟩:=Vy m b' h1
  exact ⟨_,sz,n,g1,by cases b'<;>exact h0,h2,by rw [g2];exact h3⟩
 |Ez m i=>
  obtain ⟨r,tid,vs,h1,h2,h3⟩:=h
  obtain ⟨g1,g2⟩:=Vy m _ h1
  exact ⟨r,tid,_,g1,by rw [g2];exact h2,h3⟩
 |Hj m i=>
  obtain ⟨r,b',sz,n,h1,h0,h2,h3,h4⟩:=h
  obtain ⟨g1,g2⟩:=Vy m b' h1
  exact ⟨r,_,sz,n,g1,by cases b'<;>exact h0,h2,by rw [g2];exact h3,h4⟩
 |sub m i c=>
  obtain ⟨r,b,sz,n,h1,h0,h2,h3,h4,h5⟩:=h
  obtain ⟨g1,g2⟩:=Vy m _ h1
  exact ⟨r,_,sz,n,g1,by cases b<;>exact h0,by rw [g2];exact h2,h3,h4,h5⟩
 |Hf m i c=>
  obtain ⟨r,b,n,sz,g,o,len,cap,h1,h0,h2,h3⟩:=h
  obtain ⟨g1,g2⟩:=Vy m _ h1
  exact ⟨r,_,n,sz,g,o,len,cap,g1,by cases b<;>exact h0,by rw [g2];exact h2,h3⟩
 |clo f Cx=>
  obtain ⟨us,h1,h2,h3⟩:=h
  refine ⟨us,h1,by simpa using h2,λj p hp=>?_⟩
  rw [Et] at hp
  cases hq:Cx[j]? with
  |none=>rw [hq] at hp;cases hp
  |some q=>
   rw [hq] at hp
   simp only [Ah,Aa] at hp
   subst hp
   obtain ⟨r,tid,vs,h4,h5,h6⟩:=h3 j q hq
   obtain ⟨g1,g2⟩:=Vy q.1 _ h4
   exact ⟨r,tid,_,g1,by rw [g2];exact h5,h6⟩
 |Hv m=>
  obtain ⟨r,vt,f,h1,h2,h3⟩:=h
  obtain ⟨g1,g2⟩:=Vy m _ h1
  exact ⟨r,vt,f,g1,by rw [g2];exact h2,h3⟩
 |_=>exact h
theorem wC (l k:Nat) {st:St} {a:Act} (h:Rel X st a w):Rel X (st.rename l k) a w:=by
 unfold St.rename
 split
 ·rename_i b hk hl
  split
  ·rename_i hp
   simp only [Ag,Ki] at hp
   obtain ⟨π,h⟩:=h
   have Hs:l≠k:= λe=>by subst e;rw [hk] at hl;cases hl
   obtain ⟨e1,e2,e3⟩:=BG hk hl
   have NS:π k=none:=(h.1.heap k).emp hk
   have un: ∀m r,Xh π l k m=some r-> ∃m',π m'=some r/\js l k m'=m:= λm r hm=>by
    unfold Xh at hm
    split at hm
    ·rename_i e;subst e;exact ⟨l,hm,by unfold js;rw [Af rfl]⟩
    ·rename_i e
     split at hm
     ·cases hm
     ·rename_i e';exact ⟨m,hm,by unfold js;rw [Aj e']⟩
   have m:=Move.ren (X:=X) (w:=w) (π:=π) hk hl e1 e2 e3 λc ⟨j,r,h1,h2⟩=>let ⟨j',h3,_⟩:=un j r h1;⟨j',r,h3,h2⟩
   refine ⟨Xh π l k,⟨h.1.below,h.1.sc,λj r c h1 h2=>?_,λj r c h1 h2=>?_,λj1 j2 r1 r2 c h1 h2 h3 h4=>?_,λj hj LD=>?_,λj=>?_⟩,?_⟩
   ·obtain ⟨j',h3,_⟩:=un j r h1;exact h.1.sub j' r c h3 h2
   ·obtain ⟨j',h3,_⟩:=un j r h1;exact h.1.place j' r c h3 h2
   ·obtain ⟨j1',g1,g2⟩:=un j1 r1 h1
    obtain ⟨j2',g3,g4⟩:=un j2 r2 h2
    rw [<-g2,<-g4,h.1.inj j1' j2' r1 r2 c g1 g3 h3 h4]
   ·have n1:j≠k:= λe=>by omega
    have n2:j≠l:= λe=>by omega
    have PV:Ap st.heap j≠none:= λh0=>LD ((e3 j n1 n2).trans (by rw [h0];rfl))
    have:=h.1.cD j hj PV
    unfold Xh
    rw [Aj n1,Aj n2]
    exact this
   ·by_cases n1:j=k
    ·subst n1
     refine Ei.Ix ?_ e1
     unfold Xh
     rw [Af rfl]
     exact ((h.1.heap l).Ns hl).move m (Ao _) (λr0 c h0 h1=>h.1.sub _ r0 c h0 h1) λ_ _ _ _ _=>rfl
    ·by_cases n2:j=l
     ·subst n2
      exact Ei.Pz (by unfold Xh;rw [Aj n1,Af rfl]) e2
     ·have hr:Xh π l k j=π j:=by unfold Xh;rw [Aj n1,Aj n2]
      have hn:=e3 j n1 n2
      have ho:=h.1.heap j
      cases ia:Ap st.heap j with
      |none=>rw [ia] at hn;exact Ei.Pz (by rw [hr];exact ho.emp ia) hn
      |some c=>
       rw [ia] at hn
       refine Ei.Ix ?_ hn
       rw [hr]
       exact (ho.Ns ia).move m (Ao _) (λr0 c h0 h1=>h.1.sub _ r0 c h0 h1) λ_ _ _ _ _=>rfl
   ·have:lv X w (Xh π l k) {tmps:=st.tmps.map (·.map (Qs l k)),heap:=Li (Vb (st.heap.map λp=>(p.1,p.2.map (Qs l k))) l) k (b.map (Qs l k))} a:=m.wB rfl h.2
    exact this
  ·exact h
 ·exact h
theorem dJ: ∀(n t:Nat) (st:St) (a:Act) (w:World),Rel X st a w->Rel X (Jw n t st) a w
 |0,_,_,_,_,h=>h
 |n+1,t,st,a,w,h=>by
  simp only [Jw]
  refine dJ n (t+1) _ a w ?_
  split
  ·split
   ·split
    ·exact h
    ·exact wC _ _ h
   ·exact h
  ·exact h
theorem ek (f:Nat->OB->OB): ∀(H:List (Nat×OB)) (l:Nat),Ap (H.map λp=>(p.1,f p.1 p.2)) l=(Ap H l).map (f l)
 | [],_=>rfl
 |(k,b)::r,l=>by
  simp only [Bl,Ap]
  split
  ·rename_i e;subst e;rfl
  ·exact ek f r l
theorem OB.uP (x y z:Bool) (b:OB):(b.Gj x y z).row=b.row:=by cases b<;>rfl
def iO (live:List Nat) (l:Nat) (b:OB):OB:=b.Gj (live.contains Ur) (live.contains (uO+l)) (live.contains (ER+l))
theorem Move.Gj (live:List Nat) {H:List (Nat×OB)} :Move X w w π π H (H.map λp=>(p.1,iO live p.1 p.2)) (λc=>c):=by
 refine ⟨λc v h=>?_,λfr τ cs x h=>h⟩
 have Vy: ∀m c,Ap H m=some c->Ap (H.map λp=>(p.1,iO live p.1 p.2)) m=some (iO live m c):= λm c hm=>by rw [ek,hm];rfl
 cases c with
 |own m off len=>
  obtain ⟨b',sz,n,h1,h0,h2,h3⟩:=h
  exact ⟨_,sz,n,Vy m b' h1,by unfold iO;rw [OB.uP];exact h0,h2,h3⟩
 |Ez m i=>
  obtain ⟨r,tid,vs,h1,h2,h3⟩:=h
  exact ⟨r,tid,_,Vy m _ h1,h2,h3⟩
 |Hj m i=>
  obtain ⟨r,b',sz,n,h1,h0,h2,h3,h4⟩:=h
  exact ⟨r,_,sz,n,Vy m b' h1,by unfold iO;rw [OB.uP];exact h0,h2,h3,h4⟩
 |sub m i c=>
  obtain ⟨r,b,sz,n,h1,h0,h2⟩:=h
  exact ⟨r,_,sz,n,Vy m _ h1,by cases b<;>exact h0,h2⟩
 |Hf m i c=>
  obtain ⟨r,b,n,sz,g,o,len,cap,h1,h0,h2⟩:=h
  exact ⟨r,_,n,sz,g,o,len,cap,Vy m _ h1,by cases b<;>exact h0,h2⟩
 |clo f Cx=>
  obtain ⟨us,h1,h2,h3⟩:=h
  refine ⟨us,h1,h2,λj p hp=>?_⟩
  obtain ⟨r,tid,vs,h4,h5,h6⟩:=h3 j p hp
  exact ⟨r,tid,_,Vy p.1 _ h4,h5,h6⟩
 |Hv m=>
  obtain ⟨r,vt,f,h1,h2,h3⟩:=h
  exact ⟨r,vt,f,Vy m _ h1,h2,h3⟩
 |_=>exact h
theorem ES (live:List Nat) {st:St} {a:Act} (h:Rel X st a w):Rel X (st.Gj live) a w:=by
 obtain ⟨π,h⟩:=h
 have m:=Move.Gj (X:=X) (w:=w) (π:=π) live (H:=st.heap)
 refine ⟨π,⟨h.1.below,h.1.sc,h.1.sub,h.1.place,h.1.inj,λj hj Hs=>h.1.cD j hj λh0=>Hs (by show Ap (st.heap.map λp=>(p.1,iO live p.1 p.2)) j=none;rw [ek,h0];rfl),λj=>?_⟩,?_⟩
 ·have hn:Ap (st.Gj live).heap j=(Ap st.heap j).map (iO live j):=ek (iO live) st.heap j
  have ho:=h.1.heap j
  cases ia:Ap st.heap j with
  |none=>rw [ia] at hn;exact Ei.Pz (ho.emp ia) hn
  |some c=>
   rw [ia] at hn
   refine Ei.Ix ?_ hn
   have hb:=(ho.Ns ia).move m (Ao _) (λr0 c h0 h1=>h.1.sub _ r0 c h0 h1) λ_ _ _ _ _=>rfl
   cases c with
   |arr fr tr e tid xs=>
    simp only [OB.map,Bn,Hg,OB.Gj,iO] at hb⊢
    cases hp:π j with
    |none=>rw [hp] at hb;exact hb
    |some r=>
     rw [hp] at hb
     obtain ⟨⟨g1,g2,g3⟩,cur,ti,g4,g5,g6,g7,g8,g9⟩:=hb
     refine ⟨⟨g1,g2,λhf=>g3 (Fg.1 hf).1⟩,cur,ti,g4,g5,g6,g7,λi x hx=>?_,λht=>g9 (Fg.1 ht).1⟩
     obtain ⟨es,k1,k2,k3⟩:=g8 i x hx
     refine ⟨es,k1,k2,Cells.Ep (Ao _) (λ_ _ _=>rfl) (λb _ hA=>?_) e es x k3⟩
     exact hA.imp id (Or.imp id λ⟨h1,h2⟩=>⟨(Fg.1 h1).1,h2⟩)
   |Ev e tid xs=>exact hb
   |Bc e te rows out kp=>exact hb
   |var tid vs=>
    have e:(OB.var tid vs).map (λc=>c)= .var tid vs:=by simp [OB.map]
    rw [e] at hb
    obtain ⟨r',h1,h2,cur,h3,h4,h5⟩:=hb
    refine ⟨r',h1,h2,cur,h3,by rw [h4,Nl],λi c hc=>?_⟩
    rw [Et] at hc
    cases hv:vs[i]? with
    |none=>rw [hv] at hc;cases hc
    |some c0=>
     rw [hv] at hc
     obtain ⟨u,k1,k2,k3⟩:=h5 i c0 hv
     refine ⟨u,k1,k2,?_⟩
     have hc:AC.JS (live.contains Ur) c0=c:=Aw hc
     subst hc
     cases c0 with
     |data fr τ x=>
      show Ck w (Cb X.w0.heap.size X.Sc π (fr&&!(live.contains Ur&&τ.flat))) τ u x
      exact Ck.Gj k3 λb _ hA=>hA.imp id (Or.imp id λ⟨h1,h2⟩=>⟨(Fg.1 h1).1,h2⟩)
     |_=>exact k3
   |Qy v f=>exact hb
 ·exact ⟨h.2.size,h.2.defers,λt=>by have:=m.av (h.2.tmps t);rwa [AC.map_id] at this⟩
theorem ry (t:Nat) {st:St} {a:Act} (h:Rel X st a w):Rel X (Xf t st) a w:=by
 obtain ⟨π,h⟩:=h
 unfold Xf
 split
 ·rename_i l off len hg
  split
  ·rename_i fr tr e tid xs hl
   split
   ·rename_i kQ
    have hv:=h.2.tmps t
    rw [hg] at hv
    obtain ⟨π',h1,h2,_⟩:=mR h (by simpa using kQ) hl hv
    refine ⟨π',h1.1,⟨?_,h1.2.defers,λk=>?_⟩⟩
    ·show a.tmps.size=(Oo _ t _).length
     rw [Uo];exact h1.2.size
    ·show Ba X w π' _ ((Oo _ t _).getD k .undef) _
     rw [Ng]
     split
     ·rename_i hk
      obtain ⟨rfl,_⟩:=hk
      exact h2
     ·exact h1.2.tmps k
   ·exact ⟨π,h⟩
  ·exact ⟨π,h⟩
 ·exact ⟨π,h⟩
theorem Move.MP {H:List (Nat×OB)} {π:Pi} {m:Nat} {tid:TypeId} {vs vs':List AC} (hm:Ap H m=some (.var tid vs)):Move X w w π π H (Ux H m (.var tid vs')) (λc=>c):=by
 have ne: ∀l b,Ap H l=some b->(∀t us,b≠ .var t us)->Ap (Ux H m (.var tid vs')) l=some b:= λl b h hb=>by
  rw [Cu H m l _ (λe=>by subst e;rw [hm] at h;cases h;exact hb _ _ rfl)];exact h
 have va: ∀l t us,Ap H l=some (.var t us)-> ∃t' Qu,Ap (Ux H m (.var tid vs')) l=some (.var t' Qu):= λl t us h=>by
  by_cases e:l=m
  ·subst e;exact ⟨_,_,Dj H l _ _ hm⟩
  ·exact ⟨t,us,by rw [Cu H m l _ e];exact h⟩
 refine ⟨λc v h=>?_,λ_ _ _ _ h=>h⟩
 cases c with
 |own l off len=>obtain ⟨b,sz,n,h1,h2,h3⟩:=h;exact ⟨b,sz,n,ne l b h1 (λt us e=>by subst e;cases h2),h2,h3⟩
 |Ez l i=>obtain ⟨r,t,us,h1,h2⟩:=h;obtain ⟨t',Qu,h3⟩:=va l t us h1;exact ⟨r,t',Qu,h3,h2⟩
 |Hj l i=>obtain ⟨r,b,sz,n,h1,h2,h3⟩:=h;exact ⟨r,b,sz,n,ne l b h1 (λt us e=>by subst e;cases h2),h2,h3⟩
 |sub l i c=>obtain ⟨r,b,sz,n,h1,h2,h3⟩:=h;exact ⟨r,b,sz,n,ne l b h1 (λt us e=>by subst e;cases h2),h2,h3⟩
 |Hf l i j=>obtain ⟨r,b,n,sz,g,o,len,cap,h1,h2,h3⟩:=h;exact ⟨r,b,n,sz,g,o,len,cap,ne l b h1 (λt us e=>by subst e;cases h2),h2,h3⟩
 |clo f Cx=>
  obtain ⟨us,h1,h2,h3⟩:=h
  refine ⟨us,h1,h2,λj p hp=>?_⟩
  obtain ⟨r,t,ws,h4,h5⟩:=h3 j p hp
  obtain ⟨t',Qu,h6⟩:=va p.1 t ws h4
  exact ⟨r,t',Qu,h6,h5⟩
 |Hv l=>obtain ⟨r,vt,f,h1,h2⟩:=h;exact ⟨r,vt,f,ne l _ h1 (λt us e=>by cases e),h2⟩
 |_=>exact h
theorem uj {π:Pi} {st:St} {a:Act} (h:Ax X π st a w) {m:Nat} {tid:TypeId} {vs:List AC} (hm:Ap st.heap m=some (.var tid vs)) {c:Nat} {x:AC}
  (hx: ∀r cur u,π m=some r->w.heap[r.g]?=some (.cells cur tid (0,0))->cur.toList[c]?=some u->Fe X w π st.heap x u):Ax X π (st.He m (.var tid (vs.set c x))) a w:=by
 have mv:=Move.MP (X:=X) (w:=w) (π:=π) (vs':=vs.set c x) hm
 refine ⟨⟨h.1.below,h.1.sc,h.1.sub,h.1.place,h.1.inj,λj hj Hs=>h.1.cD j hj λh0=>Hs ?_,λj=>?_⟩,?_⟩
 ·show Ap (Ux st.heap m _) j=none
  rw [Cu _ _ _ _ (λe=>by subst e;rw [hm] at h0;cases h0)];exact h0
 ·have ho:=h.1.heap j
  by_cases e:j=m
  ·subst e
   refine Ei.Ix (b:= .var tid (vs.set c x)) ?_ (Dj st.heap j _ _ hm)
   obtain ⟨r,h1,h2,cur,h3,h4⟩:=ho.Ns hm
   refine ⟨r,h1,h2,cur,h3,?_⟩
   obtain ⟨h5,h6⟩:=h4
   refine ⟨by rw [Eh];exact h5,λi d hd=>?_⟩
   rw [Dg] at hd
   split at hd
   ·rename_i hci
    subst hci
    split at hd
    ·rename_i Im
     cases hd
     obtain ⟨u,g1,g2,_⟩:=h6 c vs[c] (Ac Im)
     exact ⟨u,g1,g2,mv.ac _ _ (hx r cur u h1 h3 g1)⟩
    ·cases hd
   ·obtain ⟨u,g1,g2,g3⟩:=h6 i d hd
    exact ⟨u,g1,g2,mv.ac _ _ g3⟩
  ·have hn:Ap (st.He m (.var tid (vs.set c x))).heap j=Ap st.heap j:=Cu _ _ _ _ e
   cases hg:Ap st.heap j with
   |none=>exact Ei.Pz (ho.emp hg) (hn.trans hg)
   |some b=>
    have hb:=(ho.Ns hg).move mv (Ao _) (λr0 c h0 h1=>h.1.sub _ r0 c h0 h1) λ_ _ _ _ _=>rfl
    refine Ei.Ix ?_ (hn.trans hg)
    have eid:b.map (λc=>c)=b:=by cases b<;>simp [OB.map]
    rw [eid] at hb
    exact hb
 ·exact ⟨h.2.size,h.2.defers,λt=>by have:=mv.av (h.2.tmps t);rwa [AC.map_id] at this⟩
theorem jr (c:Nat) {st:St} {a:Act} (h:Rel X st a w):Rel X (Mm c st) a w:=by
 obtain ⟨π,h⟩:=h
 unfold Mm
 split
 ·rename_i Adk vs hm
  split
  ·rename_i l off len hc
   split
   ·rename_i fr tr e te xs hl
    split
    ·rename_i kQ
     split
     ·rename_i tid vs' PR
      have hlv:Lz≠l:= λe=>by subst e;rw [hm] at hl;cases hl
      obtain ⟨r,h1,h2,cur,h3,h4,h5⟩:=(h.1.heap Lz).Ns hm
      obtain ⟨u,g1,g2,g3⟩:=h5 c _ hc
      obtain ⟨π',k1,k2,k3⟩:=mR h (by simpa using kQ) hl g3
      refine ⟨π',uj k1 PR λr' Ut u' q1 q2 q3=>?_⟩
      rw [k3 Lz hlv,h1] at q1
      cases q1
      rw [h3] at q2
      cases q2
      rw [g1] at q3
      cases q3
      exact k2
     ·exact ⟨π,h⟩
    ·exact ⟨π,h⟩
   ·exact ⟨π,h⟩
  ·exact ⟨π,h⟩
 ·exact ⟨π,h⟩
theorem cb (live:List Nat): ∀(n c:Nat) (st:St) (a:Act) (w:World),Rel X st a w->Rel X (Mg live n c st) a w
 |0,_,_,_,_,h=>h
 |n+1,c,st,a,w,h=>by
  simp only [Mg]
  refine cb live n (c+1) _ a w ?_
  split
  ·exact jr c h
  ·exact h
theorem fj (live:List Nat): ∀(n t:Nat) (st:St) (a:Act) (w:World),Rel X st a w->Rel X (Lx live n t st) a w
 |0,_,st,a,w,h=>cb live 16 0 st a w h
 |n+1,t,st,a,w,h=>by
  simp only [Lx]
  refine fj live n (t+1) _ a w ?_
  split
  ·exact ry t h
  ·exact h
theorem yh (live:List Nat) {st:St} {a:Act} (h:Rel X st a w):Rel X (st.clean live) a w:=by
 obtain ⟨π,h⟩:=h
 have CI: ∀s:St,Rel X s a w->Rel X (if live.any (λt=>Nat.ble Ur t) then s.Gj live else s) a w:=by
  intro s hs
  split
  ·exact ES live hs
  ·exact hs
 have key: ∀s:St,Rel X s a w->Rel X (if live.contains Ys then Jw s.tmps.length 0 s else s) a w:=by
  intro s hs
  split
  ·exact dJ _ _ _ a w hs
  ·exact hs
 have CJ: ∀s:St,Rel X s a w->Rel X (if live.any (λt=>Nat.ble Xg t&&Nat.blt t Ys) then Lx live s.tmps.length 0 s else s) a w:=by
  intro s hs
  split
  ·exact fj _ _ _ _ a w hs
  ·exact hs
 unfold St.clean
 refine CI _ (key _ (CJ _ (Zc _ _ a w ⟨π,h.1,⟨by simp [Sk,h.2.size],h.2.defers,λt=>?_⟩⟩)))
 show Ba X w π st.heap ((Fy live 0 st.tmps).getD t .undef) _
 rcases Wr live 0 st.tmps t with e|e
 ·rw [e];trivial
 ·rw [e];exact h.2.tmps t
def KF:Iu->Exit
 | .normal=> .normal
 | .exit id=> .exit id
 | .ret=> .ret
def lu (P:Program) (c:Code) (Q:Exit->Act->World->Prop) (a:Act) (w:World):Prop:=
 ∀(b:Frame) (k:List Item) (cs:List Frame),∃e a' w',Q e a' w'/\Arrives P (lone (b.at a (.code c:: .inLoop c::k)) cs w) b k cs e a' w'
theorem tM {c:Code} {Q:Exit->Act->World->Prop} {a:Act} {w:World} (h:c.wp P (Exit.then (lu P c Q) Q) a w):lu P c Q a w:=by
 intro b k cs
 obtain ⟨e,AN,EU,hq,tb⟩:=h b (.inLoop c::k) cs
 cases e with
 |normal=>
  obtain ⟨UM,UG,YH,QK,FW⟩:=hq b k cs
  exact ⟨UM,UG,YH,QK, .of_steps (Steps.trans tb (.one step_inLoop)) FW⟩
 |exit id=>exact ⟨_,AN,EU,hq, .pass (x:= .inLoop c) rfl (λ_ _=> .inl (by simp)) tb⟩
 |goto l=>exact ⟨_,AN,EU,hq, .pass (x:= .inLoop c) rfl (λ_ _=> .inl (by simp)) tb⟩
 |ret=>exact ⟨_,AN,EU,hq, .pass (x:= .inLoop c) rfl (λ_ _=> .inl (by simp)) tb⟩
 |panic ch=>exact ⟨_,AN,EU,hq, .pass (x:= .inLoop c) rfl (λ_ _=> .inl (by simp)) tb⟩
 |outgrown=>exact ⟨_,AN,EU,hq, .pass (x:= .inLoop c) rfl (λ_ _=> .inl (by simp)) tb⟩
theorem zQ {c:Code} {Q:Exit->Act->World->Prop} {a:Act} {w:World} (h:lu P c Q a w):(Code.loop c).wp P Q a w:=by
 intro b k cs
 obtain ⟨e,a',w',hq,tb⟩:=h b k cs
 exact ⟨e,a',w',hq, .of_steps (.one step_loop) tb⟩
theorem bU (ops:Array Oper): ∀(i:Nat) (l:List AV),(Lp ops i l).length=l.length
 |_,[]=>rfl
 |i,v::r=>by cases v<;>simp [Lp,bU ops (i+1) r]
theorem eO (ops:Array Oper): ∀(i:Nat) (l:List AV) (t:Nat),(Lp ops i l).getD t .undef= .undef\/(Lp ops i l).getD t .undef=l.getD t .undef
 |_,[],_=> .inr rfl
 |i,v::r,0=>by
  cases v with
  |Jy l=>
   simp only [Lp,bO]
   split
   ·exact .inr rfl
   ·exact .inl rfl
  |_=>exact .inr rfl
 |i,v::r,t+1=>by
  have h:=eO ops (i+1) r t
  cases v<;>(simp only [Lp,Kn];exact h)
theorem sO (ops:Array Oper) {st:St} {a:Act} (h:Rel X st a w):Rel X (st.gK ops) a w:=by
 obtain ⟨π,h⟩:=h
 refine ⟨π,h.1,⟨by show a.tmps.size=(Lp ops 0 st.tmps).length;rw [bU];exact h.2.size,h.2.defers,λt=>?_⟩⟩
 show Ba X w π st.heap ((Lp ops 0 st.tmps).getD t .undef) _
 rcases eO ops 0 st.tmps t with e|e
 ·rw [e];trivial
 ·rw [e];exact h.2.tmps t
theorem mX (hT:De P T) (Ls:Ib P Γ) (hm:P.follows .mixedOrders=true) {live:Nat->List Nat} {c:Code} {st:St} {K:Iu->St->Prop} (hr:Lh T Γ live c st K):
  ∀(a:Act) (w:World) (Q:Exit->Act->World->Prop),Rel X st a w->(∀e st' a' w',K e st'->Rel X st' a' w'->Q (KF e) a' w')->c.wp P Q a w/\ ∀c',c= .loop c'->lu P c' Q a w:=by
 induction hr with
 |skip hk=>exact λa w Q h hQ=>⟨wp_skip (hQ .normal _ _ _ hk h),λc' e=>by cases e⟩
 |label hk=>exact λa w Q h hQ=>⟨wp_label (hQ .normal _ _ _ hk h),λc' e=>by cases e⟩
 |exit hk=>exact λa w Q h hQ=>⟨wp_exit (hQ (.exit _) _ _ _ hk h),λc' e=>by cases e⟩
 |ret hk=>exact λa w Q h hQ=>⟨wp_ret (hQ .ret _ _ _ hk h),λc' e=>by cases e⟩
 |region hk=>exact λa w Q h hQ=>⟨wA hT (Ls.reg _) hm (sO _ h) hk λst' a' w' h1 h2=>hQ .normal _ _ _ h1 h2,λc' e=>by cases e⟩
 |seq Q1 _ _ h3 yF tt=>
  intro a w Q h hQ
  refine ⟨wp_seq ((yF a w _ h λe st' a' w' hk h'=>?_).1),λc' e=>by cases e⟩
  cases e with
  |normal=>exact (tt st' hk a' w' Q h' hQ).1
  |exit id=>exact hQ (.exit id) _ _ _ (h3 _ _ (by simp) hk) h'
  |ret=>exact hQ .ret _ _ _ (h3 _ _ (by simp) hk) h'
 |cond hc _ _ yF tt=>
  intro a w Q h hQ
  refine ⟨?_,λc' e=>by cases e⟩
  obtain ⟨π,h'⟩:=h
  rename_i c x y st fr t Q0 _ _
  have hr:=Co h'.2 c
  rw [hc] at hr
  refine wp_cond (Un hr) ?_
  cases t with
  |true=>exact (yF rfl a w Q ⟨π,h'⟩ hQ).1
  |false=>exact (tt rfl a w Q ⟨π,h'⟩ hQ).1
 |block Q1 _ h2 ih=>
  intro a w Q h hQ
  rename_i id c st Q0 _
  refine ⟨wp_block ((ih a w _ h λe st' a' w' hk h'=>?_).1),λc' e=>by cases e⟩
  have h3:=h2 e st' hk
  cases e with
  |normal=>exact hQ .normal _ _ _ h3 h'
  |ret=>exact hQ .ret _ _ _ h3 h'
  |exit yE=>
   show (if yE=id then Q .normal a' w' else Q (.exit yE) a' w')
   simp only [pb] at h3
   by_cases GB:yE=id
   ·rw [Af GB] at h3⊢;exact hQ .normal _ _ _ h3 h'
   ·rw [Aj GB] at h3⊢;exact hQ (.exit yE) _ _ _ h3 h'
 |loop Q1 _ _ h3 yF tt=>
  intro a w Q h hQ
  rename_i c st Q0 _ _
  have key:lu P c Q a w:=by
   refine tM ((yF a w _ (yh _ h) λe st' a' w' hk h'=>?_).1)
   cases e with
   |normal=>exact (tt st' hk a' w' Q h' hQ).2 c rfl
   |exit id=>exact hQ (.exit id) _ _ _ (h3 _ _ (by simp) hk) h'
   |ret=>exact hQ .ret _ _ _ (h3 _ _ (by simp) hk) h'
  exact ⟨zQ key,λc' e=>by cases e;exact key⟩
def wE (tmps:Array Value):ResultVar->Sem Value
 | .tmp t=>pure (tmps.getD t undef)
 | .cell p t=>do loadVar t (<-asAddr (tmps.getD p undef))
theorem bx (fn:Func) (tmps:Array Value):results fn tmps=(do
  let vs<-fn.results.mapM (wE tmps)
  pure (if h:vs.size=1 then vs[0] else .tuple vs)):=by
 rfl
theorem xL {α:Type} {l:List α} (h:l.length=2): ∃a b,l= [a,b]:=by
 rcases l with _|⟨a,_|⟨b,_|⟨c,r⟩⟩⟩<;>simp at h
 exact ⟨a,b,rfl⟩
theorem pk {α:Type} {l:List α} (h:l.length=3): ∃a b c,l= [a,b,c]:=by
 rcases l with _|⟨a,_|⟨b,_|⟨c,_|⟨d,r⟩⟩⟩⟩<;>simp at h
 exact ⟨a,b,c,rfl⟩
theorem tJ {t:TypeId} {v u:Value} (h:(Instr.loadAt t v).run P w= .ok u w):(do loadVar t (<-asAddr v):Sem Value).run P w= .ok u w:=by
 unfold Instr.loadAt at h
 cases v with
 |pointer a=>
  cases a with
  |some a=>simpa [Instr.sureAddr,asAddr] using h
  |none=>simp [Instr.sureAddr,Result.andThen] at h
 |_=>simp [Instr.sureAddr,Result.andThen] at h
theorem Ta (hT:De P T) {st:St} {a:Act} (h:Ax X π st a w): ∀(rs:List ResultVar) (l:List AV),Zh T st rs=some l->
  ∃vs:List Value,vs.length=rs.length/\l.length=rs.length/\(∀(i:Nat) r v,rs[i]?=some r->vs[i]?=some v->(wE a.tmps r).run P w= .ok v w)/\(∀(i:Nat) c v,l[i]?=some c->vs[i]?=some v->Ba X w π st.heap c v)
 | [],l,he=>by
  simp only [Zh,Aa] at he;subst he
  exact ⟨[],rfl,rfl,λi r v hr=>by simp at hr,λi c v hc=>by simp at hc⟩
 | .tmp t::r,l,he=>by
  simp only [Zh] at he
  cases hr:Zh T st r with
  |none=>rw [hr] at he;cases he
  |some l'=>
   rw [hr] at he
   simp only [Ah,Aa] at he;subst he
   obtain ⟨vs,h1,h2,h3,h4⟩:=Ta hT h r l' hr
   refine ⟨a.tmps.getD t undef::vs,by simp [h1],by simp [h2],λi r' v eH hv=>?_,λi c v hc hv=>?_⟩
   ·rcases i with _|i
    ·rw [Bd,Aa] at eH hv;subst eH;subst hv;rfl
    ·exact h3 i r' v (by simpa using eH) (by simpa using hv)
   ·rcases i with _|i
    ·rw [Bd,Aa] at hc hv;subst hc;subst hv;exact h.2.tmps t
    ·exact h4 i c v (by simpa using hc) (by simpa using hv)
 | .cell p t::r,l,he=>by
  simp only [Zh] at he
  split at he
  ·rename_i c0 l' KY hr
   simp only [Aa] at he;subst he
   obtain ⟨u,hu,hru⟩:=gR hT h t _ _ c0 (h.2.tmps p) KY
   obtain ⟨vs,h1,h2,h3,h4⟩:=Ta hT h r l' hr
   refine ⟨u::vs,by simp [h1],by simp [h2],λi r' v eH hv=>?_,λi c v hc hv=>?_⟩
   ·rcases i with _|i
    ·simp at eH hv;subst eH;subst hv;exact tJ hu
    ·exact h3 i r' v (by simpa using eH) (by simpa using hv)
   ·rcases i with _|i
    ·simp at hc hv;subst hc;subst hv;exact hru
    ·exact h4 i c v (by simpa using hc) (by simpa using hv)
  ·cases he
theorem sS (hT:De P T) {st:St} {a:Act} (h:Ax X π st a w) (s:Spec) (fn:Func) (fr:Bool) (y:s.res.den) (he:gV T s fn st=some (fr,y)) {S:Nat->Prop} (hS:Nk X S fr):
  ∃v,(results fn a.tmps).run P w= .ok v w/\fG s w S v y:=by
 have GK:fn.results=fn.results.toList.toArray:=Array.toArray_toList.symm
 unfold gV at he
 split at he
 ·rename_i c hl
  obtain ⟨vs,h1,h2,h3,h4⟩:=Ta hT h _ _ hl
  split at he
  ·cases he
  ·rename_i hm
   have hlen:fn.results.toList.length=1:=by rw [<-h2];rfl
   obtain ⟨r,hr⟩:=Cv.1 hlen
   rw [hlen] at h1
   obtain ⟨v,rfl⟩:=Cv.1 h1
   have e0:=h3 0 r v (by rw [hr];rfl) rfl
   refine ⟨v,?_,?_⟩
   ·rw [bx,GK,hr]
    simp [e0]
   ·unfold fG
    rw [Aj hm]
    exact Tl h.1 s.res c v fr y (h4 0 c v rfl rfl) he hS
 ·rename_i c d hl
  obtain ⟨vs,h1,h2,h3,h4⟩:=Ta hT h _ _ hl
  split at he
  ·rename_i hm
   have hlen:fn.results.toList.length=2:=by rw [<-h2];rfl
   obtain ⟨r1,r2,hr⟩:=xL hlen
   rw [hlen] at h1
   obtain ⟨v1,v2,rfl⟩:=xL h1
   have e0:=h3 0 r1 v1 (by rw [hr];rfl) rfl
   have e1:=h3 1 r2 v2 (by rw [hr];rfl) rfl
   refine ⟨.tuple #[v1,v2],?_,?_⟩
   ·rw [bx,GK,hr]
    simp [e0,e1]
   ·unfold fG
    rw [Af hm]
    exact ⟨[v1,v2],rfl,Vu h.1 s.res _ _ fr y rfl h4 he hS⟩
  ·cases he
 ·rename_i c d d' hl
  obtain ⟨vs,h1,h2,h3,h4⟩:=Ta hT h _ _ hl
  split at he
  ·rename_i hm
   have hlen:fn.results.toList.length=3:=by rw [<-h2];rfl
   obtain ⟨r1,r2,r3,hr⟩:=pk hlen
   rw [hlen] at h1
   obtain ⟨v1,v2,v3,rfl⟩:=pk h1
   have e0:=h3 0 r1 v1 (by rw [hr];rfl) rfl
   have e1:=h3 1 r2 v2 (by rw [hr];rfl) rfl
   have e2:=h3 2 r3 v3 (by rw [hr];rfl) rfl
   refine ⟨.tuple #[v1,v2,v3],?_,?_⟩
   ·rw [bx,GK,hr]
    simp [e0,e1,e2]
   ·unfold fG
    rw [Af hm]
    exact ⟨[v1,v2,v3],rfl,Vu h.1 s.res _ _ fr y rfl h4 he hS⟩
  ·cases he
 ·cases he
theorem lJ {S:Nat->Prop} : ∀(τ:Ty) (vs:List Value) (x:τ.den),Bv w S τ vs x->
  (Oy τ x).length=vs.length/\ ∀i,Ba ⟨w,S,λ_=>False,λ_=>none⟩ w (λ_=>none) [] ((Oy τ x).getD i .undef) (vs.getD i undef)
 | .pair a r,[],x,h=>h.elim
 | .pair a r,v::vs,x,h=>by
  obtain ⟨h1,h2⟩:=lJ r vs x.2 h.2
  refine ⟨by simp [Oy,h1],λi=>?_⟩
  rcases i with _|i
  ·simp only [Oy,bO]
   cases hf:a.flat with
   |true=>exact Ck.flat hf h.1
   |false=>
    exact Ck.Gj h.1 λk _ hk=>by
     rcases hk with ⟨l,r,hl,_⟩|hk|⟨hk,_⟩
     ·cases hl
     ·exact hk
     ·cases hk
  ·simpa [Oy] using h2 i
 | .unit,[],_,_=>⟨rfl,λi=>by simp [Oy];trivial⟩
 | .unit,_::_,_,h=>h.elim
 | .int _,_,_,h=>by simp [Bv] at h
 | .bool,_,_,h=>by simp [Bv] at h
 | .str,_,_,h=>by simp [Bv] at h
 | .slice _,_,_,h=>by simp [Bv] at h
 | .ptr _,_,_,h=>by simp [Bv] at h
 | .oslice _,_,_,h=>by simp [Bv] at h
 | .optr _,_,_,h=>by simp [Bv] at h
 | .smap _,_,_,h=>by simp [Bv] at h
 | .clo _ _,_,_,h=>by simp [Bv] at h
theorem qj (hT:De P T) (Ls:Ib P Γ) (hm:P.follows .mixedOrders=true) {f:FuncId} {fn:Func} (hf:P.funcs[f]?=some fn) (s:Spec) (w:World) (S:Nat->Prop) (vs:List Value) (x:s.arg.den) (y:s.res.den)
  (hS: ∀k,S k->k<w.heap.size) (hx:Bv w S s.arg vs x) (he:AG T Γ s fn x λz=>z=y):
  Calls P f vs.toArray w λe w'=> ∃v,e= .returned v/\Below w.heap.size w w'/\fG s w' (λb=>S b\/(s.fresh=true/\b<w.heap.size)) v y:=by
 obtain ⟨c,hb,he⟩:=he
 skip
 ·obtain ⟨hl,No⟩:=lJ (w:=w) s.arg vs x hx
  have h0:Rel ⟨w,S,λ_=>False,λ_=>none⟩ {tmps:=Oy s.arg x++List.replicate (fn.ntmps-(Oy s.arg x).length) .undef,heap:= []} {tmps:=vs.toArray++Array.replicate (fn.ntmps-vs.toArray.size) undef,defers:= []} w:=by
   refine ⟨λ_=>none,⟨Gw.refl _ _ _,λb hb=>⟨hS b hb,λh=>h⟩,(λ_ _ _ h=>by cases h),(λ_ _ _ h=>by cases h),(λ_ _ _ _ _ h=>by cases h),λl _ hn=>absurd rfl hn,λl=>rfl⟩,⟨by simp [hl],rfl,λt=>?_⟩⟩
   have h1:=No t
   show Ba _ w _ [] ((Oy s.arg x++List.replicate _ AV.undef).getD t .undef) ((vs.toArray++Array.replicate _ undef).getD t undef)
   by_cases ht:t<vs.length
   ·rw [An,Am (by omega),<-An]
    rw [Xr,Hk (by simpa using ht)]
    simpa [An] using h1
   ·have:(Oy s.arg x++List.replicate (fn.ntmps-(Oy s.arg x).length) AV.undef).getD t .undef= .undef:=by
     rw [An,Al (by omega)]
     rw [List.getElem?_replicate]
     split<;>rfl
    rw [this];trivial
  refine calls_of_wp hf hb ?_
  refine (mX hT Ls hm he _ w _ h0 λe st a' w' ⟨Hs,fr,y',kT,tf,hy⟩ ⟨π,h'⟩=>?_).1
  subst hy
  have QF:=sS hT h' s fn fr y' kT (S:= λb=>S b\/(s.fresh=true/\b<w.heap.size)) ⟨λk hk=>⟨by rcases hk with hk|hk;exact hS k hk;exact hk.2,λh=>h⟩,by
   simp only [Ja,Ds] at tf
   rcases tf with h|h
   ·exact .inl h
   ·right;intro k hk;rcases hk with hk|⟨hk,_⟩
    ·exact hk
    ·rw [h] at hk;cases hk⟩
  obtain ⟨v,hv,hr⟩:=QF
  cases e with
  |normal=>exact ⟨h'.2.defers,v,hv,v,rfl,h'.1.below.plain,hr⟩
  |ret=>exact ⟨h'.2.defers,v,hv,v,rfl,h'.1.below.plain,hr⟩
  |exit id=>exact absurd rfl (Hs id)
theorem Wp {f:FuncId} {fn:Func} (hf:P.funcs[f]?=some fn) (hn:(fn.name== "runtime.NumGoroutine")=false) (hb:fn.body.isNone=false) (args:Array Value) (w:World):
  (callFunc f args).run P w= .ok (.enter f args) w:=by
 unfold callFunc
 simp only [Sem.run_bind,run_program,Result.andThen_ok,hf,hn,hb,Ci,Pk,Sem.run_pure]
theorem DX (hT:De P T) (Ls:Ib P Γ) (hm:P.follows .mixedOrders=true) {f:FuncId} {fn:Func} (hf:P.funcs[f]?=some fn) (hn:(fn.name== "runtime.NumGoroutine")=false) (hb:fn.body.isNone=false) (s:Spec)
  (h: ∀x y,s.fn x=some y->AG T Γ s fn x λz=>z=y):Sound P f s:=
 ⟨Wp hf hn hb,λw S vs x y hS hx hy=>qj hT Ls hm hf s w S vs x y hS hx (h x y hy)⟩
end
end Go.Proofs.Ytfgfigkbgecfnaa
