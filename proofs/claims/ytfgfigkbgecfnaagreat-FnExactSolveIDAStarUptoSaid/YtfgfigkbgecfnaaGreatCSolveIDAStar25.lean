/-
  Part 26 of the proof that the statement FnExactSolveIDAStar holds.
-/
import Derived.Test.YtfgfigkbgecfnaaGreatCSolveIDAStar24
namespace Go.Proofs.YtfgfigkbgecfnaaGreat
open Go.RowKit
section
variable {P:Program} {T:Tab} {Γ:Env} {X:Ctx} {w w':World} {π:Pi}
def cM (π:Pi) (l k:Nat):Pi:= λm=>if m=k then π l else if m=l then none else π m
theorem Acj {st:St} {l k:Nat} {b:OB} (hk:Au st.heap k=none) (hl:Au st.heap l=some b):
  Au (Ou (bl (st.heap.map λp=>(p.1,p.2.map (We l k))) l) k (b.map (We l k))) k=some (b.map (We l k))/\
  Au (Ou (bl (st.heap.map λp=>(p.1,p.2.map (We l k))) l) k (b.map (We l k))) l=none/\
  ∀m,m≠k->m≠l->Au (Ou (bl (st.heap.map λp=>(p.1,p.2.map (We l k))) l) k (b.map (We l k))) m=(Au st.heap m).map (OB.map (We l k)):=by
 have Ih:l≠k:= λe=>by subst e;rw [hk] at hl;cases hl
 refine ⟨Rc _ _ _ ?_,?_,λm h1 h2=>?_⟩
 ·rw [Nz _ _ _ Ih.symm,Pg,hk];rfl
 ·rw [Pu _ _ _ _ Ih,Ms]
 ·rw [Pu _ _ _ _ h1,Nz _ _ _ h2,Pg]
theorem Move.ren {st:St} {l k:Nat} {b:OB} {H':List (Nat×OB)} (hk:Au st.heap k=none) (hl:Au st.heap l=some b) (e1:Au H' k=some (b.map (We l k))) (_e2:Au H' l=none)
  (e3: ∀m,m≠k->m≠l->Au H' m=(Au st.heap m).map (OB.map (We l k))) (aB: ∀c,Ux (cM π l k) c->Ux π c):Move X w w π (cM π l k) st.heap H' (We l k):=by
 have Ih:l≠k:= λe=>by subst e;rw [hk] at hl;cases hl
 have hc: ∀fr τ cs x,Cells w (Dd X.w0.heap.size X.Sc π fr) τ cs x->Cells w (Dd X.w0.heap.size X.Sc (cM π l k) fr) τ cs x:=
  fun fr τ cs x h=>Cells.Fg (Ao _) (λ_ _ _=>rfl) (λc _ hA=>hA.imp (aB c) id) τ cs x h
 have bj: ∀m c,Au st.heap m=some c->Au H' (qP l k m)=some (c.map (We l k))/\cM π l k (qP l k m)=π m:=by
  intro m c hm
  unfold qP
  by_cases e:m=l
  ·subst e
   rw [hl] at hm;cases hm
   rw [Ab rfl]
   exact ⟨e1,by unfold cM;rw [Ab rfl]⟩
  ·have e':m≠k:= λe'=>by subst e';rw [hk] at hm;cases hm
   rw [Ag e]
   exact ⟨by rw [e3 m e' e,hm];rfl,by unfold cM;rw [Ag e',Ag e]⟩
 refine ⟨λc v h=>?_,hc⟩
 cases c with
 |data fr τ x=>obtain ⟨cs,h1,h2⟩:=h;exact ⟨cs,hc _ _ _ _ h1,h2⟩
 |own m off len=>
  obtain ⟨b',sz,n,h1,h0,h2,h3⟩:=h
  obtain ⟨g1,g2⟩:=bj m b' h1
  exact ⟨_,sz,n,g1,by cases b'<;>exact h0,h2,by rw [g2];exact h3⟩
 |Gy m i=>
  obtain ⟨r,tid,vs,h1,h2,h3⟩:=h
  obtain ⟨g1,g2⟩:=bj m _ h1
  exact ⟨r,tid,_,g1,by rw [g2];exact h2,h3⟩
 |Kh m i=>
  obtain ⟨r,b',sz,n,h1,h0,h2,h3,h4⟩:=h
  obtain ⟨g1,g2⟩:=bj m b' h1
  exact ⟨r,_,sz,n,g1,by cases b'<;>exact h0,h2,by rw [g2];exact h3,h4⟩
 |sub m i c=>
  obtain ⟨r,b,sz,n,h1,h0,h2,h3,h4,h5⟩:=h
  obtain ⟨g1,g2⟩:=bj m _ h1
  exact ⟨r,_,sz,n,g1,by cases b<;>exact h0,by rw [g2];exact h2,h3,h4,h5⟩
 |Kd m i c=>
  obtain ⟨r,b,n,sz,g,o,len,cap,h1,h0,h2,h3⟩:=h
  obtain ⟨g1,g2⟩:=bj m _ h1
  exact ⟨r,_,n,sz,g,o,len,cap,g1,by cases b<;>exact h0,by rw [g2];exact h2,h3⟩
 |clo f Eg=>
  obtain ⟨us,h1,h2,h3⟩:=h
  refine ⟨us,h1,by simpa using h2,λj p hp=>?_⟩
  rw [Fm] at hp
  cases hq:Eg[j]? with
  |none=>rw [hq] at hp;cases hp
  |some q=>
   rw [hq] at hp
   simp only [Am,Aa] at hp
   subst hp
   obtain ⟨r,tid,vs,h4,h5,h6⟩:=h3 j q hq
   obtain ⟨g1,g2⟩:=bj q.1 _ h4
   exact ⟨r,tid,_,g1,by rw [g2];exact h5,h6⟩
 |Kr m=>
  obtain ⟨r,vt,f,h1,h2,h3⟩:=h
  obtain ⟨g1,g2⟩:=bj m _ h1
  exact ⟨r,vt,f,g1,by rw [g2];exact h2,h3⟩
 |_=>exact h
theorem nB (l k:Nat) {st:St} {a:Act} (h:Rel X st a w):Rel X (st.rename l k) a w:=by
 unfold St.rename
 split
 ·rename_i b hk hl
  split
  ·rename_i hp
   simp only [Af,Nm] at hp
   obtain ⟨π,h⟩:=h
   have Ih:l≠k:= λe=>by subst e;rw [hk] at hl;cases hl
   obtain ⟨e1,e2,e3⟩:=Acj hk hl
   have hpk:π k=none:=(h.1.heap k).emp hk
   have un: ∀m r,cM π l k m=some r-> ∃m',π m'=some r/\qP l k m'=m:= λm r hm=>by
    unfold cM at hm
    split at hm
    ·rename_i e;subst e;exact ⟨l,hm,by unfold qP;rw [Ab rfl]⟩
    ·rename_i e
     split at hm
     ·cases hm
     ·rename_i e';exact ⟨m,hm,by unfold qP;rw [Ag e']⟩
   have m:=Move.ren (X:=X) (w:=w) (π:=π) hk hl e1 e2 e3 λc ⟨j,r,h1,h2⟩=>let ⟨j',h3,_⟩:=un j r h1;⟨j',r,h3,h2⟩
   refine ⟨cM π l k,⟨h.1.below,h.1.sc,λj r c h1 h2=>?_,λj r c h1 h2=>?_,λj1 j2 r1 r2 c h1 h2 h3 h4=>?_,λj hj Am9=>?_,λj=>?_⟩,?_⟩
   ·obtain ⟨j',h3,_⟩:=un j r h1;exact h.1.sub j' r c h3 h2
   ·obtain ⟨j',h3,_⟩:=un j r h1;exact h.1.place j' r c h3 h2
   ·obtain ⟨j1',g1,g2⟩:=un j1 r1 h1
    obtain ⟨j2',g3,g4⟩:=un j2 r2 h2
    rw [<-g2,<-g4,h.1.inj j1' j2' r1 r2 c g1 g3 h3 h4]
   ·have n1:j≠k:= λe=>by omega
    have n2:j≠l:= λe=>by omega
    have Aqe:Au st.heap j≠none:= λh0=>Am9 ((e3 j n1 n2).trans (by rw [h0];rfl))
    have:=h.1.iY j hj Aqe
    unfold cM
    rw [Ag n1,Ag n2]
    exact this
   ·by_cases n1:j=k
    ·subst n1
     refine Gk.Lu ?_ e1
     unfold cM
     rw [Ab rfl]
     exact ((h.1.heap l).Qs hl).move m (Ao _) (λr0 c h0 h1=>h.1.sub _ r0 c h0 h1) λ_ _ _ _ _=>rfl
    ·by_cases n2:j=l
     ·subst n2
      exact Gk.Vc (by unfold cM;rw [Ag n1,Ab rfl]) e2
     ·have hr:cM π l k j=π j:=by unfold cM;rw [Ag n1,Ag n2]
      have hn:=e3 j n1 n2
      have ho:=h.1.heap j
      cases l5:Au st.heap j with
      |none=>rw [l5] at hn;exact Gk.Vc (by rw [hr];exact ho.emp l5) hn
      |some c=>
       rw [l5] at hn
       refine Gk.Lu ?_ hn
       rw [hr]
       exact (ho.Qs l5).move m (Ao _) (λr0 c h0 h1=>h.1.sub _ r0 c h0 h1) λ_ _ _ _ _=>rfl
   ·have:um X w (cM π l k) {tmps:=st.tmps.map (·.map (We l k)),heap:=Ou (bl (st.heap.map λp=>(p.1,p.2.map (We l k))) l) k (b.map (We l k))} a:=m.SG rfl h.2
    exact this
  ·exact h
 ·exact h
theorem kd: ∀(n t:Nat) (st:St) (a:Act) (w:World),Rel X st a w->Rel X (Mw n t st) a w
 |0,_,_,_,_,h=>h
 |n+1,t,st,a,w,h=>by
  simp only [Mw]
  refine kd n (t+1) _ a w ?_
  split
  ·split
   ·split
    ·exact h
    ·exact nB _ _ h
   ·exact h
  ·exact h
theorem aX (t:Nat): ∀(vs:List AC) (c:Nat) (st:St) (a:Act) (w:World),Rel X st a w->Rel X (Wf t c vs st) a w
 | [],_,_,_,_,h=>h
 |v::r,c,st,a,w,h=>by
  cases v with
  |own m o n=>exact aX t r (c+1) _ a w (nB _ _ h)
  |_=>exact aX t r (c+1) _ a w h
theorem ke: ∀(n t:Nat) (st:St) (a:Act) (w:World),Rel X st a w->Rel X (renameVars n t st) a w
 |0,_,_,_,_,h=>h
 |n+1,t,st,a,w,h=>by
  simp only [renameVars]
  refine ke n (t+1) _ a w ?_
  split
  ·split
   ·split
    ·exact h
    ·exact aX t _ _ _ a w (nB _ _ h)
   ·exact h
  ·exact h
theorem l4 (f:Nat->OB->OB): ∀(H:List (Nat×OB)) (l:Nat),Au (H.map λp=>(p.1,f p.1 p.2)) l=(Au H l).map (f l)
 | [],_=>rfl
 |(k,b)::r,l=>by
  simp only [Ce,Au]
  split
  ·rename_i e;subst e;rfl
  ·exact l4 f r l
theorem OB.NT (x y z:Bool) (b:OB):(b.Iv x y z).row=b.row:=by cases b<;>rfl
def pT (live:List Nat) (l:Nat) (b:OB):OB:=b.Iv (live.contains Uv) (live.contains (Sx+l)) (live.contains (kR+l))
theorem Move.Iv (live:List Nat) {H:List (Nat×OB)} :Move X w w π π H (H.map λp=>(p.1,pT live p.1 p.2)) (λc=>c):=by
 refine ⟨λc v h=>?_,λfr τ cs x h=>h⟩
 have bj: ∀m c,Au H m=some c->Au (H.map λp=>(p.1,pT live p.1 p.2)) m=some (pT live m c):= λm c hm=>by rw [l4,hm];rfl
 cases c with
 |own m off len=>
  obtain ⟨b',sz,n,h1,h0,h2,h3⟩:=h
  exact ⟨_,sz,n,bj m b' h1,by unfold pT;rw [OB.NT];exact h0,h2,h3⟩
 |Gy m i=>
  obtain ⟨r,tid,vs,h1,h2,h3⟩:=h
  exact ⟨r,tid,_,bj m _ h1,h2,h3⟩
 |Kh m i=>
  obtain ⟨r,b',sz,n,h1,h0,h2,h3,h4⟩:=h
  exact ⟨r,_,sz,n,bj m b' h1,by unfold pT;rw [OB.NT];exact h0,h2,h3,h4⟩
 |sub m i c=>
  obtain ⟨r,b,sz,n,h1,h0,h2⟩:=h
  exact ⟨r,_,sz,n,bj m _ h1,by cases b<;>exact h0,h2⟩
 |Kd m i c=>
  obtain ⟨r,b,n,sz,g,o,len,cap,h1,h0,h2⟩:=h
  exact ⟨r,_,n,sz,g,o,len,cap,bj m _ h1,by cases b<;>exact h0,h2⟩
 |clo f Eg=>
  obtain ⟨us,h1,h2,h3⟩:=h
  refine ⟨us,h1,h2,λj p hp=>?_⟩
  obtain ⟨r,tid,vs,h4,h5,h6⟩:=h3 j p hp
  exact ⟨r,tid,_,bj p.1 _ h4,h5,h6⟩
 |Kr m=>
  obtain ⟨r,vt,f,h1,h2,h3⟩:=h
  exact ⟨r,vt,f,bj m _ h1,h2,h3⟩
 |_=>exact h
theorem Ag0 (live:List Nat) {st:St} {a:Act} (h:Rel X st a w):Rel X (st.Iv live) a w:=by
 obtain ⟨π,h⟩:=h
 have m:=Move.Iv (X:=X) (w:=w) (π:=π) live (H:=st.heap)
 refine ⟨π,⟨h.1.below,h.1.sc,h.1.sub,h.1.place,h.1.inj,λj hj Ih=>h.1.iY j hj λh0=>Ih (by show Au (st.heap.map λp=>(p.1,pT live p.1 p.2)) j=none;rw [l4,h0];rfl),λj=>?_⟩,?_⟩
 ·have hn:Au (st.Iv live).heap j=(Au st.heap j).map (pT live j):=l4 (pT live) st.heap j
  have ho:=h.1.heap j
  cases l5:Au st.heap j with
  |none=>rw [l5] at hn;exact Gk.Vc (ho.emp l5) hn
  |some c=>
   rw [l5] at hn
   refine Gk.Lu ?_ hn
   have hb:=(ho.Qs l5).move m (Ao _) (λr0 c h0 h1=>h.1.sub _ r0 c h0 h1) λ_ _ _ _ _=>rfl
   cases c with
   |arr fr tr e tid xs=>
    simp only [OB.map,Cm,Ke,OB.Iv,pT] at hb⊢
    cases hp:π j with
    |none=>rw [hp] at hb;exact hb
    |some r=>
     rw [hp] at hb
     obtain ⟨⟨g1,g2,g3⟩,cur,ti,g4,g5,g6,g7,g8,g9⟩:=hb
     refine ⟨⟨g1,g2,λhf=>g3 (Dz.1 hf).1⟩,cur,ti,g4,g5,g6,g7,λi x hx=>?_,λht=>g9 (Dz.1 ht).1⟩
     obtain ⟨es,k1,k2,k3⟩:=g8 i x hx
     refine ⟨es,k1,k2,Cells.Fg (Ao _) (λ_ _ _=>rfl) (λb _ hA=>?_) e es x k3⟩
     exact hA.imp id (Or.imp id λ⟨h1,h2⟩=>⟨(Dz.1 h1).1,h2⟩)
   |Gz e tid xs=>exact hb
   |Bp e te rows out kp=>exact hb
   |var tid vs=>
    have e:(OB.var tid vs).map (λc=>c)= .var tid vs:=by simp [OB.map]
    rw [e] at hb
    obtain ⟨r',h1,h2,cur,h3,h4,h5⟩:=hb
    refine ⟨r',h1,h2,cur,h3,by rw [h4,Dl],λi c hc=>?_⟩
    rw [Fm] at hc
    cases hv:vs[i]? with
    |none=>rw [hv] at hc;cases hc
    |some c0=>
     rw [hv] at hc
     obtain ⟨u,k1,k2,k3⟩:=h5 i c0 hv
     refine ⟨u,k1,k2,?_⟩
     have hc:AC.Akv (live.contains Uv) c0=c:=Ba hc
     subst hc
     cases c0 with
     |data fr τ x=>
      show Cw w (Dd X.w0.heap.size X.Sc π (fr&&!(live.contains Uv&&τ.flat))) τ u x
      exact Cw.Iv k3 λb _ hA=>hA.imp id (Or.imp id λ⟨h1,h2⟩=>⟨(Dz.1 h1).1,h2⟩)
     |_=>exact k3
   |Wo v f=>exact hb
 ·exact ⟨h.2.size,h.2.defers,λt=>by have:=m.av (h.2.tmps t);rwa [AC.map_id] at this⟩
theorem EE (t:Nat) {st:St} {a:Act} (h:Rel X st a w):Rel X (cL t st) a w:=by
 obtain ⟨π,h⟩:=h
 unfold cL
 split
 ·rename_i l off len hg
  split
  ·rename_i fr tr e tid xs hl
   split
   ·rename_i vG
    have hv:=h.2.tmps t
    rw [hg] at hv
    obtain ⟨π',h1,h2,_⟩:=wz h (by simpa using vG) hl hv
    refine ⟨π',h1.1,⟨?_,h1.2.defers,λk=>?_⟩⟩
    ·show a.tmps.size=(Tj _ t _).length
     rw [aN];exact h1.2.size
    ·show Bs X w π' _ ((Tj _ t _).getD k .undef) _
     rw [Rh]
     split
     ·rename_i hk
      obtain ⟨rfl,_⟩:=hk
      exact h2
     ·exact h1.2.tmps k
   ·exact ⟨π,h⟩
  ·exact ⟨π,h⟩
 ·exact ⟨π,h⟩
theorem Move.Anx {H:List (Nat×OB)} {π:Pi} {m:Nat} {tid:TypeId} {vs vs':List AC} (hm:Au H m=some (.var tid vs)):Move X w w π π H (aY H m (.var tid vs')) (λc=>c):=by
 have ne: ∀l b,Au H l=some b->(∀t us,b≠ .var t us)->Au (aY H m (.var tid vs')) l=some b:= λl b h hb=>by
  rw [Ee H m l _ (λe=>by subst e;rw [hm] at h;cases h;exact hb _ _ rfl)];exact h
 have va: ∀l t us,Au H l=some (.var t us)-> ∃t' Rw,Au (aY H m (.var tid vs')) l=some (.var t' Rw):= λl t us h=>by
  by_cases e:l=m
  ·subst e;exact ⟨_,_,Ew H l _ _ hm⟩
  ·exact ⟨t,us,by rw [Ee H m l _ e];exact h⟩
 refine ⟨λc v h=>?_,λ_ _ _ _ h=>h⟩
 cases c with
 |own l off len=>obtain ⟨b,sz,n,h1,h2,h3⟩:=h;exact ⟨b,sz,n,ne l b h1 (λt us e=>by subst e;cases h2),h2,h3⟩
 |Gy l i=>obtain ⟨r,t,us,h1,h2⟩:=h;obtain ⟨t',Rw,h3⟩:=va l t us h1;exact ⟨r,t',Rw,h3,h2⟩
 |Kh l i=>obtain ⟨r,b,sz,n,h1,h2,h3⟩:=h;exact ⟨r,b,sz,n,ne l b h1 (λt us e=>by subst e;cases h2),h2,h3⟩
 |sub l i c=>obtain ⟨r,b,sz,n,h1,h2,h3⟩:=h;exact ⟨r,b,sz,n,ne l b h1 (λt us e=>by subst e;cases h2),h2,h3⟩
 |Kd l i j=>obtain ⟨r,b,n,sz,g,o,len,cap,h1,h2,h3⟩:=h;exact ⟨r,b,n,sz,g,o,len,cap,ne l b h1 (λt us e=>by subst e;cases h2),h2,h3⟩
 |clo f Eg=>
  obtain ⟨us,h1,h2,h3⟩:=h
  refine ⟨us,h1,h2,λj p hp=>?_⟩
  obtain ⟨r,t,ws,h4,h5⟩:=h3 j p hp
  obtain ⟨t',Rw,h6⟩:=va p.1 t ws h4
  exact ⟨r,t',Rw,h6,h5⟩
 |Kr l=>obtain ⟨r,vt,f,h1,h2⟩:=h;exact ⟨r,vt,f,ne l _ h1 (λt us e=>by cases e),h2⟩
 |_=>exact h
theorem LS {π:Pi} {st:St} {a:Act} (h:Bk X π st a w) {m:Nat} {tid:TypeId} {vs:List AC} (hm:Au st.heap m=some (.var tid vs)) {c:Nat} {x:AC}
  (hx: ∀r cur u,π m=some r->w.heap[r.g]?=some (.cells cur tid (0,0))->cur.toList[c]?=some u->Hk X w π st.heap x u):Bk X π (st.Kc m (.var tid (vs.set c x))) a w:=by
 have mv:=Move.Anx (X:=X) (w:=w) (π:=π) (vs':=vs.set c x) hm
 refine ⟨⟨h.1.below,h.1.sc,h.1.sub,h.1.place,h.1.inj,λj hj Ih=>h.1.iY j hj λh0=>Ih ?_,λj=>?_⟩,?_⟩
 ·show Au (aY st.heap m _) j=none
  rw [Ee _ _ _ _ (λe=>by subst e;rw [hm] at h0;cases h0)];exact h0
 ·have ho:=h.1.heap j
  by_cases e:j=m
  ·subst e
   refine Gk.Lu (b:= .var tid (vs.set c x)) ?_ (Ew st.heap j _ _ hm)
   obtain ⟨r,h1,h2,cur,h3,h4⟩:=ho.Qs hm
   refine ⟨r,h1,h2,cur,h3,?_⟩
   obtain ⟨h5,h6⟩:=h4
   refine ⟨by rw [Bj];exact h5,λi d hd=>?_⟩
   rw [Fo] at hd
   split at hd
   ·rename_i hci
    subst hci
    split at hd
    ·rename_i Iz
     cases hd
     obtain ⟨u,g1,g2,_⟩:=h6 c vs[c] (Ac Iz)
     exact ⟨u,g1,g2,mv.ac _ _ (hx r cur u h1 h3 g1)⟩
    ·cases hd
   ·obtain ⟨u,g1,g2,g3⟩:=h6 i d hd
    exact ⟨u,g1,g2,mv.ac _ _ g3⟩
  ·have hn:Au (st.Kc m (.var tid (vs.set c x))).heap j=Au st.heap j:=Ee _ _ _ _ e
   cases hg:Au st.heap j with
   |none=>exact Gk.Vc (ho.emp hg) (hn.trans hg)
   |some b=>
    have hb:=(ho.Qs hg).move mv (Ao _) (λr0 c h0 h1=>h.1.sub _ r0 c h0 h1) λ_ _ _ _ _=>rfl
    refine Gk.Lu ?_ (hn.trans hg)
    have eid:b.map (λc=>c)=b:=by cases b<;>simp [OB.map]
    rw [eid] at hb
    exact hb
 ·exact ⟨h.2.size,h.2.defers,λt=>by have:=mv.av (h.2.tmps t);rwa [AC.map_id] at this⟩
theorem qO (c:Nat) {st:St} {a:Act} (h:Rel X st a w):Rel X (Qn c st) a w:=by
 obtain ⟨π,h⟩:=h
 unfold Qn
 split
 ·rename_i Bdd vs hm
  split
  ·rename_i l off len hc
   split
   ·rename_i fr tr e te xs hl
    split
    ·rename_i vG
     split
     ·rename_i tid vs' IQ
      have hlv:Pn≠l:= λe=>by subst e;rw [hm] at hl;cases hl
      obtain ⟨r,h1,h2,cur,h3,h4,h5⟩:=(h.1.heap Pn).Qs hm
      obtain ⟨u,g1,g2,g3⟩:=h5 c _ hc
      obtain ⟨π',k1,k2,k3⟩:=wz h (by simpa using vG) hl g3
      refine ⟨π',LS k1 IQ λr' aU u' q1 q2 q3=>?_⟩
      rw [k3 Pn hlv,h1] at q1
      cases q1
      rw [h3] at q2
      cases q2
      rw [g1] at q3
      cases q3
      exact k2
     ·exact ⟨π,h⟩
    ·exact ⟨π,h⟩
   ·exact ⟨π,h⟩
  ·exact ⟨π,h⟩
 ·exact ⟨π,h⟩
theorem iB (live:List Nat): ∀(n c:Nat) (st:St) (a:Act) (w:World),Rel X st a w->Rel X (Qa live n c st) a w
 |0,_,_,_,_,h=>h
 |n+1,c,st,a,w,h=>by
  simp only [Qa]
  refine iB live n (c+1) _ a w ?_
  split
  ·exact qO c h
  ·exact h
theorem mo (live:List Nat): ∀(n t:Nat) (st:St) (a:Act) (w:World),Rel X st a w->Rel X (Pk live n t st) a w
 |0,_,st,a,w,h=>iB live 16 0 st a w h
 |n+1,t,st,a,w,h=>by
  simp only [Pk]
  refine mo live n (t+1) _ a w ?_
  split
  ·exact EE t h
  ·exact h
theorem XB (live:List Nat) {st:St} {a:Act} (h:Rel X st a w):Rel X (st.clean live) a w:=by
 obtain ⟨π,h⟩:=h
 have Adm: ∀s:St,Rel X s a w->Rel X (if live.any (λt=>Nat.ble Uv t) then s.Iv live else s) a w:=by
  intro s hs
  split
  ·exact Ag0 live hs
  ·exact hs
 have key: ∀s:St,Rel X s a w->Rel X (if live.contains dJ then Mw s.tmps.length 0 s else s) a w:=by
  intro s hs
  split
  ·exact kd _ _ _ a w hs
  ·exact hs
 have QQ: ∀s:St,Rel X s a w->Rel X (if live.contains gW then renameVars s.tmps.length 0 s else s) a w:=by
  intro s hs
  split
  ·exact ke _ _ _ a w hs
  ·exact hs
 have Adn: ∀s:St,Rel X s a w->Rel X (if live.any (λt=>Nat.ble Sr t&&Nat.blt t dJ) then Pk live s.tmps.length 0 s else s) a w:=by
  intro s hs
  split
  ·exact mo _ _ _ _ a w hs
  ·exact hs
 unfold St.clean
 refine Adm _ (QQ _ (key _ (Adn _ (ec _ _ a w ⟨π,h.1,⟨by simp [Yn,h.2.size],h.2.defers,λt=>?_⟩⟩))))
 show Bs X w π st.heap ((Iq live 0 st.tmps).getD t .undef) _
 rcases ct live 0 st.tmps t with e|e
 ·rw [e];trivial
 ·rw [e];exact h.2.tmps t
def Ala:Ls->Exit
 | .normal=> .normal
 | .exit id=> .exit id
 | .ret=> .ret
def uk (P:Program) (c:Code) (Q:Exit->Act->World->Prop) (a:Act) (w:World):Prop:=
 ∀(b:Frame) (k:List Item) (cs:List Frame),∃e a' w',Q e a' w'/\Arrives P (lone (b.at a (.code c:: .inLoop c::k)) cs w) b k cs e a' w'
theorem JQ {c:Code} {Q:Exit->Act->World->Prop} {a:Act} {w:World} (h:c.wp P (Exit.then (uk P c Q) Q) a w):uk P c Q a w:=by
 intro b k cs
 obtain ⟨e,Abs,Ag1,hq,IE⟩:=h b (.inLoop c::k) cs
 cases e with
 |normal=>
  obtain ⟨Auo,Auh,Axu,Aqt,Ah0⟩:=hq b k cs
  exact ⟨Auo,Auh,Axu,Aqt, .of_steps (Steps.trans IE (.one step_inLoop)) Ah0⟩
 |exit id=>exact ⟨_,Abs,Ag1,hq, .pass (x:= .inLoop c) rfl (λ_ _=> .inl (by simp)) IE⟩
 |goto l=>exact ⟨_,Abs,Ag1,hq, .pass (x:= .inLoop c) rfl (λ_ _=> .inl (by simp)) IE⟩
 |ret=>exact ⟨_,Abs,Ag1,hq, .pass (x:= .inLoop c) rfl (λ_ _=> .inl (by simp)) IE⟩
 |panic ch=>exact ⟨_,Abs,Ag1,hq, .pass (x:= .inLoop c) rfl (λ_ _=> .inl (by simp)) IE⟩
 |outgrown=>exact ⟨_,Abs,Ag1,hq, .pass (x:= .inLoop c) rfl (λ_ _=> .inl (by simp)) IE⟩
theorem Aay {c:Code} {Q:Exit->Act->World->Prop} {a:Act} {w:World} (h:uk P c Q a w):(Code.loop c).wp P Q a w:=by
 intro b k cs
 obtain ⟨e,a',w',hq,IE⟩:=h b k cs
 exact ⟨e,a',w',hq, .of_steps (.one step_loop) IE⟩
theorem ij (ops:Array Oper): ∀(i:Nat) (l:List AV),(Pe ops i l).length=l.length
 |_,[]=>rfl
 |i,v::r=>by cases v<;>simp [Pe,ij ops (i+1) r]
theorem lT (ops:Array Oper): ∀(i:Nat) (l:List AV) (t:Nat),(Pe ops i l).getD t .undef= .undef\/(Pe ops i l).getD t .undef=l.getD t .undef
 |_,[],_=> .inr rfl
 |i,v::r,0=>by
  cases v with
  |Mn l=>
   simp only [Pe,Yj]
   split
   ·exact .inr rfl
   ·exact .inl rfl
  |_=>exact .inr rfl
 |i,v::r,t+1=>by
  have h:=lT ops (i+1) r t
  cases v<;>(simp only [Pe,Nu];exact h)
theorem HP (ops:Array Oper) {st:St} {a:Act} (h:Rel X st a w):Rel X (st.o6 ops) a w:=by
 obtain ⟨π,h⟩:=h
 refine ⟨π,h.1,⟨by show a.tmps.size=(Pe ops 0 st.tmps).length;rw [ij];exact h.2.size,h.2.defers,λt=>?_⟩⟩
 show Bs X w π st.heap ((Pe ops 0 st.tmps).getD t .undef) _
 rcases lT ops 0 st.tmps t with e|e
 ·rw [e];trivial
 ·rw [e];exact h.2.tmps t
theorem wF (hT:Ed P T) (Ph:Kk P Γ) (hm:P.follows .mixedOrders=true) {live:Nat->List Nat} {c:Code} {st:St} {K:Ls->St->Prop} (hr:Ot T Γ live c st K):
  ∀(a:Act) (w:World) (Q:Exit->Act->World->Prop),Rel X st a w->(∀e st' a' w',K e st'->Rel X st' a' w'->Q (Ala e) a' w')->c.wp P Q a w/\ ∀c',c= .loop c'->uk P c' Q a w:=by
 induction hr with
 |skip hk=>exact λa w Q h hQ=>⟨wp_skip (hQ .normal _ _ _ hk h),λc' e=>by cases e⟩
 |label hk=>exact λa w Q h hQ=>⟨wp_label (hQ .normal _ _ _ hk h),λc' e=>by cases e⟩
 |exit hk=>exact λa w Q h hQ=>⟨wp_exit (hQ (.exit _) _ _ _ hk h),λc' e=>by cases e⟩
 |ret hk=>exact λa w Q h hQ=>⟨wp_ret (hQ .ret _ _ _ hk h),λc' e=>by cases e⟩
 |region hk=>exact λa w Q h hQ=>⟨SF hT (Ph.reg _) hm (HP _ h) hk λst' a' w' h1 h2=>hQ .normal _ _ _ h1 h2,λc' e=>by cases e⟩
 |seq Q1 _ _ h3 YB JA=>
  intro a w Q h hQ
  refine ⟨wp_seq ((YB a w _ h λe st' a' w' hk h'=>?_).1),λc' e=>by cases e⟩
  cases e with
  |normal=>exact (JA st' hk a' w' Q h' hQ).1
  |exit id=>exact hQ (.exit id) _ _ _ (h3 _ _ (by simp) hk) h'
  |ret=>exact hQ .ret _ _ _ (h3 _ _ (by simp) hk) h'
 |cond hc _ _ YB JA=>
  intro a w Q h hQ
  refine ⟨?_,λc' e=>by cases e⟩
  obtain ⟨π,h'⟩:=h
  rename_i c x y st fr t Q0 _ _
  have hr:=Dy h'.2 c
  rw [hc] at hr
  refine wp_cond (aM hr) ?_
  cases t with
  |true=>exact (YB rfl a w Q ⟨π,h'⟩ hQ).1
  |false=>exact (JA rfl a w Q ⟨π,h'⟩ hQ).1
 |block Q1 _ h2 ih=>
  intro a w Q h hQ
  rename_i id c st Q0 _
  refine ⟨wp_block ((ih a w _ h λe st' a' w' hk h'=>?_).1),λc' e=>by cases e⟩
  have h3:=h2 e st' hk
  cases e with
  |normal=>exact hQ .normal _ _ _ h3 h'
  |ret=>exact hQ .ret _ _ _ h3 h'
  |exit YA=>
   show (if YA=id then Q .normal a' w' else Q (.exit YA) a' w')
   simp only [zC] at h3
   by_cases hid:YA=id
   ·rw [Ab hid] at h3⊢;exact hQ .normal _ _ _ h3 h'
   ·rw [Ag hid] at h3⊢;exact hQ (.exit YA) _ _ _ h3 h'
 |loop Q1 _ _ h3 YB JA=>
  intro a w Q h hQ
  rename_i c st Q0 _ _
  have key:uk P c Q a w:=by
   refine JQ ((YB a w _ (XB _ h) λe st' a' w' hk h'=>?_).1)
   cases e with
   |normal=>exact (JA st' hk a' w' Q h' hQ).2 c rfl
   |exit id=>exact hQ (.exit id) _ _ _ (h3 _ _ (by simp) hk) h'
   |ret=>exact hQ .ret _ _ _ (h3 _ _ (by simp) hk) h'
  exact ⟨Aay key,λc' e=>by cases e;exact key⟩
def SJ (tmps:Array Value):ResultVar->Sem Value
 | .tmp t=>pure (tmps.getD t undef)
 | .cell p t=>do loadVar t (<-asAddr (tmps.getD p undef))
theorem gE (fn:Func) (tmps:Array Value):results fn tmps=(do
  let vs<-fn.results.mapM (SJ tmps)
  pure (if h:vs.size=1 then vs[0] else .tuple vs)):=by
 rfl
theorem VS {α:Type} {l:List α} (h:l.length=2): ∃a b,l= [a,b]:=by
 rcases l with _|⟨a,_|⟨b,_|⟨c,r⟩⟩⟩<;>simp at h
 exact ⟨a,b,rfl⟩
theorem zK {α:Type} {l:List α} (h:l.length=3): ∃a b c,l= [a,b,c]:=by
 rcases l with _|⟨a,_|⟨b,_|⟨c,_|⟨d,r⟩⟩⟩⟩<;>simp at h
 exact ⟨a,b,c,rfl⟩
theorem JO {t:TypeId} {v u:Value} (h:(Instr.loadAt t v).run P w= .ok u w):(do loadVar t (<-asAddr v):Sem Value).run P w= .ok u w:=by
 unfold Instr.loadAt at h
 cases v with
 |pointer a=>
  cases a with
  |some a=>simpa [Instr.sureAddr,asAddr] using h
  |none=>simp [Instr.sureAddr,Result.andThen] at h
 |_=>simp [Instr.sureAddr,Result.andThen] at h
theorem Zc (hT:Ed P T) {st:St} {a:Act} (h:Bk X π st a w): ∀(rs:List ResultVar) (l:List AV),eo T st rs=some l->
  ∃vs:List Value,vs.length=rs.length/\l.length=rs.length/\(∀(i:Nat) r v,rs[i]?=some r->vs[i]?=some v->(SJ a.tmps r).run P w= .ok v w)/\(∀(i:Nat) c v,l[i]?=some c->vs[i]?=some v->Bs X w π st.heap c v)
 | [],l,he=>by
  simp only [eo,Aa] at he;subst he
  exact ⟨[],rfl,rfl,λi r v hr=>by simp at hr,λi c v hc=>by simp at hc⟩
 | .tmp t::r,l,he=>by
  simp only [eo] at he
  cases hr:eo T st r with
  |none=>rw [hr] at he;cases he
  |some l'=>
   rw [hr] at he
   simp only [Am,Aa] at he;subst he
   obtain ⟨vs,h1,h2,h3,h4⟩:=Zc hT h r l' hr
   refine ⟨a.tmps.getD t undef::vs,by simp [h1],by simp [h2],λi r' v eE hv=>?_,λi c v hc hv=>?_⟩
   ·rcases i with _|i
    ·rw [Ca,Aa] at eE hv;subst eE;subst hv;rfl
    ·exact h3 i r' v (by simpa using eE) (by simpa using hv)
   ·rcases i with _|i
    ·rw [Ca,Aa] at hc hv;subst hc;subst hv;exact h.2.tmps t
    ·exact h4 i c v (by simpa using hc) (by simpa using hv)
 | .cell p t::r,l,he=>by
  simp only [eo] at he
  split at he
  ·rename_i c0 l' hl0 hr
   simp only [Aa] at he;subst he
   obtain ⟨u,hu,hru⟩:=od hT h t _ _ c0 (h.2.tmps p) hl0
   obtain ⟨vs,h1,h2,h3,h4⟩:=Zc hT h r l' hr
   refine ⟨u::vs,by simp [h1],by simp [h2],λi r' v eE hv=>?_,λi c v hc hv=>?_⟩
   ·rcases i with _|i
    ·simp at eE hv;subst eE;subst hv;exact JO hu
    ·exact h3 i r' v (by simpa using eE) (by simpa using hv)
   ·rcases i with _|i
    ·simp at hc hv;subst hc;subst hv;exact hru
    ·exact h4 i c v (by simpa using hc) (by simpa using hv)
  ·cases he
theorem HT (hT:Ed P T) {st:St} {a:Act} (h:Bk X π st a w) (s:Spec) (fn:Func) (fr:Bool) (y:s.res.den) (he:om T s fn st=some (fr,y)) {S:Nat->Prop} (hS:Um X S fr):
  ∃v,(results fn a.tmps).run P w= .ok v w/\mL s w S v y:=by
 have hrs:fn.results=fn.results.toList.toArray:=Array.toArray_toList.symm
 unfold om at he
 split at he
 ·rename_i c hl
  obtain ⟨vs,h1,h2,h3,h4⟩:=Zc hT h _ _ hl
  split at he
  ·cases he
  ·rename_i hm
   have hlen:fn.results.toList.length=1:=by rw [<-h2];rfl
   obtain ⟨r,hr⟩:=Dg.1 hlen
   rw [hlen] at h1
   obtain ⟨v,rfl⟩:=Dg.1 h1
   have e0:=h3 0 r v (by rw [hr];rfl) rfl
   refine ⟨v,?_,?_⟩
   ·rw [gE,hrs,hr]
    simp [e0]
   ·unfold mL
    rw [Ag hm]
    exact Zw h.1 s.res c v fr y (h4 0 c v rfl rfl) he hS
 ·rename_i c d hl
  obtain ⟨vs,h1,h2,h3,h4⟩:=Zc hT h _ _ hl
  split at he
  ·rename_i hm
   have hlen:fn.results.toList.length=2:=by rw [<-h2];rfl
   obtain ⟨r1,r2,hr⟩:=VS hlen
   rw [hlen] at h1
   obtain ⟨v1,v2,rfl⟩:=VS h1
   have e0:=h3 0 r1 v1 (by rw [hr];rfl) rfl
   have e1:=h3 1 r2 v2 (by rw [hr];rfl) rfl
   refine ⟨.tuple #[v1,v2],?_,?_⟩
   ·rw [gE,hrs,hr]
    simp [e0,e1]
   ·unfold mL
    rw [Ab hm]
    exact ⟨[v1,v2],rfl,bR h.1 s.res _ _ fr y rfl h4 he hS⟩
  ·cases he
 ·rename_i c d d' hl
  obtain ⟨vs,h1,h2,h3,h4⟩:=Zc hT h _ _ hl
  split at he
  ·rename_i hm
   have hlen:fn.results.toList.length=3:=by rw [<-h2];rfl
   obtain ⟨r1,r2,r3,hr⟩:=zK hlen
   rw [hlen] at h1
   obtain ⟨v1,v2,v3,rfl⟩:=zK h1
   have e0:=h3 0 r1 v1 (by rw [hr];rfl) rfl
   have e1:=h3 1 r2 v2 (by rw [hr];rfl) rfl
   have e2:=h3 2 r3 v3 (by rw [hr];rfl) rfl
   refine ⟨.tuple #[v1,v2,v3],?_,?_⟩
   ·rw [gE,hrs,hr]
    simp [e0,e1,e2]
   ·unfold mL
    rw [Ab hm]
    exact ⟨[v1,v2,v3],rfl,bR h.1 s.res _ _ fr y rfl h4 he hS⟩
  ·cases he
 ·cases he
theorem uE {S:Nat->Prop} : ∀(τ:Ty) (vs:List Value) (x:τ.den),Cy w S τ vs x->
  (Tt τ x).length=vs.length/\ ∀i,Bs ⟨w,S,λ_=>False,λ_=>none⟩ w (λ_=>none) [] ((Tt τ x).getD i .undef) (vs.getD i undef)
 | .pair a r,[],x,h=>h.elim
 | .pair a r,v::vs,x,h=>by
  obtain ⟨h1,h2⟩:=uE r vs x.2 h.2
  refine ⟨by simp [Tt,h1],λi=>?_⟩
  rcases i with _|i
  ·simp only [Tt,Yj]
   cases hf:a.flat with
   |true=>exact Cw.flat hf h.1
   |false=>
    exact Cw.Iv h.1 λk _ hk=>by
     rcases hk with ⟨l,r,hl,_⟩|hk|⟨hk,_⟩
     ·cases hl
     ·exact hk
     ·cases hk
  ·simpa [Tt] using h2 i
 | .unit,[],_,_=>⟨rfl,λi=>by simp [Tt];trivial⟩
 | .unit,_::_,_,h=>h.elim
 | .int _,_,_,h=>by simp [Cy] at h
 | .bool,_,_,h=>by simp [Cy] at h
 | .str,_,_,h=>by simp [Cy] at h
 | .slice _,_,_,h=>by simp [Cy] at h
 | .ptr _,_,_,h=>by simp [Cy] at h
 | .oslice _,_,_,h=>by simp [Cy] at h
 | .optr _,_,_,h=>by simp [Cy] at h
 | .smap _,_,_,h=>by simp [Cy] at h
 | .clo _ _,_,_,h=>by simp [Cy] at h
theorem BV (hT:Ed P T) (Ph:Kk P Γ) (hm:P.follows .mixedOrders=true) {f:FuncId} {fn:Func} (hf:P.funcs[f]?=some fn) (s:Spec) (w:World) (S:Nat->Prop) (vs:List Value) (x:s.arg.den) (y:s.res.den)
  (hS: ∀k,S k->k<w.heap.size) (hx:Cy w S s.arg vs x) (he:Abh T Γ s fn x λz=>z=y):
  Calls P f vs.toArray w λe w'=> ∃v,e= .returned v/\Below w.heap.size w w'/\mL s w' (λb=>S b\/(s.fresh=true/\b<w.heap.size)) v y:=by
 obtain ⟨c,hb,he⟩:=he
 skip
 ·obtain ⟨hl,Rp⟩:=uE (w:=w) s.arg vs x hx
  have h0:Rel ⟨w,S,λ_=>False,λ_=>none⟩ {tmps:=Tt s.arg x++List.replicate (fn.ntmps-(Tt s.arg x).length) .undef,heap:= []} {tmps:=vs.toArray++Array.replicate (fn.ntmps-vs.toArray.size) undef,defers:= []} w:=by
   refine ⟨λ_=>none,⟨He.refl _ _ _,λb hb=>⟨hS b hb,λh=>h⟩,(λ_ _ _ h=>by cases h),(λ_ _ _ h=>by cases h),(λ_ _ _ _ _ h=>by cases h),λl _ hn=>absurd rfl hn,λl=>rfl⟩,⟨by simp [hl],rfl,λt=>?_⟩⟩
   have h1:=Rp t
   show Bs _ w _ [] ((Tt s.arg x++List.replicate _ AV.undef).getD t .undef) ((vs.toArray++Array.replicate _ undef).getD t undef)
   by_cases ht:t<vs.length
   ·rw [Aj,At (by omega),<-Aj]
    rw [da,Uh (by simpa using ht)]
    simpa [Aj] using h1
   ·have:(Tt s.arg x++List.replicate (fn.ntmps-(Tt s.arg x).length) AV.undef).getD t .undef= .undef:=by
     rw [Aj,As (by omega)]
     rw [Zy]
     split<;>rfl
    rw [this];trivial
  refine calls_of_wp hf hb ?_
  refine (wF hT Ph hm he _ w _ h0 λe st a' w' ⟨Ih,fr,y',ta,IN,hy⟩ ⟨π,h'⟩=>?_).1
  subst hy
  have Aqo:=HT hT h' s fn fr y' ta (S:= λb=>S b\/(s.fresh=true/\b<w.heap.size)) ⟨λk hk=>⟨by rcases hk with hk|hk;exact hS k hk;exact hk.2,λh=>h⟩,by
   simp only [Kj,Ei] at IN
   rcases IN with h|h
   ·exact .inl h
   ·right;intro k hk;rcases hk with hk|⟨hk,_⟩
    ·exact hk
    ·rw [h] at hk;cases hk⟩
  obtain ⟨v,hv,hr⟩:=Aqo
  cases e with
  |normal=>exact ⟨h'.2.defers,v,hv,v,rfl,h'.1.below.plain,hr⟩
  |ret=>exact ⟨h'.2.defers,v,hv,v,rfl,h'.1.below.plain,hr⟩
  |exit id=>exact absurd rfl (Ih id)
theorem cq {f:FuncId} {fn:Func} (hf:P.funcs[f]?=some fn) (hn:(fn.name== "runtime.NumGoroutine")=false) (hb:fn.body.isNone=false) (args:Array Value) (w:World):
  (callFunc f args).run P w= .ok (.enter f args) w:=by
 unfold callFunc
 simp only [Sem.run_bind,run_program,Result.andThen_ok,hf,hn,hb,Dj,Ul,Sem.run_pure]
theorem Aet (hT:Ed P T) (Ph:Kk P Γ) (hm:P.follows .mixedOrders=true) {f:FuncId} {fn:Func} (hf:P.funcs[f]?=some fn) (hn:(fn.name== "runtime.NumGoroutine")=false) (hb:fn.body.isNone=false) (s:Spec)
  (h: ∀x y,s.fn x=some y->Abh T Γ s fn x λz=>z=y):Sound P f s:=
 ⟨cq hf hn hb,λw S vs x y hS hx hy=>BV hT Ph hm hf s w S vs x y hS hx (h x y hy)⟩
end
end Go.Proofs.YtfgfigkbgecfnaaGreat
