/-
  Part 26 of the proof that the statement FnExactIterationNodes holds.
-/
import Derived.Test.YtfolipnappekaaaGreatCIterationNodes24
namespace Go.Proofs.YtfolipnappekaaaGreat
open Go.RowKit
section
variable {P:Program} {T:Tab} {Γ:Env} {X:Ctx} {w w':World} {π:Pi}
theorem dS (live:List Nat): ∀(i:Nat) (l:List AV),(Kd live i l).length=l.length
 |_,[]=>rfl
 |i,v::r=>by simp [Kd,dS live (i+1) r]
theorem ix (live:List Nat): ∀(i:Nat) (l:List AV) (t:Nat),(Kd live i l).getD t .undef= .undef\/(Kd live i l).getD t .undef=l.getD t .undef
 |_,[],t=> .inr rfl
 |i,v::r,0=>by
  simp only [Kd,Xq]
  split
  ·exact .inr rfl
  ·exact .inl rfl
 |i,v::r,t+1=>by
  simp only [Kd,No]
  exact ix live (i+1) r t
theorem lj: ∀(l:List Nat) (st:St) (a:Act) (w:World),Rel X st a w->Rel X (e8 l st) a w
 | [],_,_,_,h=>h
 |k::r,_,a,w,⟨_,h⟩=>lj r _ a w ⟨_,h.forget k⟩
def cj (π:Pi) (l k:Nat):Pi:= λm=>if m=k then π l else if m=l then none else π m
theorem Aa8 {st:St} {l k:Nat} {b:OB} (hk:Au st.heap k=none) (hl:Au st.heap l=some b):
  Au (Oj (aN (st.heap.map λp=>(p.1,p.2.map (Vm l k))) l) k (b.map (Vm l k))) k=some (b.map (Vm l k))/\
  Au (Oj (aN (st.heap.map λp=>(p.1,p.2.map (Vm l k))) l) k (b.map (Vm l k))) l=none/\
  ∀m,m≠k->m≠l->Au (Oj (aN (st.heap.map λp=>(p.1,p.2.map (Vm l k))) l) k (b.map (Vm l k))) m=(Au st.heap m).map (OB.map (Vm l k)):=by
 have Ik:l≠k:= λe=>by subst e;rw [hk] at hl;cases hl
 refine ⟨Qn _ _ _ ?_,?_,λm h1 h2=>?_⟩
 ·rw [Nt _ _ _ Ik.symm,Ox,hk];rfl
 ·rw [Pk _ _ _ _ Ik,Ml]
 ·rw [Pk _ _ _ _ h1,Nt _ _ _ h2,Ox]
theorem Move.ren {st:St} {l k:Nat} {b:OB} {H':List (Nat×OB)} (hk:Au st.heap k=none) (hl:Au st.heap l=some b) (e1:Au H' k=some (b.map (Vm l k))) (_e2:Au H' l=none)
  (e3: ∀m,m≠k->m≠l->Au H' m=(Au st.heap m).map (OB.map (Vm l k))) (a5: ∀c,Uf (cj π l k) c->Uf π c):Move X w w π (cj π l k) st.heap H' (Vm l k):=by
 have Ik:l≠k:= λe=>by subst e;rw [hk] at hl;cases hl
 have hc: ∀fr τ cs x,Cells w (Dc X.w0.heap.size X.Sc π fr) τ cs x->Cells w (Dc X.w0.heap.size X.Sc (cj π l k) fr) τ cs x:=
  fun fr τ cs x h=>Cells.Ex (Ao _) (λ_ _ _=>rfl) (λc _ hA=>hA.imp (a5 c) id) τ cs x h
 have aT: ∀m c,Au st.heap m=some c->Au H' (pT l k m)=some (c.map (Vm l k))/\cj π l k (pT l k m)=π m:=by
  intro m c hm
  unfold pT
  by_cases e:m=l
  ·subst e
   rw [hl] at hm;cases hm
   rw [Ab rfl]
   exact ⟨e1,by unfold cj;rw [Ab rfl]⟩
  ·have e':m≠k:= λe'=>by subst e';rw [hk] at hm;cases hm
   rw [Ag e]
   exact ⟨by rw [e3 m e' e,hm];rfl,by unfold cj;rw [Ag e',Ag e]⟩
 refine ⟨λc v h=>?_,hc⟩
 cases c with
 |data fr τ x=>obtain ⟨cs,h1,h2⟩:=h;exact ⟨cs,hc _ _ _ _ h1,h2⟩
 |own m off len=>
  obtain ⟨b',sz,n,h1,h0,h2,h3⟩:=h
  obtain ⟨g1,g2⟩:=aT m b' h1
  exact ⟨_,sz,n,g1,by cases b'<;>exact h0,h2,by rw [g2];exact h3⟩
 |Hj m i=>
  obtain ⟨r,tid,vs,h1,h2,h3⟩:=h
  obtain ⟨g1,g2⟩:=aT m _ h1
  exact ⟨r,tid,_,g1,by rw [g2];exact h2,h3⟩
 |Jz m i=>
  obtain ⟨r,b',sz,n,h1,h0,h2,h3,h4⟩:=h
  obtain ⟨g1,g2⟩:=aT m b' h1
  exact ⟨r,_,sz,n,g1,by cases b'<;>exact h0,h2,by rw [g2];exact h3,h4⟩
 |sub m i c=>
  obtain ⟨r,b,sz,n,h1,h0,h2,h3,h4,h5⟩:=h
  obtain ⟨g1,g2⟩:=aT m _ h1
  exact ⟨r,_,sz,n,g1,by cases b<;>exact h0,by rw [g2];exact h2,h3,h4,h5⟩
 |Jv m i c=>
  obtain ⟨r,b,n,sz,g,o,len,cap,h1,h0,h2,h3⟩:=h
  obtain ⟨g1,g2⟩:=aT m _ h1
  exact ⟨r,_,n,sz,g,o,len,cap,g1,by cases b<;>exact h0,by rw [g2];exact h2,h3⟩
 |clo f Ee=>
  obtain ⟨us,h1,h2,h3⟩:=h
  refine ⟨us,h1,by simpa using h2,λj p hp=>?_⟩
  rw [Fc] at hp
  cases hq:Ee[j]? with
  |none=>rw [hq] at hp;cases hp
  |some q=>
   rw [hq] at hp
   simp only [Am,Aa] at hp
   subst hp
   obtain ⟨r,tid,vs,h4,h5,h6⟩:=h3 j q hq
   obtain ⟨g1,g2⟩:=aT q.1 _ h4
   exact ⟨r,tid,_,g1,by rw [g2];exact h5,h6⟩
 |Kh m=>
  obtain ⟨r,vt,f,h1,h2,h3⟩:=h
  obtain ⟨g1,g2⟩:=aT m _ h1
  exact ⟨r,vt,f,g1,by rw [g2];exact h2,h3⟩
 |_=>exact h
theorem PM (l k:Nat) {st:St} {a:Act} (h:Rel X st a w):Rel X (st.rename l k) a w:=by
 unfold St.rename
 split
 ·rename_i b hk hl
  split
  ·rename_i hp
   simp only [Af,Ni] at hp
   obtain ⟨π,h⟩:=h
   have Ik:l≠k:= λe=>by subst e;rw [hk] at hl;cases hl
   obtain ⟨e1,e2,e3⟩:=Aa8 hk hl
   have hpk:π k=none:=(h.1.heap k).emp hk
   have un: ∀m r,cj π l k m=some r-> ∃m',π m'=some r/\pT l k m'=m:= λm r hm=>by
    unfold cj at hm
    split at hm
    ·rename_i e;subst e;exact ⟨l,hm,by unfold pT;rw [Ab rfl]⟩
    ·rename_i e
     split at hm
     ·cases hm
     ·rename_i e';exact ⟨m,hm,by unfold pT;rw [Ag e']⟩
   have m:=Move.ren (X:=X) (w:=w) (π:=π) hk hl e1 e2 e3 λc ⟨j,r,h1,h2⟩=>let ⟨j',h3,_⟩:=un j r h1;⟨j',r,h3,h2⟩
   refine ⟨cj π l k,⟨h.1.below,h.1.sc,λj r c h1 h2=>?_,λj r c h1 h2=>?_,λj1 j2 r1 r2 c h1 h2 h3 h4=>?_,λj hj Ajp=>?_,λj=>?_⟩,?_⟩
   ·obtain ⟨j',h3,_⟩:=un j r h1;exact h.1.sub j' r c h3 h2
   ·obtain ⟨j',h3,_⟩:=un j r h1;exact h.1.place j' r c h3 h2
   ·obtain ⟨j1',g1,g2⟩:=un j1 r1 h1
    obtain ⟨j2',g3,g4⟩:=un j2 r2 h2
    rw [<-g2,<-g4,h.1.inj j1' j2' r1 r2 c g1 g3 h3 h4]
   ·have n1:j≠k:= λe=>by omega
    have n2:j≠l:= λe=>by omega
    have Ant:Au st.heap j≠none:= λh0=>Ajp ((e3 j n1 n2).trans (by rw [h0];rfl))
    have:=h.1.ia j hj Ant
    unfold cj
    rw [Ag n1,Ag n2]
    exact this
   ·by_cases n1:j=k
    ·subst n1
     refine Ge.Lj ?_ e1
     unfold cj
     rw [Ab rfl]
     exact ((h.1.heap l).Qm hl).move m (Ao _) (λr0 c h0 h1=>h.1.sub _ r0 c h0 h1) λ_ _ _ _ _=>rfl
    ·by_cases n2:j=l
     ·subst n2
      exact Ge.Uj (by unfold cj;rw [Ag n1,Ab rfl]) e2
     ·have hr:cj π l k j=π j:=by unfold cj;rw [Ag n1,Ag n2]
      have hn:=e3 j n1 n2
      have ho:=h.1.heap j
      cases ki:Au st.heap j with
      |none=>rw [ki] at hn;exact Ge.Uj (by rw [hr];exact ho.emp ki) hn
      |some c=>
       rw [ki] at hn
       refine Ge.Lj ?_ hn
       rw [hr]
       exact (ho.Qm ki).move m (Ao _) (λr0 c h0 h1=>h.1.sub _ r0 c h0 h1) λ_ _ _ _ _=>rfl
   ·have:tn X w (cj π l k) {tmps:=st.tmps.map (·.map (Vm l k)),heap:=Oj (aN (st.heap.map λp=>(p.1,p.2.map (Vm l k))) l) k (b.map (Vm l k))} a:=m.PK rfl h.2
    exact this
  ·exact h
 ·exact h
theorem jo: ∀(n t:Nat) (st:St) (a:Act) (w:World),Rel X st a w->Rel X (Mo n t st) a w
 |0,_,_,_,_,h=>h
 |n+1,t,st,a,w,h=>by
  simp only [Mo]
  refine jo n (t+1) _ a w ?_
  split
  ·split
   ·split
    ·exact h
    ·exact PM _ _ h
   ·exact h
  ·exact h
theorem kh (f:Nat->OB->OB): ∀(H:List (Nat×OB)) (l:Nat),Au (H.map λp=>(p.1,f p.1 p.2)) l=(Au H l).map (f l)
 | [],_=>rfl
 |(k,b)::r,l=>by
  simp only [Cc,Au]
  split
  ·rename_i e;subst e;rfl
  ·exact kh f r l
theorem OB.KZ (x y z:Bool) (b:OB):(b.Im x y z).row=b.row:=by cases b<;>rfl
def oV (live:List Nat) (l:Nat) (b:OB):OB:=b.Im (live.contains Ud) (live.contains (au+l)) (live.contains (jV+l))
theorem Move.Im (live:List Nat) {H:List (Nat×OB)} :Move X w w π π H (H.map λp=>(p.1,oV live p.1 p.2)) (λc=>c):=by
 refine ⟨λc v h=>?_,λfr τ cs x h=>h⟩
 have aT: ∀m c,Au H m=some c->Au (H.map λp=>(p.1,oV live p.1 p.2)) m=some (oV live m c):= λm c hm=>by rw [kh,hm];rfl
 cases c with
 |own m off len=>
  obtain ⟨b',sz,n,h1,h0,h2,h3⟩:=h
  exact ⟨_,sz,n,aT m b' h1,by unfold oV;rw [OB.KZ];exact h0,h2,h3⟩
 |Hj m i=>
  obtain ⟨r,tid,vs,h1,h2,h3⟩:=h
  exact ⟨r,tid,_,aT m _ h1,h2,h3⟩
 |Jz m i=>
  obtain ⟨r,b',sz,n,h1,h0,h2,h3,h4⟩:=h
  exact ⟨r,_,sz,n,aT m b' h1,by unfold oV;rw [OB.KZ];exact h0,h2,h3,h4⟩
 |sub m i c=>
  obtain ⟨r,b,sz,n,h1,h0,h2⟩:=h
  exact ⟨r,_,sz,n,aT m _ h1,by cases b<;>exact h0,h2⟩
 |Jv m i c=>
  obtain ⟨r,b,n,sz,g,o,len,cap,h1,h0,h2⟩:=h
  exact ⟨r,_,n,sz,g,o,len,cap,aT m _ h1,by cases b<;>exact h0,h2⟩
 |clo f Ee=>
  obtain ⟨us,h1,h2,h3⟩:=h
  refine ⟨us,h1,h2,λj p hp=>?_⟩
  obtain ⟨r,tid,vs,h4,h5,h6⟩:=h3 j p hp
  exact ⟨r,tid,_,aT p.1 _ h4,h5,h6⟩
 |Kh m=>
  obtain ⟨r,vt,f,h1,h2,h3⟩:=h
  exact ⟨r,vt,f,aT m _ h1,h2,h3⟩
 |_=>exact h
theorem Adl (live:List Nat) {st:St} {a:Act} (h:Rel X st a w):Rel X (st.Im live) a w:=by
 obtain ⟨π,h⟩:=h
 have m:=Move.Im (X:=X) (w:=w) (π:=π) live (H:=st.heap)
 refine ⟨π,⟨h.1.below,h.1.sc,h.1.sub,h.1.place,h.1.inj,λj hj Ik=>h.1.ia j hj λh0=>Ik (by show Au (st.heap.map λp=>(p.1,oV live p.1 p.2)) j=none;rw [kh,h0];rfl),λj=>?_⟩,?_⟩
 ·have hn:Au (st.Im live).heap j=(Au st.heap j).map (oV live j):=kh (oV live) st.heap j
  have ho:=h.1.heap j
  cases ki:Au st.heap j with
  |none=>rw [ki] at hn;exact Ge.Uj (ho.emp ki) hn
  |some c=>
   rw [ki] at hn
   refine Ge.Lj ?_ hn
   have hb:=(ho.Qm ki).move m (Ao _) (λr0 c h0 h1=>h.1.sub _ r0 c h0 h1) λ_ _ _ _ _=>rfl
   cases c with
   |arr fr tr e tid xs=>
    simp only [OB.map,Cj,Jw,OB.Im,oV] at hb⊢
    cases hp:π j with
    |none=>rw [hp] at hb;exact hb
    |some r=>
     rw [hp] at hb
     obtain ⟨⟨g1,g2,g3⟩,cur,ti,g4,g5,g6,g7,g8,g9⟩:=hb
     refine ⟨⟨g1,g2,λhf=>g3 (Gm.1 hf).1⟩,cur,ti,g4,g5,g6,g7,λi x hx=>?_,λht=>g9 (Gm.1 ht).1⟩
     obtain ⟨es,k1,k2,k3⟩:=g8 i x hx
     refine ⟨es,k1,k2,Cells.Ex (Ao _) (λ_ _ _=>rfl) (λb _ hA=>?_) e es x k3⟩
     exact hA.imp id (Or.imp id λ⟨h1,h2⟩=>⟨(Gm.1 h1).1,h2⟩)
   |Gu e tid xs=>exact hb
   |Bm e te rows out kp=>exact hb
   |var tid vs=>
    have e:(OB.var tid vs).map (λc=>c)= .var tid vs:=by simp [OB.map]
    rw [e] at hb
    obtain ⟨r',h1,h2,cur,h3,h4,h5⟩:=hb
    refine ⟨r',h1,h2,cur,h3,by rw [h4,Dj],λi c hc=>?_⟩
    rw [Fc] at hc
    cases hv:vs[i]? with
    |none=>rw [hv] at hc;cases hc
    |some c0=>
     rw [hv] at hc
     obtain ⟨u,k1,k2,k3⟩:=h5 i c0 hv
     refine ⟨u,k1,k2,?_⟩
     have hc:AC.Aib (live.contains Ud) c0=c:=Ba hc
     subst hc
     cases c0 with
     |data fr τ x=>
      show Ct w (Dc X.w0.heap.size X.Sc π (fr&&!(live.contains Ud&&τ.flat))) τ u x
      exact Ct.Im k3 λb _ hA=>hA.imp id (Or.imp id λ⟨h1,h2⟩=>⟨(Gm.1 h1).1,h2⟩)
     |_=>exact k3
   |Vv v f=>exact hb
 ·exact ⟨h.2.size,h.2.defers,λt=>by have:=m.av (h.2.tmps t);rwa [AC.map_id] at this⟩
theorem CA (t:Nat) {st:St} {a:Act} (h:Rel X st a w):Rel X (cg t st) a w:=by
 obtain ⟨π,h⟩:=h
 unfold cg
 split
 ·rename_i l off len hg
  split
  ·rename_i fr tr e tid xs hl
   split
   ·rename_i ur
    have hv:=h.2.tmps t
    rw [hg] at hv
    obtain ⟨π',h1,h2,_⟩:=vn h (by simpa using ur) hl hv
    refine ⟨π',h1.1,⟨?_,h1.2.defers,λk=>?_⟩⟩
    ·show a.tmps.size=(Su _ t _).length
     rw [an];exact h1.2.size
    ·show Bp X w π' _ ((Su _ t _).getD k .undef) _
     rw [Qs]
     split
     ·rename_i hk
      obtain ⟨rfl,_⟩:=hk
      exact h2
     ·exact h1.2.tmps k
   ·exact ⟨π,h⟩
  ·exact ⟨π,h⟩
 ·exact ⟨π,h⟩
theorem Move.Ala {H:List (Nat×OB)} {π:Pi} {m:Nat} {tid:TypeId} {vs vs':List AC} (hm:Au H m=some (.var tid vs)):Move X w w π π H (aE H m (.var tid vs')) (λc=>c):=by
 have ne: ∀l b,Au H l=some b->(∀t us,b≠ .var t us)->Au (aE H m (.var tid vs')) l=some b:= λl b h hb=>by
  rw [Dy H m l _ (λe=>by subst e;rw [hm] at h;cases h;exact hb _ _ rfl)];exact h
 have va: ∀l t us,Au H l=some (.var t us)-> ∃t' Sf,Au (aE H m (.var tid vs')) l=some (.var t' Sf):= λl t us h=>by
  by_cases e:l=m
  ·subst e;exact ⟨_,_,Em H l _ _ hm⟩
  ·exact ⟨t,us,by rw [Dy H m l _ e];exact h⟩
 refine ⟨λc v h=>?_,λ_ _ _ _ h=>h⟩
 cases c with
 |own l off len=>obtain ⟨b,sz,n,h1,h2,h3⟩:=h;exact ⟨b,sz,n,ne l b h1 (λt us e=>by subst e;cases h2),h2,h3⟩
 |Hj l i=>obtain ⟨r,t,us,h1,h2⟩:=h;obtain ⟨t',Sf,h3⟩:=va l t us h1;exact ⟨r,t',Sf,h3,h2⟩
 |Jz l i=>obtain ⟨r,b,sz,n,h1,h2,h3⟩:=h;exact ⟨r,b,sz,n,ne l b h1 (λt us e=>by subst e;cases h2),h2,h3⟩
 |sub l i c=>obtain ⟨r,b,sz,n,h1,h2,h3⟩:=h;exact ⟨r,b,sz,n,ne l b h1 (λt us e=>by subst e;cases h2),h2,h3⟩
 |Jv l i j=>obtain ⟨r,b,n,sz,g,o,len,cap,h1,h2,h3⟩:=h;exact ⟨r,b,n,sz,g,o,len,cap,ne l b h1 (λt us e=>by subst e;cases h2),h2,h3⟩
 |clo f Ee=>
  obtain ⟨us,h1,h2,h3⟩:=h
  refine ⟨us,h1,h2,λj p hp=>?_⟩
  obtain ⟨r,t,ws,h4,h5⟩:=h3 j p hp
  obtain ⟨t',Sf,h6⟩:=va p.1 t ws h4
  exact ⟨r,t',Sf,h6,h5⟩
 |Kh l=>obtain ⟨r,vt,f,h1,h2⟩:=h;exact ⟨r,vt,f,ne l _ h1 (λt us e=>by cases e),h2⟩
 |_=>exact h
theorem JF {π:Pi} {st:St} {a:Act} (h:Bl X π st a w) {m:Nat} {tid:TypeId} {vs:List AC} (hm:Au st.heap m=some (.var tid vs)) {c:Nat} {x:AC}
  (hx: ∀r cur u,π m=some r->w.heap[r.g]?=some (.cells cur tid (0,0))->cur.toList[c]?=some u->Hm X w π st.heap x u):Bl X π (st.Ju m (.var tid (vs.set c x))) a w:=by
 have mv:=Move.Ala (X:=X) (w:=w) (π:=π) (vs':=vs.set c x) hm
 refine ⟨⟨h.1.below,h.1.sc,h.1.sub,h.1.place,h.1.inj,λj hj Ik=>h.1.ia j hj λh0=>Ik ?_,λj=>?_⟩,?_⟩
 ·show Au (aE st.heap m _) j=none
  rw [Dy _ _ _ _ (λe=>by subst e;rw [hm] at h0;cases h0)];exact h0
 ·have ho:=h.1.heap j
  by_cases e:j=m
  ·subst e
   refine Ge.Lj (b:= .var tid (vs.set c x)) ?_ (Em st.heap j _ _ hm)
   obtain ⟨r,h1,h2,cur,h3,h4⟩:=ho.Qm hm
   refine ⟨r,h1,h2,cur,h3,?_⟩
   obtain ⟨h5,h6⟩:=h4
   refine ⟨by rw [Bi];exact h5,λi d hd=>?_⟩
   rw [Fe] at hd
   split at hd
   ·rename_i hci
    subst hci
    split at hd
    ·rename_i It
     cases hd
     obtain ⟨u,g1,g2,_⟩:=h6 c vs[c] (Ac It)
     exact ⟨u,g1,g2,mv.ac _ _ (hx r cur u h1 h3 g1)⟩
    ·cases hd
   ·obtain ⟨u,g1,g2,g3⟩:=h6 i d hd
    exact ⟨u,g1,g2,mv.ac _ _ g3⟩
  ·have hn:Au (st.Ju m (.var tid (vs.set c x))).heap j=Au st.heap j:=Dy _ _ _ _ e
   cases hg:Au st.heap j with
   |none=>exact Ge.Uj (ho.emp hg) (hn.trans hg)
   |some b=>
    have hb:=(ho.Qm hg).move mv (Ao _) (λr0 c h0 h1=>h.1.sub _ r0 c h0 h1) λ_ _ _ _ _=>rfl
    refine Ge.Lj ?_ (hn.trans hg)
    have eid:b.map (λc=>c)=b:=by cases b<;>simp [OB.map]
    rw [eid] at hb
    exact hb
 ·exact ⟨h.2.size,h.2.defers,λt=>by have:=mv.av (h.2.tmps t);rwa [AC.map_id] at this⟩
theorem pS (c:Nat) {st:St} {a:Act} (h:Rel X st a w):Rel X (Qd c st) a w:=by
 obtain ⟨π,h⟩:=h
 unfold Qd
 split
 ·rename_i Bal vs hm
  split
  ·rename_i l off len hc
   split
   ·rename_i fr tr e te xs hl
    split
    ·rename_i ur
     split
     ·rename_i tid vs' GL
      have hlv:Pc≠l:= λe=>by subst e;rw [hm] at hl;cases hl
      obtain ⟨r,h1,h2,cur,h3,h4,h5⟩:=(h.1.heap Pc).Qm hm
      obtain ⟨u,g1,g2,g3⟩:=h5 c _ hc
      obtain ⟨π',k1,k2,k3⟩:=vn h (by simpa using ur) hl g3
      refine ⟨π',JF k1 GL λr' aA u' q1 q2 q3=>?_⟩
      rw [k3 Pc hlv,h1] at q1
      cases q1
      rw [h3] at q2
      cases q2
      rw [g1] at q3
      cases q3
      exact k2
     ·exact ⟨π,h⟩
    ·exact ⟨π,h⟩
   ·exact ⟨π,h⟩
  ·exact ⟨π,h⟩
 ·exact ⟨π,h⟩
theorem gG (live:List Nat): ∀(n c:Nat) (st:St) (a:Act) (w:World),Rel X st a w->Rel X (Pu live n c st) a w
 |0,_,_,_,_,h=>h
 |n+1,c,st,a,w,h=>by
  simp only [Pu]
  refine gG live n (c+1) _ a w ?_
  split
  ·exact pS c h
  ·exact h
theorem lG (live:List Nat): ∀(n t:Nat) (st:St) (a:Act) (w:World),Rel X st a w->Rel X (Oz live n t st) a w
 |0,_,st,a,w,h=>gG live 16 0 st a w h
 |n+1,t,st,a,w,h=>by
  simp only [Oz]
  refine lG live n (t+1) _ a w ?_
  split
  ·exact CA t h
  ·exact h
theorem UG (live:List Nat) {st:St} {a:Act} (h:Rel X st a w):Rel X (st.clean live) a w:=by
 obtain ⟨π,h⟩:=h
 have Ab7: ∀s:St,Rel X s a w->Rel X (if live.any (λt=>Nat.ble Ud t) then s.Im live else s) a w:=by
  intro s hs
  split
  ·exact Adl live hs
  ·exact hs
 have key: ∀s:St,Rel X s a w->Rel X (if live.contains da then Mo s.tmps.length 0 s else s) a w:=by
  intro s hs
  split
  ·exact jo _ _ _ a w hs
  ·exact hs
 have Ab8: ∀s:St,Rel X s a w->Rel X (if live.any (λt=>Nat.ble Rz t&&Nat.blt t da) then Oz live s.tmps.length 0 s else s) a w:=by
  intro s hs
  split
  ·exact lG _ _ _ _ a w hs
  ·exact hs
 unfold St.clean
 refine Ab7 _ (key _ (Ab8 _ (lj _ _ a w ⟨π,h.1,⟨by simp [dS,h.2.size],h.2.defers,λt=>?_⟩⟩)))
 show Bp X w π st.heap ((Kd live 0 st.tmps).getD t .undef) _
 rcases ix live 0 st.tmps t with e|e
 ·rw [e];trivial
 ·rw [e];exact h.2.tmps t
def Air:Lh->Exit
 | .normal=> .normal
 | .exit id=> .exit id
 | .ret=> .ret
def tm (P:Program) (c:Code) (Q:Exit->Act->World->Prop) (a:Act) (w:World):Prop:=
 ∀(b:Frame) (k:List Item) (cs:List Frame),∃e a' w',Q e a' w'/\Arrives P (lone (b.at a (.code c:: .inLoop c::k)) cs w) b k cs e a' w'
theorem HJ {c:Code} {Q:Exit->Act->World->Prop} {a:Act} {w:World} (h:c.wp P (Exit.then (tm P c Q) Q) a w):tm P c Q a w:=by
 intro b k cs
 obtain ⟨e,ZM,Adm,hq,GA⟩:=h b (.inLoop c::k) cs
 cases e with
 |normal=>
  obtain ⟨Ary,Arr,Av3,Ao9,Aej⟩:=hq b k cs
  exact ⟨Ary,Arr,Av3,Ao9, .of_steps (Steps.trans GA (.one step_inLoop)) Aej⟩
 |exit id=>exact ⟨_,ZM,Adm,hq, .pass (x:= .inLoop c) rfl (λ_ _=> .inl (by simp)) GA⟩
 |goto l=>exact ⟨_,ZM,Adm,hq, .pass (x:= .inLoop c) rfl (λ_ _=> .inl (by simp)) GA⟩
 |ret=>exact ⟨_,ZM,Adm,hq, .pass (x:= .inLoop c) rfl (λ_ _=> .inl (by simp)) GA⟩
 |panic ch=>exact ⟨_,ZM,Adm,hq, .pass (x:= .inLoop c) rfl (λ_ _=> .inl (by simp)) GA⟩
 |outgrown=>exact ⟨_,ZM,Adm,hq, .pass (x:= .inLoop c) rfl (λ_ _=> .inl (by simp)) GA⟩
theorem YL {c:Code} {Q:Exit->Act->World->Prop} {a:Act} {w:World} (h:tm P c Q a w):(Code.loop c).wp P Q a w:=by
 intro b k cs
 obtain ⟨e,a',w',hq,GA⟩:=h b k cs
 exact ⟨e,a',w',hq, .of_steps (.one step_loop) GA⟩
theorem gr (ops:Array Oper): ∀(i:Nat) (l:List AV),(Ov ops i l).length=l.length
 |_,[]=>rfl
 |i,v::r=>by cases v<;>simp [Ov,gr ops (i+1) r]
theorem l7 (ops:Array Oper): ∀(i:Nat) (l:List AV) (t:Nat),(Ov ops i l).getD t .undef= .undef\/(Ov ops i l).getD t .undef=l.getD t .undef
 |_,[],_=> .inr rfl
 |i,v::r,0=>by
  cases v with
  |Ms l=>
   simp only [Ov,Xq]
   split
   ·exact .inr rfl
   ·exact .inl rfl
  |_=>exact .inr rfl
 |i,v::r,t+1=>by
  have h:=l7 ops (i+1) r t
  cases v<;>(simp only [Ov,No];exact h)
theorem FK (ops:Array Oper) {st:St} {a:Act} (h:Rel X st a w):Rel X (st.nm ops) a w:=by
 obtain ⟨π,h⟩:=h
 refine ⟨π,h.1,⟨by show a.tmps.size=(Ov ops 0 st.tmps).length;rw [gr];exact h.2.size,h.2.defers,λt=>?_⟩⟩
 show Bp X w π st.heap ((Ov ops 0 st.tmps).getD t .undef) _
 rcases l7 ops 0 st.tmps t with e|e
 ·rw [e];trivial
 ·rw [e];exact h.2.tmps t
theorem vA (hT:Eb P T) (Pl:Kj P Γ) (hm:P.follows .mixedOrders=true) {live:Nat->List Nat} {c:Code} {st:St} {K:Lh->St->Prop} (hr:Oi T Γ live c st K):
  ∀(a:Act) (w:World) (Q:Exit->Act->World->Prop),Rel X st a w->(∀e st' a' w',K e st'->Rel X st' a' w'->Q (Air e) a' w')->c.wp P Q a w/\ ∀c',c= .loop c'->tm P c' Q a w:=by
 induction hr with
 |skip hk=>exact λa w Q h hQ=>⟨wp_skip (hQ .normal _ _ _ hk h),λc' e=>by cases e⟩
 |label hk=>exact λa w Q h hQ=>⟨wp_label (hQ .normal _ _ _ hk h),λc' e=>by cases e⟩
 |exit hk=>exact λa w Q h hQ=>⟨wp_exit (hQ (.exit _) _ _ _ hk h),λc' e=>by cases e⟩
 |ret hk=>exact λa w Q h hQ=>⟨wp_ret (hQ .ret _ _ _ hk h),λc' e=>by cases e⟩
 |region hk=>exact λa w Q h hQ=>⟨PJ hT (Pl.reg _) hm (FK _ h) hk λst' a' w' h1 h2=>hQ .normal _ _ _ h1 h2,λc' e=>by cases e⟩
 |seq Q1 _ _ h3 VE GR=>
  intro a w Q h hQ
  refine ⟨wp_seq ((VE a w _ h λe st' a' w' hk h'=>?_).1),λc' e=>by cases e⟩
  cases e with
  |normal=>exact (GR st' hk a' w' Q h' hQ).1
  |exit id=>exact hQ (.exit id) _ _ _ (h3 _ _ (by simp) hk) h'
  |ret=>exact hQ .ret _ _ _ (h3 _ _ (by simp) hk) h'
 |cond hc _ _ VE GR=>
  intro a w Q h hQ
  refine ⟨?_,λc' e=>by cases e⟩
  obtain ⟨π,h'⟩:=h
  rename_i c x y st fr t Q0 _ _
  have hr:=Dv h'.2 c
  rw [hc] at hr
  refine wp_cond (al hr) ?_
  cases t with
  |true=>exact (VE rfl a w Q ⟨π,h'⟩ hQ).1
  |false=>exact (GR rfl a w Q ⟨π,h'⟩ hQ).1
 |block Q1 _ h2 ih=>
  intro a w Q h hQ
  rename_i id c st Q0 _
  refine ⟨wp_block ((ih a w _ h λe st' a' w' hk h'=>?_).1),λc' e=>by cases e⟩
  have h3:=h2 e st' hk
  cases e with
  |normal=>exact hQ .normal _ _ _ h3 h'
  |ret=>exact hQ .ret _ _ _ h3 h'
  |exit VD=>
   show (if VD=id then Q .normal a' w' else Q (.exit VD) a' w')
   simp only [yH] at h3
   by_cases hid:VD=id
   ·rw [Ab hid] at h3⊢;exact hQ .normal _ _ _ h3 h'
   ·rw [Ag hid] at h3⊢;exact hQ (.exit VD) _ _ _ h3 h'
 |loop Q1 _ _ h3 VE GR=>
  intro a w Q h hQ
  rename_i c st Q0 _ _
  have key:tm P c Q a w:=by
   refine HJ ((VE a w _ (UG _ h) λe st' a' w' hk h'=>?_).1)
   cases e with
   |normal=>exact (GR st' hk a' w' Q h' hQ).2 c rfl
   |exit id=>exact hQ (.exit id) _ _ _ (h3 _ _ (by simp) hk) h'
   |ret=>exact hQ .ret _ _ _ (h3 _ _ (by simp) hk) h'
  exact ⟨YL key,λc' e=>by cases e;exact key⟩
def PR (tmps:Array Value):ResultVar->Sem Value
 | .tmp t=>pure (tmps.getD t undef)
 | .cell p t=>do loadVar t (<-asAddr (tmps.getD p undef))
theorem fK (fn:Func) (tmps:Array Value):results fn tmps=(do
  let vs<-fn.results.mapM (PR tmps)
  pure (if h:vs.size=1 then vs[0] else .tuple vs)):=by
 rfl
theorem TB {α:Type} {l:List α} (h:l.length=2): ∃a b,l= [a,b]:=by
 rcases l with _|⟨a,_|⟨b,_|⟨c,r⟩⟩⟩<;>simp at h
 exact ⟨a,b,rfl⟩
theorem yP {α:Type} {l:List α} (h:l.length=3): ∃a b c,l= [a,b,c]:=by
 rcases l with _|⟨a,_|⟨b,_|⟨c,_|⟨d,r⟩⟩⟩⟩<;>simp at h
 exact ⟨a,b,c,rfl⟩
theorem HH {t:TypeId} {v u:Value} (h:(Instr.loadAt t v).run P w= .ok u w):(do loadVar t (<-asAddr v):Sem Value).run P w= .ok u w:=by
 unfold Instr.loadAt at h
 cases v with
 |pointer a=>
  cases a with
  |some a=>simpa [Instr.sureAddr,asAddr] using h
  |none=>simp [Instr.sureAddr,Result.andThen] at h
 |_=>simp [Instr.sureAddr,Result.andThen] at h
theorem Yk (hT:Eb P T) {st:St} {a:Act} (h:Bl X π st a w): ∀(rs:List ResultVar) (l:List AV),dE T st rs=some l->
  ∃vs:List Value,vs.length=rs.length/\l.length=rs.length/\(∀(i:Nat) r v,rs[i]?=some r->vs[i]?=some v->(PR a.tmps r).run P w= .ok v w)/\(∀(i:Nat) c v,l[i]?=some c->vs[i]?=some v->Bp X w π st.heap c v)
 | [],l,he=>by
  simp only [dE,Aa] at he;subst he
  exact ⟨[],rfl,rfl,λi r v hr=>by simp at hr,λi c v hc=>by simp at hc⟩
 | .tmp t::r,l,he=>by
  simp only [dE] at he
  cases hr:dE T st r with
  |none=>rw [hr] at he;cases he
  |some l'=>
   rw [hr] at he
   simp only [Am,Aa] at he;subst he
   obtain ⟨vs,h1,h2,h3,h4⟩:=Yk hT h r l' hr
   refine ⟨a.tmps.getD t undef::vs,by simp [h1],by simp [h2],λi r' v dM hv=>?_,λi c v hc hv=>?_⟩
   ·rcases i with _|i
    ·rw [Cb,Aa] at dM hv;subst dM;subst hv;rfl
    ·exact h3 i r' v (by simpa using dM) (by simpa using hv)
   ·rcases i with _|i
    ·rw [Cb,Aa] at hc hv;subst hc;subst hv;exact h.2.tmps t
    ·exact h4 i c v (by simpa using hc) (by simpa using hv)
 | .cell p t::r,l,he=>by
  simp only [dE] at he
  split at he
  ·rename_i c0 l' hl0 hr
   simp only [Aa] at he;subst he
   obtain ⟨u,hu,hru⟩:=nw hT h t _ _ c0 (h.2.tmps p) hl0
   obtain ⟨vs,h1,h2,h3,h4⟩:=Yk hT h r l' hr
   refine ⟨u::vs,by simp [h1],by simp [h2],λi r' v dM hv=>?_,λi c v hc hv=>?_⟩
   ·rcases i with _|i
    ·simp at dM hv;subst dM;subst hv;exact HH hu
    ·exact h3 i r' v (by simpa using dM) (by simpa using hv)
   ·rcases i with _|i
    ·simp at hc hv;subst hc;subst hv;exact hru
    ·exact h4 i c v (by simpa using hc) (by simpa using hv)
  ·cases he
theorem FO (hT:Eb P T) {st:St} {a:Act} (h:Bl X π st a w) (s:Spec) (fn:Func) (fr:Bool) (y:s.res.den) (he:nB T s fn st=some (fr,y)) {S:Nat->Prop} (hS:Tu X S fr):
  ∃v,(results fn a.tmps).run P w= .ok v w/\lX s w S v y:=by
 have hrs:fn.results=fn.results.toList.toArray:=Array.toArray_toList.symm
 unfold nB at he
 split at he
 ·rename_i c hl
  obtain ⟨vs,h1,h2,h3,h4⟩:=Yk hT h _ _ hl
  split at he
  ·cases he
  ·rename_i hm
   have hlen:fn.results.toList.length=1:=by rw [<-h2];rfl
   obtain ⟨r,hr⟩:=Df.1 hlen
   rw [hlen] at h1
   obtain ⟨v,rfl⟩:=Df.1 h1
   have e0:=h3 0 r v (by rw [hr];rfl) rfl
   refine ⟨v,?_,?_⟩
   ·rw [fK,hrs,hr]
    simp [e0]
   ·unfold lX
    rw [Ag hm]
    exact Zf h.1 s.res c v fr y (h4 0 c v rfl rfl) he hS
 ·rename_i c d hl
  obtain ⟨vs,h1,h2,h3,h4⟩:=Yk hT h _ _ hl
  split at he
  ·rename_i hm
   have hlen:fn.results.toList.length=2:=by rw [<-h2];rfl
   obtain ⟨r1,r2,hr⟩:=TB hlen
   rw [hlen] at h1
   obtain ⟨v1,v2,rfl⟩:=TB h1
   have e0:=h3 0 r1 v1 (by rw [hr];rfl) rfl
   have e1:=h3 1 r2 v2 (by rw [hr];rfl) rfl
   refine ⟨.tuple #[v1,v2],?_,?_⟩
   ·rw [fK,hrs,hr]
    simp [e0,e1]
   ·unfold lX
    rw [Ab hm]
    exact ⟨[v1,v2],rfl,bt h.1 s.res _ _ fr y rfl h4 he hS⟩
  ·cases he
 ·rename_i c d d' hl
  obtain ⟨vs,h1,h2,h3,h4⟩:=Yk hT h _ _ hl
  split at he
  ·rename_i hm
   have hlen:fn.results.toList.length=3:=by rw [<-h2];rfl
   obtain ⟨r1,r2,r3,hr⟩:=yP hlen
   rw [hlen] at h1
   obtain ⟨v1,v2,v3,rfl⟩:=yP h1
   have e0:=h3 0 r1 v1 (by rw [hr];rfl) rfl
   have e1:=h3 1 r2 v2 (by rw [hr];rfl) rfl
   have e2:=h3 2 r3 v3 (by rw [hr];rfl) rfl
   refine ⟨.tuple #[v1,v2,v3],?_,?_⟩
   ·rw [fK,hrs,hr]
    simp [e0,e1,e2]
   ·unfold lX
    rw [Ab hm]
    exact ⟨[v1,v2,v3],rfl,bt h.1 s.res _ _ fr y rfl h4 he hS⟩
  ·cases he
 ·cases he
theorem tB {S:Nat->Prop} : ∀(τ:Ty) (vs:List Value) (x:τ.den),Cv w S τ vs x->
  (Tb τ x).length=vs.length/\ ∀i,Bp ⟨w,S,λ_=>False,λ_=>none⟩ w (λ_=>none) [] ((Tb τ x).getD i .undef) (vs.getD i undef)
 | .pair a r,[],x,h=>h.elim
 | .pair a r,v::vs,x,h=>by
  obtain ⟨h1,h2⟩:=tB r vs x.2 h.2
  refine ⟨by simp [Tb,h1],λi=>?_⟩
  rcases i with _|i
  ·simp only [Tb,Xq]
   cases hf:a.flat with
   |true=>exact Ct.flat hf h.1
   |false=>
    exact Ct.Im h.1 λk _ hk=>by
     rcases hk with ⟨l,r,hl,_⟩|hk|⟨hk,_⟩
     ·cases hl
     ·exact hk
     ·cases hk
  ·simpa [Tb] using h2 i
 | .unit,[],_,_=>⟨rfl,λi=>by simp [Tb];trivial⟩
 | .unit,_::_,_,h=>h.elim
 | .int _,_,_,h=>by simp [Cv] at h
 | .bool,_,_,h=>by simp [Cv] at h
 | .str,_,_,h=>by simp [Cv] at h
 | .slice _,_,_,h=>by simp [Cv] at h
 | .ptr _,_,_,h=>by simp [Cv] at h
 | .oslice _,_,_,h=>by simp [Cv] at h
 | .optr _,_,_,h=>by simp [Cv] at h
 | .smap _,_,_,h=>by simp [Cv] at h
 | .clo _ _,_,_,h=>by simp [Cv] at h
theorem zR (hT:Eb P T) (Pl:Kj P Γ) (hm:P.follows .mixedOrders=true) {f:FuncId} {fn:Func} (hf:P.funcs[f]?=some fn) (s:Spec) (w:World) (S:Nat->Prop) (vs:List Value) (x:s.arg.den) (y:s.res.den)
  (hS: ∀k,S k->k<w.heap.size) (hx:Cv w S s.arg vs x) (he:ZB T Γ s fn x λz=>z=y):
  Calls P f vs.toArray w λe w'=> ∃v,e= .returned v/\Below w.heap.size w w'/\lX s w' (λb=>S b\/(s.fresh=true/\b<w.heap.size)) v y:=by
 obtain ⟨c,hb,he⟩:=he
 skip
 ·obtain ⟨hl,Rb⟩:=tB (w:=w) s.arg vs x hx
  have h0:Rel ⟨w,S,λ_=>False,λ_=>none⟩ {tmps:=Tb s.arg x++List.replicate (fn.ntmps-(Tb s.arg x).length) .undef,heap:= []} {tmps:=vs.toArray++Array.replicate (fn.ntmps-vs.toArray.size) undef,defers:= []} w:=by
   refine ⟨λ_=>none,⟨Gy.refl _ _ _,λb hb=>⟨hS b hb,λh=>h⟩,(λ_ _ _ h=>by cases h),(λ_ _ _ h=>by cases h),(λ_ _ _ _ _ h=>by cases h),λl _ hn=>absurd rfl hn,λl=>rfl⟩,⟨by simp [hl],rfl,λt=>?_⟩⟩
   have h1:=Rb t
   show Bp _ w _ [] ((Tb s.arg x++List.replicate _ AV.undef).getD t .undef) ((vs.toArray++Array.replicate _ undef).getD t undef)
   by_cases ht:t<vs.length
   ·rw [Ak,As (by omega),<-Ak]
    rw [cB,Tp (by simpa using ht)]
    simpa [Ak] using h1
   ·have:(Tb s.arg x++List.replicate (fn.ntmps-(Tb s.arg x).length) AV.undef).getD t .undef= .undef:=by
     rw [Ak,Ar (by omega)]
     rw [Zg]
     split<;>rfl
    rw [this];trivial
  refine calls_of_wp hf hb ?_
  refine (vA hT Pl hm he _ w _ h0 λe st a' w' ⟨Ik,fr,y',sf,GJ,hy⟩ ⟨π,h'⟩=>?_).1
  subst hy
  have Ao4:=FO hT h' s fn fr y' sf (S:= λb=>S b\/(s.fresh=true/\b<w.heap.size)) ⟨λk hk=>⟨by rcases hk with hk|hk;exact hS k hk;exact hk.2,λh=>h⟩,by
   simp only [Kb,Eg] at GJ
   rcases GJ with h|h
   ·exact .inl h
   ·right;intro k hk;rcases hk with hk|⟨hk,_⟩
    ·exact hk
    ·rw [h] at hk;cases hk⟩
  obtain ⟨v,hv,hr⟩:=Ao4
  cases e with
  |normal=>exact ⟨h'.2.defers,v,hv,v,rfl,h'.1.below.plain,hr⟩
  |ret=>exact ⟨h'.2.defers,v,hv,v,rfl,h'.1.below.plain,hr⟩
  |exit id=>exact absurd rfl (Ik id)
theorem bS {f:FuncId} {fn:Func} (hf:P.funcs[f]?=some fn) (hn:(fn.name== "runtime.NumGoroutine")=false) (hb:fn.body.isNone=false) (args:Array Value) (w:World):
  (callFunc f args).run P w= .ok (.enter f args) w:=by
 unfold callFunc
 simp only [Sem.run_bind,run_program,Result.andThen_ok,hf,hn,hb,Dh,Tt,Sem.run_pure]
theorem Ace (hT:Eb P T) (Pl:Kj P Γ) (hm:P.follows .mixedOrders=true) {f:FuncId} {fn:Func} (hf:P.funcs[f]?=some fn) (hn:(fn.name== "runtime.NumGoroutine")=false) (hb:fn.body.isNone=false) (s:Spec)
  (h: ∀x y,s.fn x=some y->ZB T Γ s fn x λz=>z=y):Sound P f s:=
 ⟨bS hf hn hb,λw S vs x y hS hx hy=>zR hT Pl hm hf s w S vs x y hS hx (h x y hy)⟩
end
end Go.Proofs.YtfolipnappekaaaGreat
