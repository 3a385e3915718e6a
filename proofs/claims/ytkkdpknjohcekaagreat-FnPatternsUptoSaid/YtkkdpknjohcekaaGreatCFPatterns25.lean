/-
  Part 26 of the proof that the statement FnPatterns holds.
-/
import Derived.Test.YtkkdpknjohcekaaGreatCFPatterns24
namespace Go.Proofs.YtkkdpknjohcekaaGreat
open Go.RowKit
section
variable {P:Program} {T:Tab} {Γ:Env} {X:Ctx} {w w':World} {π:Pi}
def c6 (π:Pi) (l k:Nat):Pi:= λm=>if m=k then π l else if m=l then none else π m
theorem ZS {st:St} {l k:Nat} {b:OB} (hk:At st.heap k=none) (hl:At st.heap l=some b):
  At (Og (aA (st.heap.map λp=>(p.1,p.2.map (Vn l k))) l) k (b.map (Vn l k))) k=some (b.map (Vn l k))/\
  At (Og (aA (st.heap.map λp=>(p.1,p.2.map (Vn l k))) l) k (b.map (Vn l k))) l=none/\
  ∀m,m≠k->m≠l->At (Og (aA (st.heap.map λp=>(p.1,p.2.map (Vn l k))) l) k (b.map (Vn l k))) m=(At st.heap m).map (OB.map (Vn l k)):=by
 have Iz:l≠k:= λe=>by subst e;rw [hk] at hl;cases hl
 refine ⟨Qn _ _ _ ?_,?_,λm h1 h2=>?_⟩
 ·rw [Ns _ _ _ Iz.symm,Oq,hk];rfl
 ·rw [Pg _ _ _ _ Iz,Mp]
 ·rw [Pg _ _ _ _ h1,Ns _ _ _ h2,Oq]
theorem Move.ren {st:St} {l k:Nat} {b:OB} {H':List (Nat×OB)} (hk:At st.heap k=none) (hl:At st.heap l=some b) (e1:At H' k=some (b.map (Vn l k))) (_e2:At H' l=none)
  (e3: ∀m,m≠k->m≠l->At H' m=(At st.heap m).map (OB.map (Vn l k))) (ey: ∀c,Vy (c6 π l k) c->Vy π c):Move X w w π (c6 π l k) st.heap H' (Vn l k):=by
 have Iz:l≠k:= λe=>by subst e;rw [hk] at hl;cases hl
 have hc: ∀fr τ cs x,Cells w (Da X.w0.heap.size X.Sc π fr) τ cs x->Cells w (Da X.w0.heap.size X.Sc (c6 π l k) fr) τ cs x:=
  fun fr τ cs x h=>Cells.Fk (Ao _) (λ_ _ _=>rfl) (λc _ hA=>hA.imp (ey c) id) τ cs x h
 have Xm: ∀m c,At st.heap m=some c->At H' (pA l k m)=some (c.map (Vn l k))/\c6 π l k (pA l k m)=π m:=by
  intro m c hm
  unfold pA
  by_cases e:m=l
  ·subst e
   rw [hl] at hm;cases hm
   rw [Ab rfl]
   exact ⟨e1,by unfold c6;rw [Ab rfl]⟩
  ·have e':m≠k:= λe'=>by subst e';rw [hk] at hm;cases hm
   rw [Ak e]
   exact ⟨by rw [e3 m e' e,hm];rfl,by unfold c6;rw [Ak e',Ak e]⟩
 refine ⟨λc v h=>?_,hc⟩
 cases c with
 |data fr τ x=>obtain ⟨cs,h1,h2⟩:=h;exact ⟨cs,hc _ _ _ _ h1,h2⟩
 |own m off len=>
  obtain ⟨b',sz,n,h1,h0,h2,h3⟩:=h
  obtain ⟨g1,g2⟩:=Xm m b' h1
  exact ⟨_,sz,n,g1,by cases b'<;>exact h0,h2,by rw [g2];exact h3⟩
 |Hr m i=>
  obtain ⟨r,tid,vs,h1,h2,h3⟩:=h
  obtain ⟨g1,g2⟩:=Xm m _ h1
  exact ⟨r,tid,_,g1,by rw [g2];exact h2,h3⟩
 |Ki m i=>
  obtain ⟨r,b',sz,n,h1,h0,h2,h3,h4⟩:=h
  obtain ⟨g1,g2⟩:=Xm m b' h1
  exact ⟨r,_,sz,n,g1,by cases b'<;>exact h0,h2,by rw [g2];exact h3,h4⟩
 |sub m i c=>
  obtain ⟨r,b,sz,n,h1,h0,h2,h3,h4,h5⟩:=h
  obtain ⟨g1,g2⟩:=Xm m _ h1
  exact ⟨r,_,sz,n,g1,by cases b<;>exact h0,by rw [g2];exact h2,h3,h4,h5⟩
 |Kf m i c=>
  obtain ⟨r,b,n,sz,g,o,len,cap,h1,h0,h2,h3⟩:=h
  obtain ⟨g1,g2⟩:=Xm m _ h1
  exact ⟨r,_,n,sz,g,o,len,cap,g1,by cases b<;>exact h0,by rw [g2];exact h2,h3⟩
 |clo f Ef=>
  obtain ⟨us,h1,h2,h3⟩:=h
  refine ⟨us,h1,by simpa using h2,λj p hp=>?_⟩
  rw [Et] at hp
  cases hq:Ef[j]? with
  |none=>rw [hq] at hp;cases hp
  |some q=>
   rw [hq] at hp
   simp only [Am,Aa] at hp
   subst hp
   obtain ⟨r,tid,vs,h4,h5,h6⟩:=h3 j q hq
   obtain ⟨g1,g2⟩:=Xm q.1 _ h4
   exact ⟨r,tid,_,g1,by rw [g2];exact h5,h6⟩
 |Kq m=>
  obtain ⟨r,vt,f,h1,h2,h3⟩:=h
  obtain ⟨g1,g2⟩:=Xm m _ h1
  exact ⟨r,vt,f,g1,by rw [g2];exact h2,h3⟩
 |_=>exact h
theorem OH (l k:Nat) {st:St} {a:Act} (h:Rel X st a w):Rel X (st.rename l k) a w:=by
 unfold St.rename
 split
 ·rename_i b hk hl
  split
  ·rename_i hp
   simp only [Ag,Nf] at hp
   obtain ⟨π,h⟩:=h
   have Iz:l≠k:= λe=>by subst e;rw [hk] at hl;cases hl
   obtain ⟨e1,e2,e3⟩:=ZS hk hl
   have hpk:π k=none:=(h.1.heap k).emp hk
   have un: ∀m r,c6 π l k m=some r-> ∃m',π m'=some r/\pA l k m'=m:= λm r hm=>by
    unfold c6 at hm
    split at hm
    ·rename_i e;subst e;exact ⟨l,hm,by unfold pA;rw [Ab rfl]⟩
    ·rename_i e
     split at hm
     ·cases hm
     ·rename_i e';exact ⟨m,hm,by unfold pA;rw [Ak e']⟩
   have m:=Move.ren (X:=X) (w:=w) (π:=π) hk hl e1 e2 e3 λc ⟨j,r,h1,h2⟩=>let ⟨j',h3,_⟩:=un j r h1;⟨j',r,h3,h2⟩
   refine ⟨c6 π l k,⟨h.1.below,h.1.sc,λj r c h1 h2=>?_,λj r c h1 h2=>?_,λj1 j2 r1 r2 c h1 h2 h3 h4=>?_,λj hj Aiy=>?_,λj=>?_⟩,?_⟩
   ·obtain ⟨j',h3,_⟩:=un j r h1;exact h.1.sub j' r c h3 h2
   ·obtain ⟨j',h3,_⟩:=un j r h1;exact h.1.place j' r c h3 h2
   ·obtain ⟨j1',g1,g2⟩:=un j1 r1 h1
    obtain ⟨j2',g3,g4⟩:=un j2 r2 h2
    rw [<-g2,<-g4,h.1.inj j1' j2' r1 r2 c g1 g3 h3 h4]
   ·have n1:j≠k:= λe=>by omega
    have n2:j≠l:= λe=>by omega
    have Amw:At st.heap j≠none:= λh0=>Aiy ((e3 j n1 n2).trans (by rw [h0];rfl))
    have:=h.1.ic j hj Amw
    unfold c6
    rw [Ak n1,Ak n2]
    exact this
   ·by_cases n1:j=k
    ·subst n1
     refine Gp.Lu ?_ e1
     unfold c6
     rw [Ab rfl]
     exact ((h.1.heap l).Ro hl).move m (Ao _) (λr0 c h0 h1=>h.1.sub _ r0 c h0 h1) λ_ _ _ _ _=>rfl
    ·by_cases n2:j=l
     ·subst n2
      exact Gp.Um (by unfold c6;rw [Ak n1,Ab rfl]) e2
     ·have hr:c6 π l k j=π j:=by unfold c6;rw [Ak n1,Ak n2]
      have hn:=e3 j n1 n2
      have ho:=h.1.heap j
      cases jY:At st.heap j with
      |none=>rw [jY] at hn;exact Gp.Um (by rw [hr];exact ho.emp jY) hn
      |some c=>
       rw [jY] at hn
       refine Gp.Lu ?_ hn
       rw [hr]
       exact (ho.Ro jY).move m (Ao _) (λr0 c h0 h1=>h.1.sub _ r0 c h0 h1) λ_ _ _ _ _=>rfl
   ·have:sf X w (c6 π l k) {tmps:=st.tmps.map (·.map (Vn l k)),heap:=Og (aA (st.heap.map λp=>(p.1,p.2.map (Vn l k))) l) k (b.map (Vn l k))} a:=m.OG rfl h.2
    exact this
  ·exact h
 ·exact h
theorem jk: ∀(n t:Nat) (st:St) (a:Act) (w:World),Rel X st a w->Rel X (Mr n t st) a w
 |0,_,_,_,_,h=>h
 |n+1,t,st,a,w,h=>by
  simp only [Mr]
  refine jk n (t+1) _ a w ?_
  split
  ·split
   ·split
    ·exact h
    ·exact OH _ _ h
   ·exact h
  ·exact h
theorem jX (f:Nat->OB->OB): ∀(H:List (Nat×OB)) (l:Nat),At (H.map λp=>(p.1,f p.1 p.2)) l=(At H l).map (f l)
 | [],_=>rfl
 |(k,b)::r,l=>by
  simp only [Bu,At]
  split
  ·rename_i e;subst e;rfl
  ·exact jX f r l
theorem OB.JS (x y z:Bool) (b:OB):(b.It x y z).row=b.row:=by cases b<;>rfl
def oz (live:List Nat) (l:Nat) (b:OB):OB:=b.It (live.contains Ue) (live.contains (jM+l)) (live.contains (vD+l))
theorem Move.It (live:List Nat) {H:List (Nat×OB)} :Move X w w π π H (H.map λp=>(p.1,oz live p.1 p.2)) (λc=>c):=by
 refine ⟨λc v h=>?_,λfr τ cs x h=>h⟩
 have Xm: ∀m c,At H m=some c->At (H.map λp=>(p.1,oz live p.1 p.2)) m=some (oz live m c):= λm c hm=>by rw [jX,hm];rfl
 cases c with
 |own m off len=>
  obtain ⟨b',sz,n,h1,h0,h2,h3⟩:=h
  exact ⟨_,sz,n,Xm m b' h1,by unfold oz;rw [OB.JS];exact h0,h2,h3⟩
 |Hr m i=>
  obtain ⟨r,tid,vs,h1,h2,h3⟩:=h
  exact ⟨r,tid,_,Xm m _ h1,h2,h3⟩
 |Ki m i=>
  obtain ⟨r,b',sz,n,h1,h0,h2,h3,h4⟩:=h
  exact ⟨r,_,sz,n,Xm m b' h1,by unfold oz;rw [OB.JS];exact h0,h2,h3,h4⟩
 |sub m i c=>
  obtain ⟨r,b,sz,n,h1,h0,h2⟩:=h
  exact ⟨r,_,sz,n,Xm m _ h1,by cases b<;>exact h0,h2⟩
 |Kf m i c=>
  obtain ⟨r,b,n,sz,g,o,len,cap,h1,h0,h2⟩:=h
  exact ⟨r,_,n,sz,g,o,len,cap,Xm m _ h1,by cases b<;>exact h0,h2⟩
 |clo f Ef=>
  obtain ⟨us,h1,h2,h3⟩:=h
  refine ⟨us,h1,h2,λj p hp=>?_⟩
  obtain ⟨r,tid,vs,h4,h5,h6⟩:=h3 j p hp
  exact ⟨r,tid,_,Xm p.1 _ h4,h5,h6⟩
 |Kq m=>
  obtain ⟨r,vt,f,h1,h2,h3⟩:=h
  exact ⟨r,vt,f,Xm m _ h1,h2,h3⟩
 |_=>exact h
theorem Ada (live:List Nat) {st:St} {a:Act} (h:Rel X st a w):Rel X (st.It live) a w:=by
 obtain ⟨π,h⟩:=h
 have m:=Move.It (X:=X) (w:=w) (π:=π) live (H:=st.heap)
 refine ⟨π,⟨h.1.below,h.1.sc,h.1.sub,h.1.place,h.1.inj,λj hj Iz=>h.1.ic j hj λh0=>Iz (by show At (st.heap.map λp=>(p.1,oz live p.1 p.2)) j=none;rw [jX,h0];rfl),λj=>?_⟩,?_⟩
 ·have hn:At (st.It live).heap j=(At st.heap j).map (oz live j):=jX (oz live) st.heap j
  have ho:=h.1.heap j
  cases jY:At st.heap j with
  |none=>rw [jY] at hn;exact Gp.Um (ho.emp jY) hn
  |some c=>
   rw [jY] at hn
   refine Gp.Lu ?_ hn
   have hb:=(ho.Ro jY).move m (Ao _) (λr0 c h0 h1=>h.1.sub _ r0 c h0 h1) λ_ _ _ _ _=>rfl
   cases c with
   |arr fr tr e tid xs=>
    simp only [OB.map,Cj,Kg,OB.It,oz] at hb⊢
    cases hp:π j with
    |none=>rw [hp] at hb;exact hb
    |some r=>
     rw [hp] at hb
     obtain ⟨⟨g1,g2,g3⟩,cur,ti,g4,g5,g6,g7,g8,g9⟩:=hb
     refine ⟨⟨g1,g2,λhf=>g3 (Bc.1 hf).1⟩,cur,ti,g4,g5,g6,g7,λi x hx=>?_,λht=>g9 (Bc.1 ht).1⟩
     obtain ⟨es,k1,k2,k3⟩:=g8 i x hx
     refine ⟨es,k1,k2,Cells.Fk (Ao _) (λ_ _ _=>rfl) (λb _ hA=>?_) e es x k3⟩
     exact hA.imp id (Or.imp id λ⟨h1,h2⟩=>⟨(Bc.1 h1).1,h2⟩)
   |Hf e tid xs=>exact hb
   |Bl e te rows out kp=>exact hb
   |var tid vs=>
    have e:(OB.var tid vs).map (λc=>c)= .var tid vs:=by simp [OB.map]
    rw [e] at hb
    obtain ⟨r',h1,h2,cur,h3,h4,h5⟩:=hb
    refine ⟨r',h1,h2,cur,h3,by rw [h4,Ch],λi c hc=>?_⟩
    rw [Et] at hc
    cases hv:vs[i]? with
    |none=>rw [hv] at hc;cases hc
    |some c0=>
     rw [hv] at hc
     obtain ⟨u,k1,k2,k3⟩:=h5 i c0 hv
     refine ⟨u,k1,k2,?_⟩
     have hc:AC.Ahs (live.contains Ue) c0=c:=Bd hc
     subst hc
     cases c0 with
     |data fr τ x=>
      show Cw w (Da X.w0.heap.size X.Sc π (fr&&!(live.contains Ue&&τ.flat))) τ u x
      exact Cw.It k3 λb _ hA=>hA.imp id (Or.imp id λ⟨h1,h2⟩=>⟨(Bc.1 h1).1,h2⟩)
     |_=>exact k3
   |Vw v f=>exact hb
 ·exact ⟨h.2.size,h.2.defers,λt=>by have:=m.av (h.2.tmps t);rwa [AC.map_id] at this⟩
theorem AT (t:Nat) {st:St} {a:Act} (h:Rel X st a w):Rel X (c5 t st) a w:=by
 obtain ⟨π,h⟩:=h
 unfold c5
 split
 ·rename_i l off len hg
  split
  ·rename_i fr tr e tid xs hl
   split
   ·rename_i p7
    have hv:=h.2.tmps t
    rw [hg] at hv
    obtain ⟨π',h1,h2,_⟩:=uo h (by simpa using p7) hl hv
    refine ⟨π',h1.1,⟨?_,h1.2.defers,λk=>?_⟩⟩
    ·show a.tmps.size=(Sr _ t _).length
     rw [aa];exact h1.2.size
    ·show Bs X w π' _ ((Sr _ t _).getD k .undef) _
     rw [Qu]
     split
     ·rename_i hk
      obtain ⟨rfl,_⟩:=hk
      exact h2
     ·exact h1.2.tmps k
   ·exact ⟨π,h⟩
  ·exact ⟨π,h⟩
 ·exact ⟨π,h⟩
theorem Move.Ak9 {H:List (Nat×OB)} {π:Pi} {m:Nat} {tid:TypeId} {vs vs':List AC} (hm:At H m=some (.var tid vs)):Move X w w π π H (ar H m (.var tid vs')) (λc=>c):=by
 have ne: ∀l b,At H l=some b->(∀t us,b≠ .var t us)->At (ar H m (.var tid vs')) l=some b:= λl b h hb=>by
  rw [Ec H m l _ (λe=>by subst e;rw [hm] at h;cases h;exact hb _ _ rfl)];exact h
 have va: ∀l t us,At H l=some (.var t us)-> ∃t' Xh,At (ar H m (.var tid vs')) l=some (.var t' Xh):= λl t us h=>by
  by_cases e:l=m
  ·subst e;exact ⟨_,_,Ez H l _ _ hm⟩
  ·exact ⟨t,us,by rw [Ec H m l _ e];exact h⟩
 refine ⟨λc v h=>?_,λ_ _ _ _ h=>h⟩
 cases c with
 |own l off len=>obtain ⟨b,sz,n,h1,h2,h3⟩:=h;exact ⟨b,sz,n,ne l b h1 (λt us e=>by subst e;cases h2),h2,h3⟩
 |Hr l i=>obtain ⟨r,t,us,h1,h2⟩:=h;obtain ⟨t',Xh,h3⟩:=va l t us h1;exact ⟨r,t',Xh,h3,h2⟩
 |Ki l i=>obtain ⟨r,b,sz,n,h1,h2,h3⟩:=h;exact ⟨r,b,sz,n,ne l b h1 (λt us e=>by subst e;cases h2),h2,h3⟩
 |sub l i c=>obtain ⟨r,b,sz,n,h1,h2,h3⟩:=h;exact ⟨r,b,sz,n,ne l b h1 (λt us e=>by subst e;cases h2),h2,h3⟩
 |Kf l i j=>obtain ⟨r,b,n,sz,g,o,len,cap,h1,h2,h3⟩:=h;exact ⟨r,b,n,sz,g,o,len,cap,ne l b h1 (λt us e=>by subst e;cases h2),h2,h3⟩
 |clo f Ef=>
  obtain ⟨us,h1,h2,h3⟩:=h
  refine ⟨us,h1,h2,λj p hp=>?_⟩
  obtain ⟨r,t,ws,h4,h5⟩:=h3 j p hp
  obtain ⟨t',Xh,h6⟩:=va p.1 t ws h4
  exact ⟨r,t',Xh,h6,h5⟩
 |Kq l=>obtain ⟨r,vt,f,h1,h2⟩:=h;exact ⟨r,vt,f,ne l _ h1 (λt us e=>by cases e),h2⟩
 |_=>exact h
theorem IE {π:Pi} {st:St} {a:Act} (h:Bi X π st a w) {m:Nat} {tid:TypeId} {vs:List AC} (hm:At st.heap m=some (.var tid vs)) {c:Nat} {x:AC}
  (hx: ∀r cur u,π m=some r->w.heap[r.g]?=some (.cells cur tid (0,0))->cur.toList[c]?=some u->Hv X w π st.heap x u):Bi X π (st.Ke m (.var tid (vs.set c x))) a w:=by
 have mv:=Move.Ak9 (X:=X) (w:=w) (π:=π) (vs':=vs.set c x) hm
 refine ⟨⟨h.1.below,h.1.sc,h.1.sub,h.1.place,h.1.inj,λj hj Iz=>h.1.ic j hj λh0=>Iz ?_,λj=>?_⟩,?_⟩
 ·show At (ar st.heap m _) j=none
  rw [Ec _ _ _ _ (λe=>by subst e;rw [hm] at h0;cases h0)];exact h0
 ·have ho:=h.1.heap j
  by_cases e:j=m
  ·subst e
   refine Gp.Lu (b:= .var tid (vs.set c x)) ?_ (Ez st.heap j _ _ hm)
   obtain ⟨r,h1,h2,cur,h3,h4⟩:=ho.Ro hm
   refine ⟨r,h1,h2,cur,h3,?_⟩
   obtain ⟨h5,h6⟩:=h4
   refine ⟨by rw [Cm];exact h5,λi d hd=>?_⟩
   rw [Eh] at hd
   split at hd
   ·rename_i hci
    subst hci
    split at hd
    ·rename_i Jj
     cases hd
     obtain ⟨u,g1,g2,_⟩:=h6 c vs[c] (Ac Jj)
     exact ⟨u,g1,g2,mv.ac _ _ (hx r cur u h1 h3 g1)⟩
    ·cases hd
   ·obtain ⟨u,g1,g2,g3⟩:=h6 i d hd
    exact ⟨u,g1,g2,mv.ac _ _ g3⟩
  ·have hn:At (st.Ke m (.var tid (vs.set c x))).heap j=At st.heap j:=Ec _ _ _ _ e
   cases hg:At st.heap j with
   |none=>exact Gp.Um (ho.emp hg) (hn.trans hg)
   |some b=>
    have hb:=(ho.Ro hg).move mv (Ao _) (λr0 c h0 h1=>h.1.sub _ r0 c h0 h1) λ_ _ _ _ _=>rfl
    refine Gp.Lu ?_ (hn.trans hg)
    have eid:b.map (λc=>c)=b:=by cases b<;>simp [OB.map]
    rw [eid] at hb
    exact hb
 ·exact ⟨h.2.size,h.2.defers,λt=>by have:=mv.av (h.2.tmps t);rwa [AC.map_id] at this⟩
theorem pz (c:Nat) {st:St} {a:Act} (h:Rel X st a w):Rel X (Pz c st) a w:=by
 obtain ⟨π,h⟩:=h
 unfold Pz
 split
 ·rename_i Azv vs hm
  split
  ·rename_i l off len hc
   split
   ·rename_i fr tr e te xs hl
    split
    ·rename_i p7
     split
     ·rename_i tid vs' FL
      have hlv:Ox≠l:= λe=>by subst e;rw [hm] at hl;cases hl
      obtain ⟨r,h1,h2,cur,h3,h4,h5⟩:=(h.1.heap Ox).Ro hm
      obtain ⟨u,g1,g2,g3⟩:=h5 c _ hc
      obtain ⟨π',k1,k2,k3⟩:=uo h (by simpa using p7) hl g3
      refine ⟨π',IE k1 FL λr' al u' q1 q2 q3=>?_⟩
      rw [k3 Ox hlv,h1] at q1
      cases q1
      rw [h3] at q2
      cases q2
      rw [g1] at q3
      cases q3
      exact k2
     ·exact ⟨π,h⟩
    ·exact ⟨π,h⟩
   ·exact ⟨π,h⟩
  ·exact ⟨π,h⟩
 ·exact ⟨π,h⟩
theorem gJ (live:List Nat): ∀(n c:Nat) (st:St) (a:Act) (w:World),Rel X st a w->Rel X (Pn live n c st) a w
 |0,_,_,_,_,h=>h
 |n+1,c,st,a,w,h=>by
  simp only [Pn]
  refine gJ live n (c+1) _ a w ?_
  split
  ·exact pz c h
  ·exact h
theorem lg (live:List Nat): ∀(n t:Nat) (st:St) (a:Act) (w:World),Rel X st a w->Rel X (Ov live n t st) a w
 |0,_,st,a,w,h=>gJ live 16 0 st a w h
 |n+1,t,st,a,w,h=>by
  simp only [Ov]
  refine lg live n (t+1) _ a w ?_
  split
  ·exact AT t h
  ·exact h
theorem TI (live:List Nat) {st:St} {a:Act} (h:Rel X st a w):Rel X (st.clean live) a w:=by
 obtain ⟨π,h⟩:=h
 have Aam: ∀s:St,Rel X s a w->Rel X (if live.any (λt=>Nat.ble Ue t) then s.It live else s) a w:=by
  intro s hs
  split
  ·exact Ada live hs
  ·exact hs
 have key: ∀s:St,Rel X s a w->Rel X (if live.contains cY then Mr s.tmps.length 0 s else s) a w:=by
  intro s hs
  split
  ·exact jk _ _ _ a w hs
  ·exact hs
 have Aan: ∀s:St,Rel X s a w->Rel X (if live.any (λt=>Nat.ble Sa t&&Nat.blt t cY) then Ov live s.tmps.length 0 s else s) a w:=by
  intro s hs
  split
  ·exact lg _ _ _ _ a w hs
  ·exact hs
 unfold St.clean
 refine Aam _ (key _ (Aan _ (dt _ _ a w ⟨π,h.1,⟨by simp [Xx,h.2.size],h.2.defers,λt=>?_⟩⟩)))
 show Bs X w π st.heap ((Iq live 0 st.tmps).getD t .undef) _
 rcases bH live 0 st.tmps t with e|e
 ·rw [e];trivial
 ·rw [e];exact h.2.tmps t
def Ai7:Lp->Exit
 | .normal=> .normal
 | .exit id=> .exit id
 | .ret=> .ret
def se (P:Program) (c:Code) (Q:Exit->Act->World->Prop) (a:Act) (w:World):Prop:=
 ∀(b:Frame) (k:List Item) (cs:List Frame),∃e a' w',Q e a' w'/\Arrives P (lone (b.at a (.code c:: .inLoop c::k)) cs w) b k cs e a' w'
theorem GK {c:Code} {Q:Exit->Act->World->Prop} {a:Act} {w:World} (h:c.wp P (Exit.then (se P c Q) Q) a w):se P c Q a w:=by
 intro b k cs
 obtain ⟨e,YV,Adb,hq,FF⟩:=h b (.inLoop c::k) cs
 cases e with
 |normal=>
  obtain ⟨Ard,Ar7,Auh,Ane,Ae8⟩:=hq b k cs
  exact ⟨Ard,Ar7,Auh,Ane, .of_steps (Steps.trans FF (.one step_inLoop)) Ae8⟩
 |exit id=>exact ⟨_,YV,Adb,hq, .pass (x:= .inLoop c) rfl (λ_ _=> .inl (by simp)) FF⟩
 |goto l=>exact ⟨_,YV,Adb,hq, .pass (x:= .inLoop c) rfl (λ_ _=> .inl (by simp)) FF⟩
 |ret=>exact ⟨_,YV,Adb,hq, .pass (x:= .inLoop c) rfl (λ_ _=> .inl (by simp)) FF⟩
 |panic ch=>exact ⟨_,YV,Adb,hq, .pass (x:= .inLoop c) rfl (λ_ _=> .inl (by simp)) FF⟩
 |outgrown=>exact ⟨_,YV,Adb,hq, .pass (x:= .inLoop c) rfl (λ_ _=> .inl (by simp)) FF⟩
theorem XW {c:Code} {Q:Exit->Act->World->Prop} {a:Act} {w:World} (h:se P c Q a w):(Code.loop c).wp P Q a w:=by
 intro b k cs
 obtain ⟨e,a',w',hq,FF⟩:=h b k cs
 exact ⟨e,a',w',hq, .of_steps (.one step_loop) FF⟩
theorem gw (ops:Array Oper): ∀(i:Nat) (l:List AV),(On ops i l).length=l.length
 |_,[]=>rfl
 |i,v::r=>by cases v<;>simp [On,gw ops (i+1) r]
theorem kN (ops:Array Oper): ∀(i:Nat) (l:List AV) (t:Nat),(On ops i l).getD t .undef= .undef\/(On ops i l).getD t .undef=l.getD t .undef
 |_,[],_=> .inr rfl
 |i,v::r,0=>by
  cases v with
  |Mt l=>
   simp only [On,Xr]
   split
   ·exact .inr rfl
   ·exact .inl rfl
  |_=>exact .inr rfl
 |i,v::r,t+1=>by
  have h:=kN ops (i+1) r t
  cases v<;>(simp only [On,Nm];exact h)
theorem EL (ops:Array Oper) {st:St} {a:Act} (h:Rel X st a w):Rel X (st.mU ops) a w:=by
 obtain ⟨π,h⟩:=h
 refine ⟨π,h.1,⟨by show a.tmps.size=(On ops 0 st.tmps).length;rw [gw];exact h.2.size,h.2.defers,λt=>?_⟩⟩
 show Bs X w π st.heap ((On ops 0 st.tmps).getD t .undef) _
 rcases kN ops 0 st.tmps t with e|e
 ·rw [e];trivial
 ·rw [e];exact h.2.tmps t
theorem uy (hT:Eb P T) (Ot:Kv P Γ) (hm:P.follows .mixedOrders=true) {live:Nat->List Nat} {c:Code} {st:St} {K:Lp->St->Prop} (hr:Of T Γ live c st K):
  ∀(a:Act) (w:World) (Q:Exit->Act->World->Prop),Rel X st a w->(∀e st' a' w',K e st'->Rel X st' a' w'->Q (Ai7 e) a' w')->c.wp P Q a w/\ ∀c',c= .loop c'->se P c' Q a w:=by
 induction hr with
 |skip hk=>exact λa w Q h hQ=>⟨wp_skip (hQ .normal _ _ _ hk h),λc' e=>by cases e⟩
 |label hk=>exact λa w Q h hQ=>⟨wp_label (hQ .normal _ _ _ hk h),λc' e=>by cases e⟩
 |exit hk=>exact λa w Q h hQ=>⟨wp_exit (hQ (.exit _) _ _ _ hk h),λc' e=>by cases e⟩
 |ret hk=>exact λa w Q h hQ=>⟨wp_ret (hQ .ret _ _ _ hk h),λc' e=>by cases e⟩
 |region hk=>exact λa w Q h hQ=>⟨OF hT (Ot.reg _) hm (EL _ h) hk λst' a' w' h1 h2=>hQ .normal _ _ _ h1 h2,λc' e=>by cases e⟩
 |seq Q1 _ _ h3 UH FU=>
  intro a w Q h hQ
  refine ⟨wp_seq ((UH a w _ h λe st' a' w' hk h'=>?_).1),λc' e=>by cases e⟩
  cases e with
  |normal=>exact (FU st' hk a' w' Q h' hQ).1
  |exit id=>exact hQ (.exit id) _ _ _ (h3 _ _ (by simp) hk) h'
  |ret=>exact hQ .ret _ _ _ (h3 _ _ (by simp) hk) h'
 |cond hc _ _ UH FU=>
  intro a w Q h hQ
  refine ⟨?_,λc' e=>by cases e⟩
  obtain ⟨π,h'⟩:=h
  rename_i c x y st fr t Q0 _ _
  have hr:=Du h'.2 c
  rw [hc] at hr
  refine wp_cond (a9 hr) ?_
  cases t with
  |true=>exact (UH rfl a w Q ⟨π,h'⟩ hQ).1
  |false=>exact (FU rfl a w Q ⟨π,h'⟩ hQ).1
 |block Q1 _ h2 ih=>
  intro a w Q h hQ
  rename_i id c st Q0 _
  refine ⟨wp_block ((ih a w _ h λe st' a' w' hk h'=>?_).1),λc' e=>by cases e⟩
  have h3:=h2 e st' hk
  cases e with
  |normal=>exact hQ .normal _ _ _ h3 h'
  |ret=>exact hQ .ret _ _ _ h3 h'
  |exit UG=>
   show (if UG=id then Q .normal a' w' else Q (.exit UG) a' w')
   simp only [xF] at h3
   by_cases RL:UG=id
   ·rw [Ab RL] at h3⊢;exact hQ .normal _ _ _ h3 h'
   ·rw [Ak RL] at h3⊢;exact hQ (.exit UG) _ _ _ h3 h'
 |loop Q1 _ _ h3 UH FU=>
  intro a w Q h hQ
  rename_i c st Q0 _ _
  have key:se P c Q a w:=by
   refine GK ((UH a w _ (TI _ h) λe st' a' w' hk h'=>?_).1)
   cases e with
   |normal=>exact (FU st' hk a' w' Q h' hQ).2 c rfl
   |exit id=>exact hQ (.exit id) _ _ _ (h3 _ _ (by simp) hk) h'
   |ret=>exact hQ .ret _ _ _ (h3 _ _ (by simp) hk) h'
  exact ⟨XW key,λc' e=>by cases e;exact key⟩
def OJ (tmps:Array Value):ResultVar->Sem Value
 | .tmp t=>pure (tmps.getD t undef)
 | .cell p t=>do loadVar t (<-asAddr (tmps.getD p undef))
theorem fO (fn:Func) (tmps:Array Value):results fn tmps=(do
  let vs<-fn.results.mapM (OJ tmps)
  pure (if h:vs.size=1 then vs[0] else .tuple vs)):=by
 rfl
theorem SB {α:Type} {l:List α} (h:l.length=2): ∃a b,l= [a,b]:=by
 rcases l with _|⟨a,_|⟨b,_|⟨c,r⟩⟩⟩<;>simp at h
 exact ⟨a,b,rfl⟩
theorem xQ {α:Type} {l:List α} (h:l.length=3): ∃a b c,l= [a,b,c]:=by
 rcases l with _|⟨a,_|⟨b,_|⟨c,_|⟨d,r⟩⟩⟩⟩<;>simp at h
 exact ⟨a,b,c,rfl⟩
theorem GI {t:TypeId} {v u:Value} (h:(Instr.loadAt t v).run P w= .ok u w):(do loadVar t (<-asAddr v):Sem Value).run P w= .ok u w:=by
 unfold Instr.loadAt at h
 cases v with
 |pointer a=>
  cases a with
  |some a=>simpa [Instr.sureAddr,asAddr] using h
  |none=>simp [Instr.sureAddr,Result.andThen] at h
 |_=>simp [Instr.sureAddr,Result.andThen] at h
theorem Yn (hT:Eb P T) {st:St} {a:Act} (h:Bi X π st a w): ∀(rs:List ResultVar) (l:List AV),dB T st rs=some l->
  ∃vs:List Value,vs.length=rs.length/\l.length=rs.length/\(∀(i:Nat) r v,rs[i]?=some r->vs[i]?=some v->(OJ a.tmps r).run P w= .ok v w)/\(∀(i:Nat) c v,l[i]?=some c->vs[i]?=some v->Bs X w π st.heap c v)
 | [],l,he=>by
  simp only [dB,Aa] at he;subst he
  exact ⟨[],rfl,rfl,λi r v hr=>by simp at hr,λi c v hc=>by simp at hc⟩
 | .tmp t::r,l,he=>by
  simp only [dB] at he
  cases hr:dB T st r with
  |none=>rw [hr] at he;cases he
  |some l'=>
   rw [hr] at he
   simp only [Am,Aa] at he;subst he
   obtain ⟨vs,h1,h2,h3,h4⟩:=Yn hT h r l' hr
   refine ⟨a.tmps.getD t undef::vs,by simp [h1],by simp [h2],λi r' v dO hv=>?_,λi c v hc hv=>?_⟩
   ·rcases i with _|i
    ·rw [Bz,Aa] at dO hv;subst dO;subst hv;rfl
    ·exact h3 i r' v (by simpa using dO) (by simpa using hv)
   ·rcases i with _|i
    ·rw [Bz,Aa] at hc hv;subst hc;subst hv;exact h.2.tmps t
    ·exact h4 i c v (by simpa using hc) (by simpa using hv)
 | .cell p t::r,l,he=>by
  simp only [dB] at he
  split at he
  ·rename_i c0 l' hl0 hr
   simp only [Aa] at he;subst he
   obtain ⟨u,hu,hru⟩:=nd hT h t _ _ c0 (h.2.tmps p) hl0
   obtain ⟨vs,h1,h2,h3,h4⟩:=Yn hT h r l' hr
   refine ⟨u::vs,by simp [h1],by simp [h2],λi r' v dO hv=>?_,λi c v hc hv=>?_⟩
   ·rcases i with _|i
    ·simp at dO hv;subst dO;subst hv;exact GI hu
    ·exact h3 i r' v (by simpa using dO) (by simpa using hv)
   ·rcases i with _|i
    ·simp at hc hv;subst hc;subst hv;exact hru
    ·exact h4 i c v (by simpa using hc) (by simpa using hv)
  ·cases he
theorem EP (hT:Eb P T) {st:St} {a:Act} (h:Bi X π st a w) (s:Spec) (fn:Func) (fr:Bool) (y:s.res.den) (he:ni T s fn st=some (fr,y)) {S:Nat->Prop} (hS:Tt X S fr):
  ∃v,(results fn a.tmps).run P w= .ok v w/\lH s w S v y:=by
 have hrs:fn.results=fn.results.toList.toArray:=Array.toArray_toList.symm
 unfold ni at he
 split at he
 ·rename_i c hl
  obtain ⟨vs,h1,h2,h3,h4⟩:=Yn hT h _ _ hl
  split at he
  ·cases he
  ·rename_i hm
   have hlen:fn.results.toList.length=1:=by rw [<-h2];rfl
   obtain ⟨r,hr⟩:=Ed.1 hlen
   rw [hlen] at h1
   obtain ⟨v,rfl⟩:=Ed.1 h1
   have e0:=h3 0 r v (by rw [hr];rfl) rfl
   refine ⟨v,?_,?_⟩
   ·rw [fO,hrs,hr]
    simp [e0]
   ·unfold lH
    rw [Ak hm]
    exact Zc h.1 s.res c v fr y (h4 0 c v rfl rfl) he hS
 ·rename_i c d hl
  obtain ⟨vs,h1,h2,h3,h4⟩:=Yn hT h _ _ hl
  split at he
  ·rename_i hm
   have hlen:fn.results.toList.length=2:=by rw [<-h2];rfl
   obtain ⟨r1,r2,hr⟩:=SB hlen
   rw [hlen] at h1
   obtain ⟨v1,v2,rfl⟩:=SB h1
   have e0:=h3 0 r1 v1 (by rw [hr];rfl) rfl
   have e1:=h3 1 r2 v2 (by rw [hr];rfl) rfl
   refine ⟨.tuple #[v1,v2],?_,?_⟩
   ·rw [fO,hrs,hr]
    simp [e0,e1]
   ·unfold lH
    rw [Ab hm]
    exact ⟨[v1,v2],rfl,bb h.1 s.res _ _ fr y rfl h4 he hS⟩
  ·cases he
 ·rename_i c d d' hl
  obtain ⟨vs,h1,h2,h3,h4⟩:=Yn hT h _ _ hl
  split at he
  ·rename_i hm
   have hlen:fn.results.toList.length=3:=by rw [<-h2];rfl
   obtain ⟨r1,r2,r3,hr⟩:=xQ hlen
   rw [hlen] at h1
   obtain ⟨v1,v2,v3,rfl⟩:=xQ h1
   have e0:=h3 0 r1 v1 (by rw [hr];rfl) rfl
   have e1:=h3 1 r2 v2 (by rw [hr];rfl) rfl
   have e2:=h3 2 r3 v3 (by rw [hr];rfl) rfl
   refine ⟨.tuple #[v1,v2,v3],?_,?_⟩
   ·rw [fO,hrs,hr]
    simp [e0,e1,e2]
   ·unfold lH
    rw [Ab hm]
    exact ⟨[v1,v2,v3],rfl,bb h.1 s.res _ _ fr y rfl h4 he hS⟩
  ·cases he
 ·cases he
theorem sv {S:Nat->Prop} : ∀(τ:Ty) (vs:List Value) (x:τ.den),Cu w S τ vs x->
  (Tb τ x).length=vs.length/\ ∀i,Bs ⟨w,S,λ_=>False,λ_=>none⟩ w (λ_=>none) [] ((Tb τ x).getD i .undef) (vs.getD i undef)
 | .pair a r,[],x,h=>h.elim
 | .pair a r,v::vs,x,h=>by
  obtain ⟨h1,h2⟩:=sv r vs x.2 h.2
  refine ⟨by simp [Tb,h1],λi=>?_⟩
  rcases i with _|i
  ·simp only [Tb,Xr]
   cases hf:a.flat with
   |true=>exact Cw.flat hf h.1
   |false=>
    exact Cw.It h.1 λk _ hk=>by
     rcases hk with ⟨l,r,hl,_⟩|hk|⟨hk,_⟩
     ·cases hl
     ·exact hk
     ·cases hk
  ·simpa [Tb] using h2 i
 | .unit,[],_,_=>⟨rfl,λi=>by simp [Tb];trivial⟩
 | .unit,_::_,_,h=>h.elim
 | .int _,_,_,h=>by simp [Cu] at h
 | .bool,_,_,h=>by simp [Cu] at h
 | .str,_,_,h=>by simp [Cu] at h
 | .slice _,_,_,h=>by simp [Cu] at h
 | .ptr _,_,_,h=>by simp [Cu] at h
 | .oslice _,_,_,h=>by simp [Cu] at h
 | .optr _,_,_,h=>by simp [Cu] at h
 | .smap _,_,_,h=>by simp [Cu] at h
 | .clo _ _,_,_,h=>by simp [Cu] at h
theorem zd (hT:Eb P T) (Ot:Kv P Γ) (hm:P.follows .mixedOrders=true) {f:FuncId} {fn:Func} (hf:P.funcs[f]?=some fn) (s:Spec) (w:World) (S:Nat->Prop) (vs:List Value) (x:s.arg.den) (y:s.res.den)
  (hS: ∀k,S k->k<w.heap.size) (hx:Cu w S s.arg vs x) (he:YM T Γ s fn x λz=>z=y):
  Calls P f vs.toArray w λe w'=> ∃v,e= .returned v/\Below w.heap.size w w'/\lH s w' (λb=>S b\/(s.fresh=true/\b<w.heap.size)) v y:=by
 obtain ⟨c,hb,he⟩:=he
 skip
 ·obtain ⟨hl,Ra⟩:=sv (w:=w) s.arg vs x hx
  have h0:Rel ⟨w,S,λ_=>False,λ_=>none⟩ {tmps:=Tb s.arg x++List.replicate (fn.ntmps-(Tb s.arg x).length) .undef,heap:= []} {tmps:=vs.toArray++Array.replicate (fn.ntmps-vs.toArray.size) undef,defers:= []} w:=by
   refine ⟨λ_=>none,⟨Ku.refl _ _ _,λb hb=>⟨hS b hb,λh=>h⟩,(λ_ _ _ h=>by cases h),(λ_ _ _ h=>by cases h),(λ_ _ _ _ _ h=>by cases h),λl _ hn=>absurd rfl hn,λl=>rfl⟩,⟨by simp [hl],rfl,λt=>?_⟩⟩
   have h1:=Ra t
   show Bs _ w _ [] ((Tb s.arg x++List.replicate _ AV.undef).getD t .undef) ((vs.toArray++Array.replicate _ undef).getD t undef)
   by_cases ht:t<vs.length
   ·rw [Ai,As (by omega),<-Ai]
    rw [cr,Tp (by simpa using ht)]
    simpa [Ai] using h1
   ·have:(Tb s.arg x++List.replicate (fn.ntmps-(Tb s.arg x).length) AV.undef).getD t .undef= .undef:=by
     rw [Ai,Ar (by omega)]
     rw [Ze]
     split<;>rfl
    rw [this];trivial
  refine calls_of_wp hf hb ?_
  refine (uy hT Ot hm he _ w _ h0 λe st a' w' ⟨Iz,fr,y',rm,zp,hy⟩ ⟨π,h'⟩=>?_).1
  subst hy
  have An8:=EP hT h' s fn fr y' rm (S:= λb=>S b\/(s.fresh=true/\b<w.heap.size)) ⟨λk hk=>⟨by rcases hk with hk|hk;exact hS k hk;exact hk.2,λh=>h⟩,by
   simp only [Kn,Es] at zp
   rcases zp with h|h
   ·exact .inl h
   ·right;intro k hk;rcases hk with hk|⟨hk,_⟩
    ·exact hk
    ·rw [h] at hk;cases hk⟩
  obtain ⟨v,hv,hr⟩:=An8
  cases e with
  |normal=>exact ⟨h'.2.defers,v,hv,v,rfl,h'.1.below.plain,hr⟩
  |ret=>exact ⟨h'.2.defers,v,hv,v,rfl,h'.1.below.plain,hr⟩
  |exit id=>exact absurd rfl (Iz id)
theorem iz {f:FuncId} {fn:Func} (hf:P.funcs[f]?=some fn) (hn:(fn.name== "runtime.NumGoroutine")=false) (hb:fn.body.isNone=false) (args:Array Value) (w:World):
  (callFunc f args).run P w= .ok (.enter f args) w:=by
 unfold callFunc
 simp only [Sem.run_bind,run_program,Result.andThen_ok,hf,hn,hb,Dd,Rl,Sem.run_pure]
theorem Abz (hT:Eb P T) (Ot:Kv P Γ) (hm:P.follows .mixedOrders=true) {f:FuncId} {fn:Func} (hf:P.funcs[f]?=some fn) (hn:(fn.name== "runtime.NumGoroutine")=false) (hb:fn.body.isNone=false) (s:Spec)
  (h: ∀x y,s.fn x=some y->YM T Γ s fn x λz=>z=y):Sound P f s:=
 ⟨iz hf hn hb,λw S vs x y hS hx hy=>zd hT Ot hm hf s w S vs x y hS hx (h x y hy)⟩
end
end Go.Proofs.YtkkdpknjohcekaaGreat
