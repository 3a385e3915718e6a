/-
  Part 26 of the proof that the statement FnExactBestTableIndex holds.
-/
import Derived.Test.YtfolipnappekaaaGreatCBestTableIndex24
namespace Go.Proofs.YtfolipnappekaaaGreat
open Go.RowKit
section
variable {P:Program} {T:Tab} {Γ:Env} {X:Ctx} {w w':World} {π:Pi}
theorem Yd (live:List Nat): ∀(i:Nat) (l:List AV),(Fu live i l).length=l.length
 |_,[]=>rfl
 |i,v::r=>by simp [Fu,Yd live (i+1) r]
theorem bV (live:List Nat): ∀(i:Nat) (l:List AV) (t:Nat),(Fu live i l).getD t .undef= .undef\/(Fu live i l).getD t .undef=l.getD t .undef
 |_,[],t=> .inr rfl
 |i,v::r,0=>by
  simp only [Fu,List.getD_cons_zero]
  split
  ·exact .inr rfl
  ·exact .inl rfl
 |i,v::r,t+1=>by
  simp only [Fu,List.getD_cons_succ]
  exact bV live (i+1) r t
theorem eK: ∀(l:List Nat) (st:St) (a:Act) (w:World),Rel X st a w->Rel X (Yl l st) a w
 | [],_,_,_,h=>h
 |k::r,_,a,w,⟨_,h⟩=>eK r _ a w ⟨_,h.forget k⟩
def Vn (π:Pi) (l k:Nat):Pi:= λm=>if m=k then π l else if m=l then none else π m
theorem KC {st:St} {l k:Nat} {b:OB} (hk:Ad st.heap k=none) (hl:Ad st.heap l=some b):
  Ad (Iw (Td (st.heap.map λp=>(p.1,p.2.map (Oc l k))) l) k (b.map (Oc l k))) k=some (b.map (Oc l k))/\
  Ad (Iw (Td (st.heap.map λp=>(p.1,p.2.map (Oc l k))) l) k (b.map (Oc l k))) l=none/\
  ∀m,m≠k->m≠l->Ad (Iw (Td (st.heap.map λp=>(p.1,p.2.map (Oc l k))) l) k (b.map (Oc l k))) m=(Ad st.heap m).map (OB.map (Oc l k)):=by
 have Ex:l≠k:= λe=>by subst e;rw [hk] at hl;cases hl
 refine ⟨Km _ _ _ ?_,?_,λm h1 h2=>?_⟩
 ·rw [Ij _ _ _ Ex.symm,Jf,hk];rfl
 ·rw [Jo _ _ _ _ Ex,Hm]
 ·rw [Jo _ _ _ _ h1,Ij _ _ _ h2,Jf]
theorem Move.ren {st:St} {l k:Nat} {b:OB} {H':List (Nat×OB)} (hk:Ad st.heap k=none) (hl:Ad st.heap l=some b) (e1:Ad H' k=some (b.map (Oc l k))) (_e2:Ad H' l=none)
  (e3: ∀m,m≠k->m≠l->Ad H' m=(Ad st.heap m).map (OB.map (Oc l k))) (Yr: ∀c,Om (Vn π l k) c->Om π c):Move X w w π (Vn π l k) st.heap H' (Oc l k):=by
 have Ex:l≠k:= λe=>by subst e;rw [hk] at hl;cases hl
 have hc: ∀fr τ cs x,Cells w (Bd X.w0.heap.size X.Sc π fr) τ cs x->Cells w (Bd X.w0.heap.size X.Sc (Vn π l k) fr) τ cs x:=
  fun fr τ cs x h=>Cells.Ci (Nat.le_refl _) (λ_ _ _=>rfl) (λc _ hA=>hA.imp (Yr c) id) τ cs x h
 have Tk: ∀m c,Ad st.heap m=some c->Ad H' (jW l k m)=some (c.map (Oc l k))/\Vn π l k (jW l k m)=π m:=by
  intro m c hm
  unfold jW
  by_cases e:m=l
  ·subst e
   rw [hl] at hm;cases hm
   rw [if_pos rfl]
   exact ⟨e1,by unfold Vn;rw [if_pos rfl]⟩
  ·have e':m≠k:= λe'=>by subst e';rw [hk] at hm;cases hm
   rw [if_neg e]
   exact ⟨by rw [e3 m e' e,hm];rfl,by unfold Vn;rw [if_neg e',if_neg e]⟩
 refine ⟨λc v h=>?_,hc⟩
 cases c with
 |data fr τ x=>obtain ⟨cs,h1,h2⟩:=h;exact ⟨cs,hc _ _ _ _ h1,h2⟩
 |own m off len=>
  obtain ⟨b',sz,n,h1,h0,h2,h3⟩:=h
  obtain ⟨g1,g2⟩:=Tk m b' h1
  exact ⟨_,sz,n,g1,by cases b'<;>exact h0,h2,by rw [g2];exact h3⟩
 |Dn m i=>
  obtain ⟨r,tid,vs,h1,h2,h3⟩:=h
  obtain ⟨g1,g2⟩:=Tk m _ h1
  exact ⟨r,tid,_,g1,by rw [g2];exact h2,h3⟩
 |Fo m i=>
  obtain ⟨r,b',sz,n,h1,h0,h2,h3,h4⟩:=h
  obtain ⟨g1,g2⟩:=Tk m b' h1
  exact ⟨r,_,sz,n,g1,by cases b'<;>exact h0,h2,by rw [g2];exact h3,h4⟩
 |sub m i c=>
  obtain ⟨r,b,sz,n,h1,h0,h2,h3,h4,h5⟩:=h
  obtain ⟨g1,g2⟩:=Tk m _ h1
  exact ⟨r,_,sz,n,g1,by cases b<;>exact h0,by rw [g2];exact h2,h3,h4,h5⟩
 |Fk m i c=>
  obtain ⟨r,b,n,sz,g,o,len,cap,h1,h0,h2,h3⟩:=h
  obtain ⟨g1,g2⟩:=Tk m _ h1
  exact ⟨r,_,n,sz,g,o,len,cap,g1,by cases b<;>exact h0,by rw [g2];exact h2,h3⟩
 |clo f Bu=>
  obtain ⟨us,h1,h2,h3⟩:=h
  refine ⟨us,h1,by simpa using h2,λj p hp=>?_⟩
  rw [List.getElem?_map] at hp
  cases hq:Bu[j]? with
  |none=>rw [hq] at hp;cases hp
  |some q=>
   rw [hq] at hp
   simp only [Option.map_some,Option.some.injEq] at hp
   subst hp
   obtain ⟨r,tid,vs,h4,h5,h6⟩:=h3 j q hq
   obtain ⟨g1,g2⟩:=Tk q.1 _ h4
   exact ⟨r,tid,_,g1,by rw [g2];exact h5,h6⟩
 |Fw m=>
  obtain ⟨r,vt,f,h1,h2,h3⟩:=h
  obtain ⟨g1,g2⟩:=Tk m _ h1
  exact ⟨r,vt,f,g1,by rw [g2];exact h2,h3⟩
 |_=>exact h
theorem AU (l k:Nat) {st:St} {a:Act} (h:Rel X st a w):Rel X (st.rename l k) a w:=by
 unfold St.rename
 split
 ·rename_i b hk hl
  split
  ·rename_i hp
   simp only [Bool.and_eq_true,Nat.blt_eq] at hp
   obtain ⟨π,h⟩:=h
   have Ex:l≠k:= λe=>by subst e;rw [hk] at hl;cases hl
   obtain ⟨e1,e2,e3⟩:=KC hk hl
   have ZN:π k=none:=(h.1.heap k).emp hk
   have un: ∀m r,Vn π l k m=some r-> ∃m',π m'=some r/\jW l k m'=m:= λm r hm=>by
    unfold Vn at hm
    split at hm
    ·rename_i e;subst e;exact ⟨l,hm,by unfold jW;rw [if_pos rfl]⟩
    ·rename_i e
     split at hm
     ·cases hm
     ·rename_i e';exact ⟨m,hm,by unfold jW;rw [if_neg e']⟩
   have m:=Move.ren (X:=X) (w:=w) (π:=π) hk hl e1 e2 e3 λc ⟨j,r,h1,h2⟩=>let ⟨j',h3,_⟩:=un j r h1;⟨j',r,h3,h2⟩
   refine ⟨Vn π l k,⟨h.1.below,h.1.sc,λj r c h1 h2=>?_,λj r c h1 h2=>?_,λj1 j2 r1 r2 c h1 h2 h3 h4=>?_,λj hj VY=>?_,λj=>?_⟩,?_⟩
   ·obtain ⟨j',h3,_⟩:=un j r h1;exact h.1.sub j' r c h3 h2
   ·obtain ⟨j',h3,_⟩:=un j r h1;exact h.1.place j' r c h3 h2
   ·obtain ⟨j1',g1,g2⟩:=un j1 r1 h1
    obtain ⟨j2',g3,g4⟩:=un j2 r2 h2
    rw [<-g2,<-g4,h.1.inj j1' j2' r1 r2 c g1 g3 h3 h4]
   ·have n1:j≠k:= λe=>by omega
    have n2:j≠l:= λe=>by omega
    have Aas:Ad st.heap j≠none:= λh0=>VY ((e3 j n1 n2).trans (by rw [h0];rfl))
    have:=h.1.bI j hj Aas
    unfold Vn
    rw [if_neg n1,if_neg n2]
    exact this
   ·by_cases n1:j=k
    ·subst n1
     refine Cr.Gs ?_ e1
     unfold Vn
     rw [if_pos rfl]
     exact ((h.1.heap l).Lc hl).move m (Nat.le_refl _) (λr0 c h0 h1=>h.1.sub _ r0 c h0 h1) λ_ _ _ _ _=>rfl
    ·by_cases n2:j=l
     ·subst n2
      exact Cr.Nd (by unfold Vn;rw [if_neg n1,if_pos rfl]) e2
     ·have hr:Vn π l k j=π j:=by unfold Vn;rw [if_neg n1,if_neg n2]
      have hn:=e3 j n1 n2
      have ho:=h.1.heap j
      cases dI:Ad st.heap j with
      |none=>rw [dI] at hn;exact Cr.Nd (by rw [hr];exact ho.emp dI) hn
      |some c=>
       rw [dI] at hn
       refine Cr.Gs ?_ hn
       rw [hr]
       exact (ho.Lc dI).move m (Nat.le_refl _) (λr0 c h0 h1=>h.1.sub _ r0 c h0 h1) λ_ _ _ _ _=>rfl
   ·have:mB X w (Vn π l k) {tmps:=st.tmps.map (·.map (Oc l k)),heap:=Iw (Td (st.heap.map λp=>(p.1,p.2.map (Oc l k))) l) k (b.map (Oc l k))} a:=m.AT rfl h.2
    exact this
  ·exact h
 ·exact h
theorem cR: ∀(n t:Nat) (st:St) (a:Act) (w:World),Rel X st a w->Rel X (Hq n t st) a w
 |0,_,_,_,_,h=>h
 |n+1,t,st,a,w,h=>by
  simp only [Hq]
  refine cR n (t+1) _ a w ?_
  split
  ·split
   ·split
    ·exact h
    ·exact AU _ _ h
   ·exact h
  ·exact h
theorem dH (f:Nat->OB->OB): ∀(H:List (Nat×OB)) (l:Nat),Ad (H.map λp=>(p.1,f p.1 p.2)) l=(Ad H l).map (f l)
 | [],_=>rfl
 |(k,b)::r,l=>by
  simp only [List.map_cons,Ad]
  split
  ·rename_i e;subst e;rfl
  ·exact dH f r l
theorem OB.yC (x y z:Bool) (b:OB):(b.Ek x y z).row=b.row:=by cases b<;>rfl
def jc (live:List Nat) (l:Nat) (b:OB):OB:=b.Ek (live.contains So) (live.contains (Sn+l)) (live.contains (po+l))
theorem Move.Ek (live:List Nat) {H:List (Nat×OB)} :Move X w w π π H (H.map λp=>(p.1,jc live p.1 p.2)) (λc=>c):=by
 refine ⟨λc v h=>?_,λfr τ cs x h=>h⟩
 have Tk: ∀m c,Ad H m=some c->Ad (H.map λp=>(p.1,jc live p.1 p.2)) m=some (jc live m c):= λm c hm=>by rw [dH,hm];rfl
 cases c with
 |own m off len=>
  obtain ⟨b',sz,n,h1,h0,h2,h3⟩:=h
  exact ⟨_,sz,n,Tk m b' h1,by unfold jc;rw [OB.yC];exact h0,h2,h3⟩
 |Dn m i=>
  obtain ⟨r,tid,vs,h1,h2,h3⟩:=h
  exact ⟨r,tid,vs,Tk m _ h1,h2,h3⟩
 |Fo m i=>
  obtain ⟨r,b',sz,n,h1,h0,h2,h3,h4⟩:=h
  exact ⟨r,_,sz,n,Tk m b' h1,by unfold jc;rw [OB.yC];exact h0,h2,h3,h4⟩
 |sub m i c=>
  obtain ⟨r,b,sz,n,h1,h0,h2⟩:=h
  exact ⟨r,_,sz,n,Tk m _ h1,by cases b<;>exact h0,h2⟩
 |Fk m i c=>
  obtain ⟨r,b,n,sz,g,o,len,cap,h1,h0,h2⟩:=h
  exact ⟨r,_,n,sz,g,o,len,cap,Tk m _ h1,by cases b<;>exact h0,h2⟩
 |clo f Bu=>
  obtain ⟨us,h1,h2,h3⟩:=h
  refine ⟨us,h1,h2,λj p hp=>?_⟩
  obtain ⟨r,tid,vs,h4,h5,h6⟩:=h3 j p hp
  exact ⟨r,tid,vs,Tk p.1 _ h4,h5,h6⟩
 |Fw m=>
  obtain ⟨r,vt,f,h1,h2,h3⟩:=h
  exact ⟨r,vt,f,Tk m _ h1,h2,h3⟩
 |_=>exact h
theorem OJ (live:List Nat) {st:St} {a:Act} (h:Rel X st a w):Rel X (st.Ek live) a w:=by
 obtain ⟨π,h⟩:=h
 have m:=Move.Ek (X:=X) (w:=w) (π:=π) live (H:=st.heap)
 refine ⟨π,⟨h.1.below,h.1.sc,h.1.sub,h.1.place,h.1.inj,λj hj Ex=>h.1.bI j hj λh0=>Ex (by show Ad (st.heap.map λp=>(p.1,jc live p.1 p.2)) j=none;rw [dH,h0];rfl),λj=>?_⟩,?_⟩
 ·have hn:Ad (st.Ek live).heap j=(Ad st.heap j).map (jc live j):=dH (jc live) st.heap j
  have ho:=h.1.heap j
  cases dI:Ad st.heap j with
  |none=>rw [dI] at hn;exact Cr.Nd (ho.emp dI) hn
  |some c=>
   rw [dI] at hn
   refine Cr.Gs ?_ hn
   have hb:=(ho.Lc dI).move m (Nat.le_refl _) (λr0 c h0 h1=>h.1.sub _ r0 c h0 h1) λ_ _ _ _ _=>rfl
   cases c with
   |arr fr tr e tid xs=>
    simp only [OB.map,Au,Fl,OB.Ek,jc] at hb⊢
    cases hp:π j with
    |none=>rw [hp] at hb;exact hb
    |some r=>
     rw [hp] at hb
     obtain ⟨⟨g1,g2,g3⟩,cur,ti,g4,g5,g6,g7,g8,g9⟩:=hb
     refine ⟨⟨g1,g2,λhf=>g3 (Bool.and_eq_true_iff.1 hf).1⟩,cur,ti,g4,g5,g6,g7,λi x hx=>?_,λht=>g9 (Bool.and_eq_true_iff.1 ht).1⟩
     obtain ⟨es,k1,k2,k3⟩:=g8 i x hx
     refine ⟨es,k1,k2,Cells.Ci (Nat.le_refl _) (λ_ _ _=>rfl) (λb _ hA=>?_) e es x k3⟩
     exact hA.imp id (Or.imp id λ⟨h1,h2⟩=>⟨(Bool.and_eq_true_iff.1 h1).1,h2⟩)
   |Cz e tid xs=>exact hb
   |Ai e te rows out kp=>exact hb
   |var tid vs=>
    have e:(OB.var tid vs).map (λc=>c)= .var tid vs:=by simp [OB.map]
    rw [e] at hb;exact hb
   |Ol v f=>exact hb
 ·exact ⟨h.2.size,h.2.defers,λt=>by have:=m.av (h.2.tmps t);rwa [AC.map_id] at this⟩
theorem ue (t:Nat) {st:St} {a:Act} (h:Rel X st a w):Rel X (Vm t st) a w:=by
 obtain ⟨π,h⟩:=h
 unfold Vm
 split
 ·rename_i l off len hg
  split
  ·rename_i fr tr e tid xs hl
   split
   ·rename_i nz
    have hv:=h.2.tmps t
    rw [hg] at hv
    obtain ⟨π',h1,h2,_⟩:=od h (by simpa using nz) hl hv
    refine ⟨π',h1.1,⟨?_,h1.2.defers,λk=>?_⟩⟩
    ·show a.tmps.size=(Ns _ t _).length
     rw [Wy];exact h1.2.size
    ·show Am X w π' _ ((Ns _ t _).getD k .undef) _
     rw [Um]
     split
     ·rename_i hk
      obtain ⟨rfl,_⟩:=hk
      exact h2
     ·exact h1.2.tmps k
   ·exact ⟨π,h⟩
  ·exact ⟨π,h⟩
 ·exact ⟨π,h⟩
theorem Move.YA {H:List (Nat×OB)} {π:Pi} {m:Nat} {tid:TypeId} {vs vs':List AC} (hm:Ad H m=some (.var tid vs)):Move X w w π π H (Sy H m (.var tid vs')) (λc=>c):=by
 have ne: ∀l b,Ad H l=some b->(∀t us,b≠ .var t us)->Ad (Sy H m (.var tid vs')) l=some b:= λl b h hb=>by
  rw [Bs H m l _ (λe=>by subst e;rw [hm] at h;cases h;exact hb _ _ rfl)];exact h
 have va: ∀l t us,Ad H l=some (.var t us)-> ∃t' Pp,Ad (Sy H m (.var tid vs')) l=some (.var t' Pp):= λl t us h=>by
  by_cases e:l=m
  ·subst e;exact ⟨_,_,Cb H l _ _ hm⟩
  ·exact ⟨t,us,by rw [Bs H m l _ e];exact h⟩
 refine ⟨λc v h=>?_,λ_ _ _ _ h=>h⟩
 cases c with
 |own l off len=>obtain ⟨b,sz,n,h1,h2,h3⟩:=h;exact ⟨b,sz,n,ne l b h1 (λt us e=>by subst e;cases h2),h2,h3⟩
 |Dn l i=>obtain ⟨r,t,us,h1,h2⟩:=h;obtain ⟨t',Pp,h3⟩:=va l t us h1;exact ⟨r,t',Pp,h3,h2⟩
 |Fo l i=>obtain ⟨r,b,sz,n,h1,h2,h3⟩:=h;exact ⟨r,b,sz,n,ne l b h1 (λt us e=>by subst e;cases h2),h2,h3⟩
 |sub l i c=>obtain ⟨r,b,sz,n,h1,h2,h3⟩:=h;exact ⟨r,b,sz,n,ne l b h1 (λt us e=>by subst e;cases h2),h2,h3⟩
 |Fk l i j=>obtain ⟨r,b,n,sz,g,o,len,cap,h1,h2,h3⟩:=h;exact ⟨r,b,n,sz,g,o,len,cap,ne l b h1 (λt us e=>by subst e;cases h2),h2,h3⟩
 |clo f Bu=>
  obtain ⟨us,h1,h2,h3⟩:=h
  refine ⟨us,h1,h2,λj p hp=>?_⟩
  obtain ⟨r,t,ws,h4,h5⟩:=h3 j p hp
  obtain ⟨t',Pp,h6⟩:=va p.1 t ws h4
  exact ⟨r,t',Pp,h6,h5⟩
 |Fw l=>obtain ⟨r,vt,f,h1,h2⟩:=h;exact ⟨r,vt,f,ne l _ h1 (λt us e=>by cases e),h2⟩
 |_=>exact h
theorem xO {π:Pi} {st:St} {a:Act} (h:Aj X π st a w) {m:Nat} {tid:TypeId} {vs:List AC} (hm:Ad st.heap m=some (.var tid vs)) {c:Nat} {x:AC}
  (hx: ∀r cur u,π m=some r->w.heap[r.g]?=some (.cells cur tid (0,0))->cur.toList[c]?=some u->Dq X w π st.heap x u):Aj X π (st.Fh m (.var tid (vs.set c x))) a w:=by
 have mv:=Move.YA (X:=X) (w:=w) (π:=π) (vs':=vs.set c x) hm
 refine ⟨⟨h.1.below,h.1.sc,h.1.sub,h.1.place,h.1.inj,λj hj Ex=>h.1.bI j hj λh0=>Ex ?_,λj=>?_⟩,?_⟩
 ·show Ad (Sy st.heap m _) j=none
  rw [Bs _ _ _ _ (λe=>by subst e;rw [hm] at h0;cases h0)];exact h0
 ·have ho:=h.1.heap j
  by_cases e:j=m
  ·subst e
   refine Cr.Gs (b:= .var tid (vs.set c x)) ?_ (Cb st.heap j _ _ hm)
   obtain ⟨r,h1,h2,cur,h3,h4⟩:=ho.Lc hm
   refine ⟨r,h1,h2,cur,h3,?_⟩
   obtain ⟨h5,h6⟩:=h4
   refine ⟨by rw [List.length_set];exact h5,λi d hd=>?_⟩
   rw [List.getElem?_set] at hd
   split at hd
   ·rename_i hci
    subst hci
    split at hd
    ·rename_i Fg
     cases hd
     obtain ⟨u,g1,g2,_⟩:=h6 c vs[c] (List.getElem?_eq_getElem Fg)
     exact ⟨u,g1,g2,mv.ac _ _ (hx r cur u h1 h3 g1)⟩
    ·cases hd
   ·obtain ⟨u,g1,g2,g3⟩:=h6 i d hd
    exact ⟨u,g1,g2,mv.ac _ _ g3⟩
  ·have hn:Ad (st.Fh m (.var tid (vs.set c x))).heap j=Ad st.heap j:=Bs _ _ _ _ e
   cases hg:Ad st.heap j with
   |none=>exact Cr.Nd (ho.emp hg) (hn.trans hg)
   |some b=>
    have hb:=(ho.Lc hg).move mv (Nat.le_refl _) (λr0 c h0 h1=>h.1.sub _ r0 c h0 h1) λ_ _ _ _ _=>rfl
    refine Cr.Gs ?_ (hn.trans hg)
    have eid:b.map (λc=>c)=b:=by cases b<;>simp [OB.map]
    rw [eid] at hb
    exact hb
 ·exact ⟨h.2.size,h.2.defers,λt=>by have:=mv.av (h.2.tmps t);rwa [AC.map_id] at this⟩
theorem jV (c:Nat) {st:St} {a:Act} (h:Rel X st a w):Rel X (Kd c st) a w:=by
 obtain ⟨π,h⟩:=h
 unfold Kd
 split
 ·rename_i Am8 vs hm
  split
  ·rename_i l off len hc
   split
   ·rename_i fr tr e te xs hl
    split
    ·rename_i nz
     split
     ·rename_i tid vs' wF
      have hlv:Jk≠l:= λe=>by subst e;rw [hm] at hl;cases hl
      obtain ⟨r,h1,h2,cur,h3,h4,h5⟩:=(h.1.heap Jk).Lc hm
      obtain ⟨u,g1,g2,g3⟩:=h5 c _ hc
      obtain ⟨π',k1,k2,k3⟩:=od h (by simpa using nz) hl g3
      refine ⟨π',xO k1 wF λr' Sr u' q1 q2 q3=>?_⟩
      rw [k3 Jk hlv,h1] at q1
      cases q1
      rw [h3] at q2
      cases q2
      rw [g1] at q3
      cases q3
      exact k2
     ·exact ⟨π,h⟩
    ·exact ⟨π,h⟩
   ·exact ⟨π,h⟩
  ·exact ⟨π,h⟩
 ·exact ⟨π,h⟩
theorem bn (live:List Nat): ∀(n c:Nat) (st:St) (a:Act) (w:World),Rel X st a w->Rel X (Jt live n c st) a w
 |0,_,_,_,_,h=>h
 |n+1,c,st,a,w,h=>by
  simp only [Jt]
  refine bn live n (c+1) _ a w ?_
  split
  ·exact jV c h
  ·exact h
theorem eZ (live:List Nat): ∀(n t:Nat) (st:St) (a:Act) (w:World),Rel X st a w->Rel X (Jh live n t st) a w
 |0,_,st,a,w,h=>bn live 16 0 st a w h
 |n+1,t,st,a,w,h=>by
  simp only [Jh]
  refine eZ live n (t+1) _ a w ?_
  split
  ·exact ue t h
  ·exact h
theorem ET (live:List Nat) {st:St} {a:Act} (h:Rel X st a w):Rel X (st.clean live) a w:=by
 obtain ⟨π,h⟩:=h
 have LJ: ∀s:St,Rel X s a w->Rel X (if live.any (λt=>Nat.ble So t) then s.Ek live else s) a w:=by
  intro s hs
  split
  ·exact OJ live hs
  ·exact hs
 have key: ∀s:St,Rel X s a w->Rel X (if live.contains Ww then Hq s.tmps.length 0 s else s) a w:=by
  intro s hs
  split
  ·exact cR _ _ _ a w hs
  ·exact hs
 have LK: ∀s:St,Rel X s a w->Rel X (if live.any (λt=>Nat.ble Lo t&&Nat.blt t Ww) then Jh live s.tmps.length 0 s else s) a w:=by
  intro s hs
  split
  ·exact eZ _ _ _ _ a w hs
  ·exact hs
 unfold St.clean
 refine LJ _ (key _ (LK _ (eK _ _ a w ⟨π,h.1,⟨by simp [Yd,h.2.size],h.2.defers,λt=>?_⟩⟩)))
 show Am X w π st.heap ((Fu live 0 st.tmps).getD t .undef) _
 rcases bV live 0 st.tmps t with e|e
 ·rw [e];trivial
 ·rw [e];exact h.2.tmps t
def UU:Gr->Exit
 | .normal=> .normal
 | .exit id=> .exit id
 | .ret=> .ret
def mA (P:Program) (c:Code) (Q:Exit->Act->World->Prop) (a:Act) (w:World):Prop:=
 ∀(b:Frame) (k:List Item) (cs:List Frame),∃e a' w',Q e a' w'/\Arrives P (lone (b.at a (.code c:: .inLoop c::k)) cs w) b k cs e a' w'
theorem x7 {c:Code} {Q:Exit->Act->World->Prop} {a:Act} {w:World} (h:c.wp P (Exit.then (mA P c Q) Q) a w):mA P c Q a w:=by
 intro b k cs
 obtain ⟨e,JJ,OL,hq,wx⟩:=h b (.inLoop c::k) cs
 cases e with
 |normal=>
  obtain ⟨Aeo,Aei,Ahi,Ab6,PV⟩:=hq b k cs
  exact ⟨Aeo,Aei,Ahi,Ab6, .of_steps (Steps.trans wx (.one step_inLoop)) PV⟩
 |exit id=>exact ⟨_,JJ,OL,hq, .pass (x:= .inLoop c) rfl (λ_ _=> .inl (by simp)) wx⟩
 |goto l=>exact ⟨_,JJ,OL,hq, .pass (x:= .inLoop c) rfl (λ_ _=> .inl (by simp)) wx⟩
 |ret=>exact ⟨_,JJ,OL,hq, .pass (x:= .inLoop c) rfl (λ_ _=> .inl (by simp)) wx⟩
 |panic ch=>exact ⟨_,JJ,OL,hq, .pass (x:= .inLoop c) rfl (λ_ _=> .inl (by simp)) wx⟩
 |outgrown=>exact ⟨_,JJ,OL,hq, .pass (x:= .inLoop c) rfl (λ_ _=> .inl (by simp)) wx⟩
theorem IL {c:Code} {Q:Exit->Act->World->Prop} {a:Act} {w:World} (h:mA P c Q a w):(Code.loop c).wp P Q a w:=by
 intro b k cs
 obtain ⟨e,a',w',hq,wx⟩:=h b k cs
 exact ⟨e,a',w',hq, .of_steps (.one step_loop) wx⟩
theorem aZ (ops:Array Oper): ∀(i:Nat) (l:List AV),(Jd ops i l).length=l.length
 |_,[]=>rfl
 |i,v::r=>by cases v<;>simp [Jd,aZ ops (i+1) r]
theorem eD (ops:Array Oper): ∀(i:Nat) (l:List AV) (t:Nat),(Jd ops i l).getD t .undef= .undef\/(Jd ops i l).getD t .undef=l.getD t .undef
 |_,[],_=> .inr rfl
 |i,v::r,0=>by
  cases v with
  |Ht l=>
   simp only [Jd,List.getD_cons_zero]
   split
   ·exact .inr rfl
   ·exact .inl rfl
  |_=>exact .inr rfl
 |i,v::r,t+1=>by
  have h:=eD ops (i+1) r t
  cases v<;>(simp only [Jd,List.getD_cons_succ];exact h)
theorem w8 (ops:Array Oper) {st:St} {a:Act} (h:Rel X st a w):Rel X (st.gQ ops) a w:=by
 obtain ⟨π,h⟩:=h
 refine ⟨π,h.1,⟨by show a.tmps.size=(Jd ops 0 st.tmps).length;rw [aZ];exact h.2.size,h.2.defers,λt=>?_⟩⟩
 show Am X w π st.heap ((Jd ops 0 st.tmps).getD t .undef) _
 rcases eD ops 0 st.tmps t with e|e
 ·rw [e];trivial
 ·rw [e];exact h.2.tmps t
theorem oo (hT:Bz P T) (Mg:Ia P Γ) (hm:P.follows .mixedOrders=true) {live:Nat->List Nat} {c:Code} {st:St} {K:Gr->St->Prop} (hr:Iv T Γ live c st K):
  ∀(a:Act) (w:World) (Q:Exit->Act->World->Prop),Rel X st a w->(∀e st' a' w',K e st'->Rel X st' a' w'->Q (UU e) a' w')->c.wp P Q a w/\ ∀c',c= .loop c'->mA P c' Q a w:=by
 induction hr with
 |skip hk=>exact λa w Q h hQ=>⟨wp_skip (hQ .normal _ _ _ hk h),λc' e=>by cases e⟩
 |label hk=>exact λa w Q h hQ=>⟨wp_label (hQ .normal _ _ _ hk h),λc' e=>by cases e⟩
 |exit hk=>exact λa w Q h hQ=>⟨wp_exit (hQ (.exit _) _ _ _ hk h),λc' e=>by cases e⟩
 |ret hk=>exact λa w Q h hQ=>⟨wp_ret (hQ .ret _ _ _ hk h),λc' e=>by cases e⟩
 |region hk=>exact λa w Q h hQ=>⟨AS hT (Mg.reg _) hm (w8 _ h) hk λst' a' w' h1 h2=>hQ .normal _ _ _ h1 h2,λc' e=>by cases e⟩
 |seq Q1 _ _ h3 FP wN=>
  intro a w Q h hQ
  refine ⟨wp_seq ((FP a w _ h λe st' a' w' hk h'=>?_).1),λc' e=>by cases e⟩
  cases e with
  |normal=>exact (wN st' hk a' w' Q h' hQ).1
  |exit id=>exact hQ (.exit id) _ _ _ (h3 _ _ (by simp) hk) h'
  |ret=>exact hQ .ret _ _ _ (h3 _ _ (by simp) hk) h'
 |cond hc _ _ FP wN=>
  intro a w Q h hQ
  refine ⟨?_,λc' e=>by cases e⟩
  obtain ⟨π,h'⟩:=h
  rename_i c x y st fr t Q0 _ _
  have hr:=Bn h'.2 c
  rw [hc] at hr
  refine wp_cond (Sl hr) ?_
  cases t with
  |true=>exact (FP rfl a w Q ⟨π,h'⟩ hQ).1
  |false=>exact (wN rfl a w Q ⟨π,h'⟩ hQ).1
 |block Q1 _ h2 ih=>
  intro a w Q h hQ
  rename_i id c st Q0 _
  refine ⟨wp_block ((ih a w _ h λe st' a' w' hk h'=>?_).1),λc' e=>by cases e⟩
  have h3:=h2 e st' hk
  cases e with
  |normal=>exact hQ .normal _ _ _ h3 h'
  |ret=>exact hQ .ret _ _ _ h3 h'
  |exit FO=>
   show (if FO=id then Q .normal a' w' else Q (.exit FO) a' w')
   simp only [rG] at h3
   by_cases hid:FO=id
   ·rw [if_pos hid] at h3⊢;exact hQ .normal _ _ _ h3 h'
   ·rw [if_neg hid] at h3⊢;exact hQ (.exit FO) _ _ _ h3 h'
 |loop Q1 _ _ h3 FP wN=>
  intro a w Q h hQ
  rename_i c st Q0 _ _
  have key:mA P c Q a w:=by
   refine x7 ((FP a w _ (ET _ h) λe st' a' w' hk h'=>?_).1)
   cases e with
   |normal=>exact (wN st' hk a' w' Q h' hQ).2 c rfl
   |exit id=>exact hQ (.exit id) _ _ _ (h3 _ _ (by simp) hk) h'
   |ret=>exact hQ .ret _ _ _ (h3 _ _ (by simp) hk) h'
  exact ⟨IL key,λc' e=>by cases e;exact key⟩
def AX (tmps:Array Value):ResultVar->Sem Value
 | .tmp t=>pure (tmps.getD t undef)
 | .cell p t=>do loadVar t (<-asAddr (tmps.getD p undef))
theorem aC (fn:Func) (tmps:Array Value):results fn tmps=(do
  let vs<-fn.results.mapM (AX tmps)
  pure (if h:vs.size=1 then vs[0] else .tuple vs)):=by
 rfl
theorem DX {α:Type} {l:List α} (h:l.length=2): ∃a b,l= [a,b]:=by
 rcases l with _|⟨a,_|⟨b,_|⟨c,r⟩⟩⟩<;>simp at h
 exact ⟨a,b,rfl⟩
theorem rQ {α:Type} {l:List α} (h:l.length=3): ∃a b c,l= [a,b,c]:=by
 rcases l with _|⟨a,_|⟨b,_|⟨c,_|⟨d,r⟩⟩⟩⟩<;>simp at h
 exact ⟨a,b,c,rfl⟩
theorem x5 {t:TypeId} {v u:Value} (h:(Instr.loadAt t v).run P w= .ok u w):(do loadVar t (<-asAddr v):Sem Value).run P w= .ok u w:=by
 unfold Instr.loadAt at h
 cases v with
 |pointer a=>
  cases a with
  |some a=>simpa [Instr.sureAddr,asAddr] using h
  |none=>simp [Instr.sureAddr,Result.andThen] at h
 |_=>simp [Instr.sureAddr,Result.andThen] at h
theorem Qq (hT:Bz P T) {st:St} {a:Act} (h:Aj X π st a w): ∀(rs:List ResultVar) (l:List AV),Xt T st rs=some l->
  ∃vs:List Value,vs.length=rs.length/\l.length=rs.length/\(∀(i:Nat) r v,rs[i]?=some r->vs[i]?=some v->(AX a.tmps r).run P w= .ok v w)/\(∀(i:Nat) c v,l[i]?=some c->vs[i]?=some v->Am X w π st.heap c v)
 | [],l,he=>by
  simp only [Xt,Option.some.injEq] at he;subst he
  exact ⟨[],rfl,rfl,λi r v hr=>by simp at hr,λi c v hc=>by simp at hc⟩
 | .tmp t::r,l,he=>by
  simp only [Xt] at he
  cases hr:Xt T st r with
  |none=>rw [hr] at he;cases he
  |some l'=>
   rw [hr] at he
   simp only [Option.map_some,Option.some.injEq] at he;subst he
   obtain ⟨vs,h1,h2,h3,h4⟩:=Qq hT h r l' hr
   refine ⟨a.tmps.getD t undef::vs,by simp [h1],by simp [h2],λi r' v Zl hv=>?_,λi c v hc hv=>?_⟩
   ·rcases i with _|i
    ·rw [List.getElem?_cons_zero,Option.some.injEq] at Zl hv;subst Zl;subst hv;rfl
    ·exact h3 i r' v (by simpa using Zl) (by simpa using hv)
   ·rcases i with _|i
    ·rw [List.getElem?_cons_zero,Option.some.injEq] at hc hv;subst hc;subst hv;exact h.2.tmps t
    ·exact h4 i c v (by simpa using hc) (by simpa using hv)
 | .cell p t::r,l,he=>by
  simp only [Xt] at he
  split at he
  ·rename_i c0 l' VV hr
   simp only [Option.some.injEq] at he;subst he
   obtain ⟨u,hu,hru⟩:=gW hT h t _ _ c0 (h.2.tmps p) VV
   obtain ⟨vs,h1,h2,h3,h4⟩:=Qq hT h r l' hr
   refine ⟨u::vs,by simp [h1],by simp [h2],λi r' v Zl hv=>?_,λi c v hc hv=>?_⟩
   ·rcases i with _|i
    ·simp at Zl hv;subst Zl;subst hv;exact x5 hu
    ·exact h3 i r' v (by simpa using Zl) (by simpa using hv)
   ·rcases i with _|i
    ·simp at hc hv;subst hc;subst hv;exact hru
    ·exact h4 i c v (by simpa using hc) (by simpa using hv)
  ·cases he
theorem wb (hT:Bz P T) {st:St} {a:Act} (h:Aj X π st a w) (s:Spec) (fn:Func) (fr:Bool) (y:s.res.den) (he:gZ T s fn st=some (fr,y)) {S:Nat->Prop} (hS:Kt X S fr):
  ∃v,(results fn a.tmps).run P w= .ok v w/\fy s w S v y:=by
 have QK:fn.results=fn.results.toList.toArray:=Array.toArray_toList.symm
 unfold gZ at he
 split at he
 ·rename_i c hl
  obtain ⟨vs,h1,h2,h3,h4⟩:=Qq hT h _ _ hl
  split at he
  ·cases he
  ·rename_i hm
   have hlen:fn.results.toList.length=1:=by rw [<-h2];rfl
   obtain ⟨r,hr⟩:=List.length_eq_one_iff.1 hlen
   rw [hlen] at h1
   obtain ⟨v,rfl⟩:=List.length_eq_one_iff.1 h1
   have e0:=h3 0 r v (by rw [hr];rfl) rfl
   refine ⟨v,?_,?_⟩
   ·rw [aC,QK,hr]
    simp [e0]
   ·unfold fy
    rw [if_neg hm]
    exact Rh h.1 s.res c v fr y (h4 0 c v rfl rfl) he hS
 ·rename_i c d hl
  obtain ⟨vs,h1,h2,h3,h4⟩:=Qq hT h _ _ hl
  split at he
  ·rename_i hm
   have hlen:fn.results.toList.length=2:=by rw [<-h2];rfl
   obtain ⟨r1,r2,hr⟩:=DX hlen
   rw [hlen] at h1
   obtain ⟨v1,v2,rfl⟩:=DX h1
   have e0:=h3 0 r1 v1 (by rw [hr];rfl) rfl
   have e1:=h3 1 r2 v2 (by rw [hr];rfl) rfl
   refine ⟨.tuple #[v1,v2],?_,?_⟩
   ·rw [aC,QK,hr]
    simp [e0,e1]
   ·unfold fy
    rw [if_pos hm]
    exact ⟨[v1,v2],rfl,Ua h.1 s.res _ _ fr y rfl h4 he hS⟩
  ·cases he
 ·rename_i c d d' hl
  obtain ⟨vs,h1,h2,h3,h4⟩:=Qq hT h _ _ hl
  split at he
  ·rename_i hm
   have hlen:fn.results.toList.length=3:=by rw [<-h2];rfl
   obtain ⟨r1,r2,r3,hr⟩:=rQ hlen
   rw [hlen] at h1
   obtain ⟨v1,v2,v3,rfl⟩:=rQ h1
   have e0:=h3 0 r1 v1 (by rw [hr];rfl) rfl
   have e1:=h3 1 r2 v2 (by rw [hr];rfl) rfl
   have e2:=h3 2 r3 v3 (by rw [hr];rfl) rfl
   refine ⟨.tuple #[v1,v2,v3],?_,?_⟩
   ·rw [aC,QK,hr]
    simp [e0,e1,e2]
   ·unfold fy
    rw [if_pos hm]
    exact ⟨[v1,v2,v3],rfl,Ua h.1 s.res _ _ fr y rfl h4 he hS⟩
  ·cases he
 ·cases he
theorem mK {S:Nat->Prop} : ∀(τ:Ty) (vs:List Value) (x:τ.den),Az w S τ vs x->
  (Mi τ x).length=vs.length/\ ∀i,Am ⟨w,S,λ_=>False,λ_=>none⟩ w (λ_=>none) [] ((Mi τ x).getD i .undef) (vs.getD i undef)
 | .pair a r,[],x,h=>h.elim
 | .pair a r,v::vs,x,h=>by
  obtain ⟨h1,h2⟩:=mK r vs x.2 h.2
  refine ⟨by simp [Mi,h1],λi=>?_⟩
  rcases i with _|i
  ·simp only [Mi,List.getD_cons_zero]
   cases hf:a.flat with
   |true=>exact Bb.flat hf h.1
   |false=>
    exact Bb.Ek h.1 λk _ hk=>by
     rcases hk with ⟨l,r,hl,_⟩|hk|⟨hk,_⟩
     ·cases hl
     ·exact hk
     ·cases hk
  ·simpa [Mi] using h2 i
 | .unit,[],_,_=>⟨rfl,λi=>by simp [Mi];trivial⟩
 | .unit,_::_,_,h=>h.elim
 | .int _,_,_,h=>by simp [Az] at h
 | .bool,_,_,h=>by simp [Az] at h
 | .str,_,_,h=>by simp [Az] at h
 | .slice _,_,_,h=>by simp [Az] at h
 | .ptr _,_,_,h=>by simp [Az] at h
 | .oslice _,_,_,h=>by simp [Az] at h
 | .optr _,_,_,h=>by simp [Az] at h
 | .smap _,_,_,h=>by simp [Az] at h
 | .clo _ _,_,_,h=>by simp [Az] at h
theorem sS (hT:Bz P T) (Mg:Ia P Γ) (hm:P.follows .mixedOrders=true) {f:FuncId} {fn:Func} (hf:P.funcs[f]?=some fn) (s:Spec) (w:World) (S:Nat->Prop) (vs:List Value) (x:s.arg.den) (y:s.res.den)
  (hS: ∀k,S k->k<w.heap.size) (hx:Az w S s.arg vs x) (he:JB T Γ s fn x λz=>z=y):
  Calls P f vs.toArray w λe w'=> ∃v,e= .returned v/\Below w.heap.size w w'/\fy s w' (λb=>S b\/(s.fresh=true/\b<w.heap.size)) v y:=by
 obtain ⟨c,hb,he⟩:=he
 skip
 ·obtain ⟨hl,Kw⟩:=mK (w:=w) s.arg vs x hx
  have h0:Rel ⟨w,S,λ_=>False,λ_=>none⟩ {tmps:=Mi s.arg x++List.replicate (fn.ntmps-(Mi s.arg x).length) .undef,heap:= []} {tmps:=vs.toArray++Array.replicate (fn.ntmps-vs.toArray.size) undef,defers:= []} w:=by
   refine ⟨λ_=>none,⟨Gb.refl _ _ _,λb hb=>⟨hS b hb,λh=>h⟩,(λ_ _ _ h=>by cases h),(λ_ _ _ h=>by cases h),(λ_ _ _ _ _ h=>by cases h),λl _ hn=>absurd rfl hn,λl=>rfl⟩,⟨by simp [hl],rfl,λt=>?_⟩⟩
   have h1:=Kw t
   show Am _ w _ [] ((Mi s.arg x++List.replicate _ AV.undef).getD t .undef) ((vs.toArray++Array.replicate _ undef).getD t undef)
   by_cases ht:t<vs.length
   ·rw [List.getD_eq_getElem?_getD,List.getElem?_append_left (by omega),<-List.getD_eq_getElem?_getD]
    rw [Array.getD_eq_getD_getElem?,Array.getElem?_append_left (by simpa using ht)]
    simpa [List.getD_eq_getElem?_getD] using h1
   ·have:(Mi s.arg x++List.replicate (fn.ntmps-(Mi s.arg x).length) AV.undef).getD t .undef= .undef:=by
     rw [List.getD_eq_getElem?_getD,List.getElem?_append_right (by omega)]
     rw [List.getElem?_replicate]
     split<;>rfl
    rw [this];trivial
  refine calls_of_wp hf hb ?_
  refine (oo hT Mg hm he _ w _ h0 λe st a' w' ⟨Ex,fr,y',lG,zl,hy⟩ ⟨π,h'⟩=>?_).1
  subst hy
  have Ab1:=wb hT h' s fn fr y' lG (S:= λb=>S b\/(s.fresh=true/\b<w.heap.size)) ⟨λk hk=>⟨by rcases hk with hk|hk;exact hS k hk;exact hk.2,λh=>h⟩,by
   simp only [Bool.or_eq_true,Bool.not_eq_true'] at zl
   rcases zl with h|h
   ·exact .inl h
   ·right;intro k hk;rcases hk with hk|⟨hk,_⟩
    ·exact hk
    ·rw [h] at hk;cases hk⟩
  obtain ⟨v,hv,hr⟩:=Ab1
  cases e with
  |normal=>exact ⟨h'.2.defers,v,hv,v,rfl,h'.1.below.plain,hr⟩
  |ret=>exact ⟨h'.2.defers,v,hv,v,rfl,h'.1.below.plain,hr⟩
  |exit id=>exact absurd rfl (Ex id)
theorem bR {f:FuncId} {fn:Func} (hf:P.funcs[f]?=some fn) (hn:(fn.name== "runtime.NumGoroutine")=false) (hb:fn.body.isNone=false) (args:Array Value) (w:World):
  (callFunc f args).run P w= .ok (.enter f args) w:=by
 unfold callFunc
 simp only [Sem.run_bind,run_program,Result.andThen_ok,hf,hn,hb,Bool.false_eq_true,if_false,Sem.run_pure]
theorem MY (hT:Bz P T) (Mg:Ia P Γ) (hm:P.follows .mixedOrders=true) {f:FuncId} {fn:Func} (hf:P.funcs[f]?=some fn) (hn:(fn.name== "runtime.NumGoroutine")=false) (hb:fn.body.isNone=false) (s:Spec)
  (h: ∀x y,s.fn x=some y->JB T Γ s fn x λz=>z=y):Sound P f s:=
 ⟨bR hf hn hb,λw S vs x y hS hx hy=>sS hT Mg hm hf s w S vs x y hS hx (h x y hy)⟩
end
end Go.Proofs.YtfolipnappekaaaGreat
