/-
  Part 26 of the proof that the statement FnExactMethodLength holds.
-/
import Derived.Test.YtjbdmibbbpdnnaaCMethodLength24
namespace Go.Proofs.Ytjbdmibbbpdnnaa
open Go.RowKit
section
variable {P:Program} {T:Tab} {Γ:Env} {X:Ctx} {w w':World} {π:Pi}
theorem Xz (live:List Nat): ∀(i:Nat) (l:List AV),(Ge live i l).length=l.length
 |_,[]=>rfl
 |i,v::r=>by simp [Ge,Xz live (i+1) r]
theorem bY (live:List Nat): ∀(i:Nat) (l:List AV) (t:Nat),(Ge live i l).getD t .undef= .undef\/(Ge live i l).getD t .undef=l.getD t .undef
 |_,[],t=> .inr rfl
 |i,v::r,0=>by
  simp only [Ge,List.getD_cons_zero]
  split
  ·exact .inr rfl
  ·exact .inl rfl
 |i,v::r,t+1=>by
  simp only [Ge,List.getD_cons_succ]
  exact bY live (i+1) r t
theorem eB: ∀(l:List Nat) (st:St) (a:Act) (w:World),Rel X st a w->Rel X (Yh l st) a w
 | [],_,_,_,h=>h
 |k::r,_,a,w,⟨_,h⟩=>eB r _ a w ⟨_,h.forget k⟩
def Vl (π:Pi) (l k:Nat):Pi:= λm=>if m=k then π l else if m=l then none else π m
theorem JP {st:St} {l k:Nat} {b:OB} (hk:Ae st.heap k=none) (hl:Ae st.heap l=some b):
  Ae (Jk (Sz (st.heap.map λp=>(p.1,p.2.map (Oe l k))) l) k (b.map (Oe l k))) k=some (b.map (Oe l k))/\
  Ae (Jk (Sz (st.heap.map λp=>(p.1,p.2.map (Oe l k))) l) k (b.map (Oe l k))) l=none/\
  ∀m,m≠k->m≠l->Ae (Jk (Sz (st.heap.map λp=>(p.1,p.2.map (Oe l k))) l) k (b.map (Oe l k))) m=(Ae st.heap m).map (OB.map (Oe l k)):=by
 have Ex:l≠k:= λe=>by subst e;rw [hk] at hl;cases hl
 refine ⟨Kr _ _ _ ?_,?_,λm h1 h2=>?_⟩
 ·rw [Io _ _ _ Ex.symm,Jr,hk];rfl
 ·rw [Jy _ _ _ _ Ex,Hp]
 ·rw [Jy _ _ _ _ h1,Io _ _ _ h2,Jr]
theorem Move.ren {st:St} {l k:Nat} {b:OB} {H':List (Nat×OB)} (hk:Ae st.heap k=none) (hl:Ae st.heap l=some b) (e1:Ae H' k=some (b.map (Oe l k))) (_e2:Ae H' l=none)
  (e3: ∀m,m≠k->m≠l->Ae H' m=(Ae st.heap m).map (OB.map (Oe l k))) (Yo: ∀c,Nn (Vl π l k) c->Nn π c):Move X w w π (Vl π l k) st.heap H' (Oe l k):=by
 have Ex:l≠k:= λe=>by subst e;rw [hk] at hl;cases hl
 have hc: ∀fr τ cs x,Cells w (Be X.w0.heap.size X.Sc π fr) τ cs x->Cells w (Be X.w0.heap.size X.Sc (Vl π l k) fr) τ cs x:=
  fun fr τ cs x h=>Cells.Cr (Nat.le_refl _) (λ_ _ _=>rfl) (λc _ hA=>hA.imp (Yo c) id) τ cs x h
 have Rx: ∀m c,Ae st.heap m=some c->Ae H' (jQ l k m)=some (c.map (Oe l k))/\Vl π l k (jQ l k m)=π m:=by
  intro m c hm
  unfold jQ
  by_cases e:m=l
  ·subst e
   rw [hl] at hm;cases hm
   rw [if_pos rfl]
   exact ⟨e1,by unfold Vl;rw [if_pos rfl]⟩
  ·have e':m≠k:= λe'=>by subst e';rw [hk] at hm;cases hm
   rw [if_neg e]
   exact ⟨by rw [e3 m e' e,hm];rfl,by unfold Vl;rw [if_neg e',if_neg e]⟩
 refine ⟨λc v h=>?_,hc⟩
 cases c with
 |data fr τ x=>obtain ⟨cs,h1,h2⟩:=h;exact ⟨cs,hc _ _ _ _ h1,h2⟩
 |own m off len=>
  obtain ⟨b',sz,n,h1,h0,h2,h3⟩:=h
  obtain ⟨g1,g2⟩:=Rx m b' h1
  exact ⟨_,sz,n,g1,by cases b'<;>exact h0,h2,by rw [g2];exact h3⟩
 |Dz m i=>
  obtain ⟨r,tid,vs,h1,h2,h3⟩:=h
  obtain ⟨g1,g2⟩:=Rx m _ h1
  exact ⟨r,tid,_,g1,by rw [g2];exact h2,h3⟩
 |Gc m i=>
  obtain ⟨r,b',sz,n,h1,h0,h2,h3,h4⟩:=h
  obtain ⟨g1,g2⟩:=Rx m b' h1
  exact ⟨r,_,sz,n,g1,by cases b'<;>exact h0,h2,by rw [g2];exact h3,h4⟩
 |sub m i c=>
  obtain ⟨r,b,sz,n,h1,h0,h2,h3,h4,h5⟩:=h
  obtain ⟨g1,g2⟩:=Rx m _ h1
  exact ⟨r,_,sz,n,g1,by cases b<;>exact h0,by rw [g2];exact h2,h3,h4,h5⟩
 |Ga m i c=>
  obtain ⟨r,b,n,sz,g,o,len,cap,h1,h0,h2,h3⟩:=h
  obtain ⟨g1,g2⟩:=Rx m _ h1
  exact ⟨r,_,n,sz,g,o,len,cap,g1,by cases b<;>exact h0,by rw [g2];exact h2,h3⟩
 |clo f Bx=>
  obtain ⟨us,h1,h2,h3⟩:=h
  refine ⟨us,h1,by simpa using h2,λj p hp=>?_⟩
  rw [List.getElem?_map] at hp
  cases hq:Bx[j]? with
  |none=>rw [hq] at hp;cases hp
  |some q=>
   rw [hq] at hp
   simp only [Option.map_some,Option.some.injEq] at hp
   subst hp
   obtain ⟨r,tid,vs,h4,h5,h6⟩:=h3 j q hq
   obtain ⟨g1,g2⟩:=Rx q.1 _ h4
   exact ⟨r,tid,_,g1,by rw [g2];exact h5,h6⟩
 |Gi m=>
  obtain ⟨r,vt,f,h1,h2,h3⟩:=h
  obtain ⟨g1,g2⟩:=Rx m _ h1
  exact ⟨r,vt,f,g1,by rw [g2];exact h2,h3⟩
 |_=>exact h
theorem zB (l k:Nat) {st:St} {a:Act} (h:Rel X st a w):Rel X (st.rename l k) a w:=by
 unfold St.rename
 split
 ·rename_i b hk hl
  split
  ·rename_i hp
   simp only [Bool.and_eq_true,Nat.blt_eq] at hp
   obtain ⟨π,h⟩:=h
   have Ex:l≠k:= λe=>by subst e;rw [hk] at hl;cases hl
   obtain ⟨e1,e2,e3⟩:=JP hk hl
   have ZF:π k=none:=(h.1.heap k).emp hk
   have un: ∀m r,Vl π l k m=some r-> ∃m',π m'=some r/\jQ l k m'=m:= λm r hm=>by
    unfold Vl at hm
    split at hm
    ·rename_i e;subst e;exact ⟨l,hm,by unfold jQ;rw [if_pos rfl]⟩
    ·rename_i e
     split at hm
     ·cases hm
     ·rename_i e';exact ⟨m,hm,by unfold jQ;rw [if_neg e']⟩
   have m:=Move.ren (X:=X) (w:=w) (π:=π) hk hl e1 e2 e3 λc ⟨j,r,h1,h2⟩=>let ⟨j',h3,_⟩:=un j r h1;⟨j',r,h3,h2⟩
   refine ⟨Vl π l k,⟨h.1.below,h.1.sc,λj r c h1 h2=>?_,λj r c h1 h2=>?_,λj1 j2 r1 r2 c h1 h2 h3 h4=>?_,λj hj VY=>?_,λj=>?_⟩,?_⟩
   ·obtain ⟨j',h3,_⟩:=un j r h1;exact h.1.sub j' r c h3 h2
   ·obtain ⟨j',h3,_⟩:=un j r h1;exact h.1.place j' r c h3 h2
   ·obtain ⟨j1',g1,g2⟩:=un j1 r1 h1
    obtain ⟨j2',g3,g4⟩:=un j2 r2 h2
    rw [<-g2,<-g4,h.1.inj j1' j2' r1 r2 c g1 g3 h3 h4]
   ·have n1:j≠k:= λe=>by omega
    have n2:j≠l:= λe=>by omega
    have Aaw:Ae st.heap j≠none:= λh0=>VY ((e3 j n1 n2).trans (by rw [h0];rfl))
    have:=h.1.cR j hj Aaw
    unfold Vl
    rw [if_neg n1,if_neg n2]
    exact this
   ·by_cases n1:j=k
    ·subst n1
     refine Dk.It ?_ e1
     unfold Vl
     rw [if_pos rfl]
     exact ((h.1.heap l).Mh hl).move m (Nat.le_refl _) (λr0 c h0 h1=>h.1.sub _ r0 c h0 h1) λ_ _ _ _ _=>rfl
    ·by_cases n2:j=l
     ·subst n2
      exact Dk.Pf (by unfold Vl;rw [if_neg n1,if_pos rfl]) e2
     ·have hr:Vl π l k j=π j:=by unfold Vl;rw [if_neg n1,if_neg n2]
      have hn:=e3 j n1 n2
      have ho:=h.1.heap j
      cases fM:Ae st.heap j with
      |none=>rw [fM] at hn;exact Dk.Pf (by rw [hr];exact ho.emp fM) hn
      |some c=>
       rw [fM] at hn
       refine Dk.It ?_ hn
       rw [hr]
       exact (ho.Mh fM).move m (Nat.le_refl _) (λr0 c h0 h1=>h.1.sub _ r0 c h0 h1) λ_ _ _ _ _=>rfl
   ·have:mc X w (Vl π l k) {tmps:=st.tmps.map (·.map (Oe l k)),heap:=Jk (Sz (st.heap.map λp=>(p.1,p.2.map (Oe l k))) l) k (b.map (Oe l k))} a:=m.zA rfl h.2
    exact this
  ·exact h
 ·exact h
theorem cY: ∀(n t:Nat) (st:St) (a:Act) (w:World),Rel X st a w->Rel X (Hs n t st) a w
 |0,_,_,_,_,h=>h
 |n+1,t,st,a,w,h=>by
  simp only [Hs]
  refine cY n (t+1) _ a w ?_
  split
  ·split
   ·split
    ·exact h
    ·exact zB _ _ h
   ·exact h
  ·exact h
theorem dO (f:Nat->OB->OB): ∀(H:List (Nat×OB)) (l:Nat),Ae (H.map λp=>(p.1,f p.1 p.2)) l=(Ae H l).map (f l)
 | [],_=>rfl
 |(k,b)::r,l=>by
  simp only [List.map_cons,Ae]
  split
  ·rename_i e;subst e;rfl
  ·exact dO f r l
theorem OB.xK (x y z:Bool) (b:OB):(b.Fb x y z).row=b.row:=by cases b<;>rfl
def j0 (live:List Nat) (l:Nat) (b:OB):OB:=b.Fb (live.contains Sp) (live.contains (xJ+l)) (live.contains (NS+l))
theorem Move.Fb (live:List Nat) {H:List (Nat×OB)} :Move X w w π π H (H.map λp=>(p.1,j0 live p.1 p.2)) (λc=>c):=by
 refine ⟨λc v h=>?_,λfr τ cs x h=>h⟩
 have Rx: ∀m c,Ae H m=some c->Ae (H.map λp=>(p.1,j0 live p.1 p.2)) m=some (j0 live m c):= λm c hm=>by rw [dO,hm];rfl
 cases c with
 |own m off len=>
  obtain ⟨b',sz,n,h1,h0,h2,h3⟩:=h
  exact ⟨_,sz,n,Rx m b' h1,by unfold j0;rw [OB.xK];exact h0,h2,h3⟩
 |Dz m i=>
  obtain ⟨r,tid,vs,h1,h2,h3⟩:=h
  exact ⟨r,tid,vs,Rx m _ h1,h2,h3⟩
 |Gc m i=>
  obtain ⟨r,b',sz,n,h1,h0,h2,h3,h4⟩:=h
  exact ⟨r,_,sz,n,Rx m b' h1,by unfold j0;rw [OB.xK];exact h0,h2,h3,h4⟩
 |sub m i c=>
  obtain ⟨r,b,sz,n,h1,h0,h2⟩:=h
  exact ⟨r,_,sz,n,Rx m _ h1,by cases b<;>exact h0,h2⟩
 |Ga m i c=>
  obtain ⟨r,b,n,sz,g,o,len,cap,h1,h0,h2⟩:=h
  exact ⟨r,_,n,sz,g,o,len,cap,Rx m _ h1,by cases b<;>exact h0,h2⟩
 |clo f Bx=>
  obtain ⟨us,h1,h2,h3⟩:=h
  refine ⟨us,h1,h2,λj p hp=>?_⟩
  obtain ⟨r,tid,vs,h4,h5,h6⟩:=h3 j p hp
  exact ⟨r,tid,vs,Rx p.1 _ h4,h5,h6⟩
 |Gi m=>
  obtain ⟨r,vt,f,h1,h2,h3⟩:=h
  exact ⟨r,vt,f,Rx m _ h1,h2,h3⟩
 |_=>exact h
theorem NT (live:List Nat) {st:St} {a:Act} (h:Rel X st a w):Rel X (st.Fb live) a w:=by
 obtain ⟨π,h⟩:=h
 have m:=Move.Fb (X:=X) (w:=w) (π:=π) live (H:=st.heap)
 refine ⟨π,⟨h.1.below,h.1.sc,h.1.sub,h.1.place,h.1.inj,λj hj Ex=>h.1.cR j hj λh0=>Ex (by show Ae (st.heap.map λp=>(p.1,j0 live p.1 p.2)) j=none;rw [dO,h0];rfl),λj=>?_⟩,?_⟩
 ·have hn:Ae (st.Fb live).heap j=(Ae st.heap j).map (j0 live j):=dO (j0 live) st.heap j
  have ho:=h.1.heap j
  cases fM:Ae st.heap j with
  |none=>rw [fM] at hn;exact Dk.Pf (ho.emp fM) hn
  |some c=>
   rw [fM] at hn
   refine Dk.It ?_ hn
   have hb:=(ho.Mh fM).move m (Nat.le_refl _) (λr0 c h0 h1=>h.1.sub _ r0 c h0 h1) λ_ _ _ _ _=>rfl
   cases c with
   |arr fr tr e tid xs=>
    simp only [OB.map,Au,Fv,OB.Fb,j0] at hb⊢
    cases hp:π j with
    |none=>rw [hp] at hb;exact hb
    |some r=>
     rw [hp] at hb
     obtain ⟨⟨g1,g2,g3⟩,cur,ti,g4,g5,g6,g7,g8,g9⟩:=hb
     refine ⟨⟨g1,g2,λhf=>g3 (Bool.and_eq_true_iff.1 hf).1⟩,cur,ti,g4,g5,g6,g7,λi x hx=>?_,λht=>g9 (Bool.and_eq_true_iff.1 ht).1⟩
     obtain ⟨es,k1,k2,k3⟩:=g8 i x hx
     refine ⟨es,k1,k2,Cells.Cr (Nat.le_refl _) (λ_ _ _=>rfl) (λb _ hA=>?_) e es x k3⟩
     exact hA.imp id (Or.imp id λ⟨h1,h2⟩=>⟨(Bool.and_eq_true_iff.1 h1).1,h2⟩)
   |Dj e tid xs=>exact hb
   |Ak e te rows out kp=>exact hb
   |var tid vs=>
    have e:(OB.var tid vs).map (λc=>c)= .var tid vs:=by simp [OB.map]
    rw [e] at hb;exact hb
   |On v f=>exact hb
 ·exact ⟨h.2.size,h.2.defers,λt=>by have:=m.av (h.2.tmps t);rwa [AC.map_id] at this⟩
theorem tG (t:Nat) {st:St} {a:Act} (h:Rel X st a w):Rel X (Vk t st) a w:=by
 obtain ⟨π,h⟩:=h
 unfold Vk
 split
 ·rename_i l off len hg
  split
  ·rename_i fr tr e tid xs hl
   split
   ·rename_i ph
    have hv:=h.2.tmps t
    rw [hg] at hv
    obtain ⟨π',h1,h2⟩:=zy h (by simpa using ph) hl hv
    refine ⟨π',h1.1,⟨?_,h1.2.defers,λk=>?_⟩⟩
    ·show a.tmps.size=(Nv _ t _).length
     rw [Ws];exact h1.2.size
    ·show Ao X w π' _ ((Nv _ t _).getD k .undef) _
     rw [Ui]
     split
     ·rename_i hk
      obtain ⟨rfl,_⟩:=hk
      exact h2
     ·exact h1.2.tmps k
   ·exact ⟨π,h⟩
  ·exact ⟨π,h⟩
 ·exact ⟨π,h⟩
theorem eQ (live:List Nat): ∀(n t:Nat) (st:St) (a:Act) (w:World),Rel X st a w->Rel X (Jt live n t st) a w
 |0,_,_,_,_,h=>h
 |n+1,t,st,a,w,h=>by
  simp only [Jt]
  refine eQ live n (t+1) _ a w ?_
  split
  ·exact tG t h
  ·exact h
theorem DE (live:List Nat) {st:St} {a:Act} (h:Rel X st a w):Rel X (st.clean live) a w:=by
 obtain ⟨π,h⟩:=h
 have KS: ∀s:St,Rel X s a w->Rel X (if live.any (λt=>Nat.ble Sp t) then s.Fb live else s) a w:=by
  intro s hs
  split
  ·exact NT live hs
  ·exact hs
 have key: ∀s:St,Rel X s a w->Rel X (if live.contains Wq then Hs s.tmps.length 0 s else s) a w:=by
  intro s hs
  split
  ·exact cY _ _ _ a w hs
  ·exact hs
 have KT: ∀s:St,Rel X s a w->Rel X (if live.any (λt=>Nat.ble Hr t&&Nat.blt t Wq) then Jt live s.tmps.length 0 s else s) a w:=by
  intro s hs
  split
  ·exact eQ _ _ _ _ a w hs
  ·exact hs
 unfold St.clean
 refine KS _ (key _ (KT _ (eB _ _ a w ⟨π,h.1,⟨by simp [Xz,h.2.size],h.2.defers,λt=>?_⟩⟩)))
 show Ao X w π st.heap ((Ge live 0 st.tmps).getD t .undef) _
 rcases bY live 0 st.tmps t with e|e
 ·rw [e];trivial
 ·rw [e];exact h.2.tmps t
def UU:Gz->Exit
 | .normal=> .normal
 | .exit id=> .exit id
 | .ret=> .ret
def mb (P:Program) (c:Code) (Q:Exit->Act->World->Prop) (a:Act) (w:World):Prop:=
 ∀(b:Frame) (k:List Item) (cs:List Frame),∃e a' w',Q e a' w'/\Arrives P (lone (b.at a (.code c:: .inLoop c::k)) cs w) b k cs e a' w'
theorem wu {c:Code} {Q:Exit->Act->World->Prop} {a:Act} {w:World} (h:c.wp P (Exit.then (mb P c Q) Q) a w):mb P c Q a w:=by
 intro b k cs
 obtain ⟨e,IS,NU,hq,vT⟩:=h b (.inLoop c::k) cs
 cases e with
 |normal=>
  obtain ⟨Af2,Aew,Ai0,Ab9,PK⟩:=hq b k cs
  exact ⟨Af2,Aew,Ai0,Ab9, .of_steps (Steps.trans vT (.one step_inLoop)) PK⟩
 |exit id=>exact ⟨_,IS,NU,hq, .pass (x:= .inLoop c) rfl (λ_ _=> .inl (by simp)) vT⟩
 |goto l=>exact ⟨_,IS,NU,hq, .pass (x:= .inLoop c) rfl (λ_ _=> .inl (by simp)) vT⟩
 |ret=>exact ⟨_,IS,NU,hq, .pass (x:= .inLoop c) rfl (λ_ _=> .inl (by simp)) vT⟩
 |panic ch=>exact ⟨_,IS,NU,hq, .pass (x:= .inLoop c) rfl (λ_ _=> .inl (by simp)) vT⟩
 |outgrown=>exact ⟨_,IS,NU,hq, .pass (x:= .inLoop c) rfl (λ_ _=> .inl (by simp)) vT⟩
theorem HR {c:Code} {Q:Exit->Act->World->Prop} {a:Act} {w:World} (h:mb P c Q a w):(Code.loop c).wp P Q a w:=by
 intro b k cs
 obtain ⟨e,a',w',hq,vT⟩:=h b k cs
 exact ⟨e,a',w',hq, .of_steps (.one step_loop) vT⟩
theorem nV (hT:Cd P T) (Mi:Hy P Γ) (hm:P.follows .mixedOrders=true) {live:Nat->List Nat} {c:Code} {st:St} {K:Gz->St->Prop} (hr:Jj T Γ live c st K):
  ∀(a:Act) (w:World) (Q:Exit->Act->World->Prop),Rel X st a w->(∀e st' a' w',K e st'->Rel X st' a' w'->Q (UU e) a' w')->c.wp P Q a w/\ ∀c',c= .loop c'->mb P c' Q a w:=by
 induction hr with
 |skip hk=>exact λa w Q h hQ=>⟨wp_skip (hQ .normal _ _ _ hk h),λc' e=>by cases e⟩
 |label hk=>exact λa w Q h hQ=>⟨wp_label (hQ .normal _ _ _ hk h),λc' e=>by cases e⟩
 |exit hk=>exact λa w Q h hQ=>⟨wp_exit (hQ (.exit _) _ _ _ hk h),λc' e=>by cases e⟩
 |ret hk=>exact λa w Q h hQ=>⟨wp_ret (hQ .ret _ _ _ hk h),λc' e=>by cases e⟩
 |region hk=>exact λa w Q h hQ=>⟨zz hT (Mi.reg _) hm h hk λst' a' w' h1 h2=>hQ .normal _ _ _ h1 h2,λc' e=>by cases e⟩
 |seq Q1 _ _ h3 EG w6=>
  intro a w Q h hQ
  refine ⟨wp_seq ((EG a w _ h λe st' a' w' hk h'=>?_).1),λc' e=>by cases e⟩
  cases e with
  |normal=>exact (w6 st' hk a' w' Q h' hQ).1
  |exit id=>exact hQ (.exit id) _ _ _ (h3 _ _ (by simp) hk) h'
  |ret=>exact hQ .ret _ _ _ (h3 _ _ (by simp) hk) h'
 |cond hc _ _ EG w6=>
  intro a w Q h hQ
  refine ⟨?_,λc' e=>by cases e⟩
  obtain ⟨π,h'⟩:=h
  rename_i c x y st fr t Q0 _ _
  have hr:=Bo h'.2 c
  rw [hc] at hr
  refine wp_cond (Sn hr) ?_
  cases t with
  |true=>exact (EG rfl a w Q ⟨π,h'⟩ hQ).1
  |false=>exact (w6 rfl a w Q ⟨π,h'⟩ hQ).1
 |block Q1 _ h2 ih=>
  intro a w Q h hQ
  rename_i id c st Q0 _
  refine ⟨wp_block ((ih a w _ h λe st' a' w' hk h'=>?_).1),λc' e=>by cases e⟩
  have h3:=h2 e st' hk
  cases e with
  |normal=>exact hQ .normal _ _ _ h3 h'
  |ret=>exact hQ .ret _ _ _ h3 h'
  |exit EE=>
   show (if EE=id then Q .normal a' w' else Q (.exit EE) a' w')
   simp only [qK] at h3
   by_cases hid:EE=id
   ·rw [if_pos hid] at h3⊢;exact hQ .normal _ _ _ h3 h'
   ·rw [if_neg hid] at h3⊢;exact hQ (.exit EE) _ _ _ h3 h'
 |loop Q1 _ _ h3 EG w6=>
  intro a w Q h hQ
  rename_i c st Q0 _ _
  have key:mb P c Q a w:=by
   refine wu ((EG a w _ (DE _ h) λe st' a' w' hk h'=>?_).1)
   cases e with
   |normal=>exact (w6 st' hk a' w' Q h' hQ).2 c rfl
   |exit id=>exact hQ (.exit id) _ _ _ (h3 _ _ (by simp) hk) h'
   |ret=>exact hQ .ret _ _ _ (h3 _ _ (by simp) hk) h'
  exact ⟨HR key,λc' e=>by cases e;exact key⟩
def zD (tmps:Array Value):ResultVar->Sem Value
 | .tmp t=>pure (tmps.getD t undef)
 | .cell p t=>do loadVar t (<-asAddr (tmps.getD p undef))
theorem aE (fn:Func) (tmps:Array Value):results fn tmps=(do
  let vs<-fn.results.mapM (zD tmps)
  pure (if h:vs.size=1 then vs[0] else .tuple vs)):=by
 rfl
theorem CG {α:Type} {l:List α} (h:l.length=2): ∃a b,l= [a,b]:=by
 rcases l with _|⟨a,_|⟨b,_|⟨c,r⟩⟩⟩<;>simp at h
 exact ⟨a,b,rfl⟩
theorem qS {α:Type} {l:List α} (h:l.length=3): ∃a b c,l= [a,b,c]:=by
 rcases l with _|⟨a,_|⟨b,_|⟨c,_|⟨d,r⟩⟩⟩⟩<;>simp at h
 exact ⟨a,b,c,rfl⟩
theorem wo {t:TypeId} {v u:Value} (h:(Instr.loadAt t v).run P w= .ok u w):(do loadVar t (<-asAddr v):Sem Value).run P w= .ok u w:=by
 unfold Instr.loadAt at h
 cases v with
 |pointer a=>
  cases a with
  |some a=>simpa [Instr.sureAddr,asAddr] using h
  |none=>simp [Instr.sureAddr,Result.andThen] at h
 |_=>simp [Instr.sureAddr,Result.andThen] at h
theorem Qt (hT:Cd P T) {st:St} {a:Act} (h:Aj X π st a w): ∀(rs:List ResultVar) (l:List AV),Xo T st rs=some l->
  ∃vs:List Value,vs.length=rs.length/\l.length=rs.length/\(∀(i:Nat) r v,rs[i]?=some r->vs[i]?=some v->(zD a.tmps r).run P w= .ok v w)/\(∀(i:Nat) c v,l[i]?=some c->vs[i]?=some v->Ao X w π st.heap c v)
 | [],l,he=>by
  simp only [Xo,Option.some.injEq] at he;subst he
  exact ⟨[],rfl,rfl,λi r v hr=>by simp at hr,λi c v hc=>by simp at hc⟩
 | .tmp t::r,l,he=>by
  simp only [Xo] at he
  cases hr:Xo T st r with
  |none=>rw [hr] at he;cases he
  |some l'=>
   rw [hr] at he
   simp only [Option.map_some,Option.some.injEq] at he;subst he
   obtain ⟨vs,h1,h2,h3,h4⟩:=Qt hT h r l' hr
   refine ⟨a.tmps.getD t undef::vs,by simp [h1],by simp [h2],λi r' v fN hv=>?_,λi c v hc hv=>?_⟩
   ·rcases i with _|i
    ·rw [List.getElem?_cons_zero,Option.some.injEq] at fN hv;subst fN;subst hv;rfl
    ·exact h3 i r' v (by simpa using fN) (by simpa using hv)
   ·rcases i with _|i
    ·rw [List.getElem?_cons_zero,Option.some.injEq] at hc hv;subst hc;subst hv;exact h.2.tmps t
    ·exact h4 i c v (by simpa using hc) (by simpa using hv)
 | .cell p t::r,l,he=>by
  simp only [Xo] at he
  split at he
  ·rename_i c0 l' VV hr
   simp only [Option.some.injEq] at he;subst he
   obtain ⟨u,hu,hru⟩:=gT hT h t _ _ c0 (h.2.tmps p) VV
   obtain ⟨vs,h1,h2,h3,h4⟩:=Qt hT h r l' hr
   refine ⟨u::vs,by simp [h1],by simp [h2],λi r' v fN hv=>?_,λi c v hc hv=>?_⟩
   ·rcases i with _|i
    ·simp at fN hv;subst fN;subst hv;exact wo hu
    ·exact h3 i r' v (by simpa using fN) (by simpa using hv)
   ·rcases i with _|i
    ·simp at hc hv;subst hc;subst hv;exact hru
    ·exact h4 i c v (by simpa using hc) (by simpa using hv)
  ·cases he
theorem vH (hT:Cd P T) {st:St} {a:Act} (h:Aj X π st a w) (s:Spec) (fn:Func) (fr:Bool) (y:s.res.den) (he:gW T s fn st=some (fr,y)) {S:Nat->Prop} (hS:Ky X S fr):
  ∃v,(results fn a.tmps).run P w= .ok v w/\fk s w S v y:=by
 have QG:fn.results=fn.results.toList.toArray:=Array.toArray_toList.symm
 unfold gW at he
 split at he
 ·rename_i c hl
  obtain ⟨vs,h1,h2,h3,h4⟩:=Qt hT h _ _ hl
  split at he
  ·cases he
  ·rename_i hm
   have hlen:fn.results.toList.length=1:=by rw [<-h2];rfl
   obtain ⟨r,hr⟩:=List.length_eq_one_iff.1 hlen
   rw [hlen] at h1
   obtain ⟨v,rfl⟩:=List.length_eq_one_iff.1 h1
   have e0:=h3 0 r v (by rw [hr];rfl) rfl
   refine ⟨v,?_,?_⟩
   ·rw [aE,QG,hr]
    simp [e0]
   ·unfold fk
    rw [if_neg hm]
    exact Rg h.1 s.res c v fr y (h4 0 c v rfl rfl) he hS
 ·rename_i c d hl
  obtain ⟨vs,h1,h2,h3,h4⟩:=Qt hT h _ _ hl
  split at he
  ·rename_i hm
   have hlen:fn.results.toList.length=2:=by rw [<-h2];rfl
   obtain ⟨r1,r2,hr⟩:=CG hlen
   rw [hlen] at h1
   obtain ⟨v1,v2,rfl⟩:=CG h1
   have e0:=h3 0 r1 v1 (by rw [hr];rfl) rfl
   have e1:=h3 1 r2 v2 (by rw [hr];rfl) rfl
   refine ⟨.tuple #[v1,v2],?_,?_⟩
   ·rw [aE,QG,hr]
    simp [e0,e1]
   ·unfold fk
    rw [if_pos hm]
    exact ⟨[v1,v2],rfl,Tu h.1 s.res _ _ fr y rfl h4 he hS⟩
  ·cases he
 ·rename_i c d d' hl
  obtain ⟨vs,h1,h2,h3,h4⟩:=Qt hT h _ _ hl
  split at he
  ·rename_i hm
   have hlen:fn.results.toList.length=3:=by rw [<-h2];rfl
   obtain ⟨r1,r2,r3,hr⟩:=qS hlen
   rw [hlen] at h1
   obtain ⟨v1,v2,v3,rfl⟩:=qS h1
   have e0:=h3 0 r1 v1 (by rw [hr];rfl) rfl
   have e1:=h3 1 r2 v2 (by rw [hr];rfl) rfl
   have e2:=h3 2 r3 v3 (by rw [hr];rfl) rfl
   refine ⟨.tuple #[v1,v2,v3],?_,?_⟩
   ·rw [aE,QG,hr]
    simp [e0,e1,e2]
   ·unfold fk
    rw [if_pos hm]
    exact ⟨[v1,v2,v3],rfl,Tu h.1 s.res _ _ fr y rfl h4 he hS⟩
  ·cases he
 ·cases he
theorem mo {S:Nat->Prop} : ∀(τ:Ty) (vs:List Value) (x:τ.den),Az w S τ vs x->
  (Mk τ x).length=vs.length/\ ∀i,Ao ⟨w,S,λ_=>False,λ_=>none⟩ w (λ_=>none) [] ((Mk τ x).getD i .undef) (vs.getD i undef)
 | .pair a r,[],x,h=>h.elim
 | .pair a r,v::vs,x,h=>by
  obtain ⟨h1,h2⟩:=mo r vs x.2 h.2
  refine ⟨by simp [Mk,h1],λi=>?_⟩
  rcases i with _|i
  ·simp only [Mk,List.getD_cons_zero]
   cases hf:a.flat with
   |true=>exact Bd.flat hf h.1
   |false=>
    exact Bd.Fb h.1 λk _ hk=>by
     rcases hk with ⟨l,r,hl,_⟩|hk|⟨hk,_⟩
     ·cases hl
     ·exact hk
     ·cases hk
  ·simpa [Mk] using h2 i
 | .unit,[],_,_=>⟨rfl,λi=>by simp [Mk];trivial⟩
 | .unit,_::_,_,h=>h.elim
 | .int _,_,_,h=>by simp [Az] at h
 | .bool,_,_,h=>by simp [Az] at h
 | .str,_,_,h=>by simp [Az] at h
 | .slice _,_,_,h=>by simp [Az] at h
 | .ptr _,_,_,h=>by simp [Az] at h
 | .oslice _,_,_,h=>by simp [Az] at h
 | .optr _,_,_,h=>by simp [Az] at h
 | .smap _,_,_,h=>by simp [Az] at h
 | .clo _ _,_,_,h=>by simp [Az] at h
theorem so (hT:Cd P T) (Mi:Hy P Γ) (hm:P.follows .mixedOrders=true) {f:FuncId} {fn:Func} (hf:P.funcs[f]?=some fn) (s:Spec) (w:World) (S:Nat->Prop) (vs:List Value) (x:s.arg.den) (y:s.res.den)
  (hS: ∀k,S k->k<w.heap.size) (hx:Az w S s.arg vs x) (he:IK T Γ s fn x λz=>z=y):
  Calls P f vs.toArray w λe w'=> ∃v,e= .returned v/\Below w.heap.size w w'/\fk s w' (λb=>S b\/(s.fresh=true/\b<w.heap.size)) v y:=by
 obtain ⟨c,hb,he⟩:=he
 skip
 ·obtain ⟨hl,Lb⟩:=mo (w:=w) s.arg vs x hx
  have h0:Rel ⟨w,S,λ_=>False,λ_=>none⟩ {tmps:=Mk s.arg x++List.replicate (fn.ntmps-(Mk s.arg x).length) .undef,heap:= []} {tmps:=vs.toArray++Array.replicate (fn.ntmps-vs.toArray.size) undef,defers:= []} w:=by
   refine ⟨λ_=>none,⟨Ez.refl _ _ _,λb hb=>⟨hS b hb,λh=>h⟩,(λ_ _ _ h=>by cases h),(λ_ _ _ h=>by cases h),(λ_ _ _ _ _ h=>by cases h),λl _ hn=>absurd rfl hn,λl=>rfl⟩,⟨by simp [hl],rfl,λt=>?_⟩⟩
   have h1:=Lb t
   show Ao _ w _ [] ((Mk s.arg x++List.replicate _ AV.undef).getD t .undef) ((vs.toArray++Array.replicate _ undef).getD t undef)
   by_cases ht:t<vs.length
   ·rw [List.getD_eq_getElem?_getD,List.getElem?_append_left (by omega),<-List.getD_eq_getElem?_getD]
    rw [Array.getD_eq_getD_getElem?,Array.getElem?_append_left (by simpa using ht)]
    simpa [List.getD_eq_getElem?_getD] using h1
   ·have:(Mk s.arg x++List.replicate (fn.ntmps-(Mk s.arg x).length) AV.undef).getD t .undef= .undef:=by
     rw [List.getD_eq_getElem?_getD,List.getElem?_append_right (by omega)]
     rw [List.getElem?_replicate]
     split<;>rfl
    rw [this];trivial
  refine calls_of_wp hf hb ?_
  refine (nV hT Mi hm he _ w _ h0 λe st a' w' ⟨Ex,fr,y',lA,vX,hy⟩ ⟨π,h'⟩=>?_).1
  subst hy
  have Ab5:=vH hT h' s fn fr y' lA (S:= λb=>S b\/(s.fresh=true/\b<w.heap.size)) ⟨λk hk=>⟨by rcases hk with hk|hk;exact hS k hk;exact hk.2,λh=>h⟩,by
   simp only [Bool.or_eq_true,Bool.not_eq_true'] at vX
   rcases vX with h|h
   ·exact .inl h
   ·right;intro k hk;rcases hk with hk|⟨hk,_⟩
    ·exact hk
    ·rw [h] at hk;cases hk⟩
  obtain ⟨v,hv,hr⟩:=Ab5
  cases e with
  |normal=>exact ⟨h'.2.defers,v,hv,v,rfl,h'.1.below.plain,hr⟩
  |ret=>exact ⟨h'.2.defers,v,hv,v,rfl,h'.1.below.plain,hr⟩
  |exit id=>exact absurd rfl (Ex id)
theorem Uq {f:FuncId} {fn:Func} (hf:P.funcs[f]?=some fn) (hn:(fn.name== "runtime.NumGoroutine")=false) (hb:fn.body.isNone=false) (args:Array Value) (w:World):
  (callFunc f args).run P w= .ok (.enter f args) w:=by
 unfold callFunc
 simp only [Sem.run_bind,run_program,Result.andThen_ok,hf,hn,hb,Bool.false_eq_true,if_false,Sem.run_pure]
theorem ML (hT:Cd P T) (Mi:Hy P Γ) (hm:P.follows .mixedOrders=true) {f:FuncId} {fn:Func} (hf:P.funcs[f]?=some fn) (hn:(fn.name== "runtime.NumGoroutine")=false) (hb:fn.body.isNone=false) (s:Spec)
  (h: ∀x y,s.fn x=some y->IK T Γ s fn x λz=>z=y):Sound P f s:=
 ⟨Uq hf hn hb,λw S vs x y hS hx hy=>so hT Mi hm hf s w S vs x y hS hx (h x y hy)⟩
end
end Go.Proofs.Ytjbdmibbbpdnnaa
