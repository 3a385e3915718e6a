/-
  Part 26 of the proof that the statement FnExactIsMethodSolution holds.
-/
import Derived.Test.YtebabhocakedaaaCIsMethodSolution24
namespace Go.Proofs.Ytebabhocakedaaa
open Go.RowKit
section
variable {P:Program} {T:Tab} {Γ:Env} {X:Ctx} {w w':World} {π:Pi}
theorem Tq (live:List Nat): ∀(i:Nat) (l:List AV),(Ev live i l).length=l.length
 |_,[]=>rfl
 |i,v::r=>by simp [Ev,Tq live (i+1) r]
theorem Yd (live:List Nat): ∀(i:Nat) (l:List AV) (t:Nat),(Ev live i l).getD t .undef= .undef∨(Ev live i l).getD t .undef=l.getD t .undef
 |_,[],t=> .inr rfl
 |i,v::r,0=>by
  simp only [Ev,List.getD_cons_zero]
  split
  ·exact .inr rfl
  ·exact .inl rfl
 |i,v::r,t+1=>by
  simp only [Ev,List.getD_cons_succ]
  exact Yd live (i+1) r t
theorem Ab7: ∀(l:List Nat) (st:St) (a:Act) (w:World),Rel X st a w→Rel X (Ua l st) a w
 | [],_,_,_,h=>h
 |k::r,_,a,w,⟨_,h⟩=>Ab7 r _ a w ⟨_,h.forget k⟩
def Rn (π:Pi) (l k:Nat):Pi:=fun m=>if m=k then π l else if m=l then none else π m
theorem Bb7 {st:St} {l k:Nat} {b:OB} (hk:Ac st.heap k=none) (hl:Ac st.heap l=some b):
  Ac (Hr (Pn (st.heap.map fun p=>(p.1,p.2.map (Lu l k))) l) k (b.map (Lu l k))) k=some (b.map (Lu l k))∧
  Ac (Hr (Pn (st.heap.map fun p=>(p.1,p.2.map (Lu l k))) l) k (b.map (Lu l k))) l=none∧
  ∀m,m≠k→m≠l→Ac (Hr (Pn (st.heap.map fun p=>(p.1,p.2.map (Lu l k))) l) k (b.map (Lu l k))) m=(Ac st.heap m).map (OB.map (Lu l k)):=by
 have hne:l≠k:=fun e=>by subst e;rw [hk] at hl;cases hl
 refine ⟨Jc _ _ _ ?_,?_,fun m h1 h2=>?_⟩
 ·rw [Gy _ _ _ hne.symm,Hw,hk];rfl
 ·rw [Ic _ _ _ _ hne,Ge]
 ·rw [Ic _ _ _ _ h1,Gy _ _ _ h2,Hw]
theorem Move.ren {st:St} {l k:Nat} {b:OB} {H':List (Nat×OB)} (hk:Ac st.heap k=none) (hl:Ac st.heap l=some b) (e1:Ac H' k=some (b.map (Lu l k))) (_e2:Ac H' l=none)
  (e3: ∀m,m≠k→m≠l→Ac H' m=(Ac st.heap m).map (OB.map (Lu l k))) (hown: ∀c,Own (Rn π l k) c→Own π c):Move X w w π (Rn π l k) st.heap H' (Lu l k):=by
 have hne:l≠k:=fun e=>by subst e;rw [hk] at hl;cases hl
 have hc: ∀fr τ cs x,Cells w (Bb X.w0.heap.size X.Sc π fr) τ cs x→Cells w (Bb X.w0.heap.size X.Sc (Rn π l k) fr) τ cs x:=
  fun fr τ cs x h=>Cells.Ch (Nat.le_refl _) (fun _ _ _=>rfl) (fun c _ hA=>hA.imp (hown c) id) τ cs x h
 have at': ∀m c,Ac st.heap m=some c→Ac H' (Afx l k m)=some (c.map (Lu l k))∧Rn π l k (Afx l k m)=π m:=by
  intro m c hm
  unfold Afx
  by_cases e:m=l
  ·subst e
   rw [hl] at hm;cases hm
   rw [if_pos rfl]
   exact ⟨e1,by unfold Rn;rw [if_pos rfl]⟩
  ·have e':m≠k:=fun e'=>by subst e';rw [hk] at hm;cases hm
   rw [if_neg e]
   exact ⟨by rw [e3 m e' e,hm];rfl,by unfold Rn;rw [if_neg e',if_neg e]⟩
 refine ⟨fun c v h=>?_,hc⟩
 cases c with
 |data fr τ x=>obtain ⟨cs,h1,h2⟩:=h;exact ⟨cs,hc _ _ _ _ h1,h2⟩
 |own m off len=>
  obtain ⟨b',sz,n,h1,h0,h2,h3⟩:=h
  obtain ⟨g1,g2⟩:=at' m b' h1
  exact ⟨_,sz,n,g1,by cases b'<;>exact h0,h2,by rw [g2];exact h3⟩
 |vptr m i=>
  obtain ⟨r,tid,vs,h1,h2,h3⟩:=h
  obtain ⟨g1,g2⟩:=at' m _ h1
  exact ⟨r,tid,_,g1,by rw [g2];exact h2,h3⟩
 |eptr m i=>
  obtain ⟨r,b',sz,n,h1,h0,h2,h3,h4⟩:=h
  obtain ⟨g1,g2⟩:=at' m b' h1
  exact ⟨r,_,sz,n,g1,by cases b'<;>exact h0,h2,by rw [g2];exact h3,h4⟩
 |sub m i c=>
  obtain ⟨r,b,sz,n,h1,h0,h2,h3,h4,h5⟩:=h
  obtain ⟨g1,g2⟩:=at' m _ h1
  exact ⟨r,_,sz,n,g1,by cases b<;>exact h0,by rw [g2];exact h2,h3,h4,h5⟩
 |sptr m i c=>
  obtain ⟨r,b,n,sz,g,o,len,cap,h1,h0,h2,h3⟩:=h
  obtain ⟨g1,g2⟩:=at' m _ h1
  exact ⟨r,_,n,sz,g,o,len,cap,g1,by cases b<;>exact h0,by rw [g2];exact h2,h3⟩
 |clo f caps=>
  obtain ⟨us,h1,h2,h3⟩:=h
  refine ⟨us,h1,by simpa using h2,fun j p hp=>?_⟩
  rw [List.getElem?_map] at hp
  cases hq:caps[j]? with
  |none=>rw [hq] at hp;cases hp
  |some q=>
   rw [hq] at hp
   simp only [Option.map_some,Option.some.injEq] at hp
   subst hp
   obtain ⟨r,tid,vs,h4,h5,h6⟩:=h3 j q hq
   obtain ⟨g1,g2⟩:=at' q.1 _ h4
   exact ⟨r,tid,_,g1,by rw [g2];exact h5,h6⟩
 |mapr m=>
  obtain ⟨r,vt,f,h1,h2,h3⟩:=h
  obtain ⟨g1,g2⟩:=at' m _ h1
  exact ⟨r,vt,f,g1,by rw [g2];exact h2,h3⟩
 |_=>exact h
theorem Awp (l k:Nat) {st:St} {a:Act} (h:Rel X st a w):Rel X (st.rename l k) a w:=by
 unfold St.rename
 split
 ·rename_i b hk hl
  split
  ·rename_i hp
   simp only [Bool.and_eq_true,Nat.blt_eq] at hp
   obtain ⟨π,h⟩:=h
   have hne:l≠k:=fun e=>by subst e;rw [hk] at hl;cases hl
   obtain ⟨e1,e2,e3⟩:=Bb7 hk hl
   have hpk:π k=none:=(h.1.heap k).emp hk
   have un: ∀m r,Rn π l k m=some r→ ∃m',π m'=some r∧Afx l k m'=m:=fun m r hm=>by
    unfold Rn at hm
    split at hm
    ·rename_i e;subst e;exact ⟨l,hm,by unfold Afx;rw [if_pos rfl]⟩
    ·rename_i e
     split at hm
     ·cases hm
     ·rename_i e';exact ⟨m,hm,by unfold Afx;rw [if_neg e']⟩
   have m:=Move.ren (X:=X) (w:=w) (π:=π) hk hl e1 e2 e3 fun c ⟨j,r,h1,h2⟩=>let ⟨j',h3,_⟩:=un j r h1;⟨j',r,h3,h2⟩
   refine ⟨Rn π l k,⟨h.1.below,h.1.sc,fun j r c h1 h2=>?_,fun j r c h1 h2=>?_,fun j1 j2 r1 r2 c h1 h2 h3 h4=>?_,fun j hj hne'=>?_,fun j=>?_⟩,?_⟩
   ·obtain ⟨j',h3,_⟩:=un j r h1;exact h.1.sub j' r c h3 h2
   ·obtain ⟨j',h3,_⟩:=un j r h1;exact h.1.place j' r c h3 h2
   ·obtain ⟨j1',g1,g2⟩:=un j1 r1 h1
    obtain ⟨j2',g3,g4⟩:=un j2 r2 h2
    rw [←g2,←g4,h.1.inj j1' j2' r1 r2 c g1 g3 h3 h4]
   ·have n1:j≠k:=fun e=>by omega
    have n2:j≠l:=fun e=>by omega
    have hne2:Ac st.heap j≠none:=fun h0=>hne' ((e3 j n1 n2).trans (by rw [h0];rfl))
    have:=h.1.pin j hj hne2
    unfold Rn
    rw [if_neg n1,if_neg n2]
    exact this
   ·by_cases n1:j=k
    ·subst n1
     refine Cq.Hb ?_ e1
     unfold Rn
     rw [if_pos rfl]
     exact ((h.1.heap l).blk hl).move m (Nat.le_refl _) (fun r0 c h0 h1=>h.1.sub _ r0 c h0 h1) fun _ _ _ _ _=>rfl
    ·by_cases n2:j=l
     ·subst n2
      exact Cq.Mh (by unfold Rn;rw [if_neg n1,if_pos rfl]) e2
     ·have hr:Rn π l k j=π j:=by unfold Rn;rw [if_neg n1,if_neg n2]
      have hn:=e3 j n1 n2
      have ho:=h.1.heap j
      cases hgk:Ac st.heap j with
      |none=>rw [hgk] at hn;exact Cq.Mh (by rw [hr];exact ho.emp hgk) hn
      |some c=>
       rw [hgk] at hn
       refine Cq.Hb ?_ hn
       rw [hr]
       exact (ho.blk hgk).move m (Nat.le_refl _) (fun r0 c h0 h1=>h.1.sub _ r0 c h0 h1) fun _ _ _ _ _=>rfl
   ·have:Ai9 X w (Rn π l k) {tmps:=st.tmps.map (·.map (Lu l k)),heap:=Hr (Pn (st.heap.map fun p=>(p.1,p.2.map (Lu l k))) l) k (b.map (Lu l k))} a:=m.Awo rfl h.2
    exact this
  ·exact h
 ·exact h
theorem Zj: ∀(n t:Nat) (st:St) (a:Act) (w:World),Rel X st a w→Rel X (Gf n t st) a w
 |0,_,_,_,_,h=>h
 |n+1,t,st,a,w,h=>by
  simp only [Gf]
  refine Zj n (t+1) _ a w ?_
  split
  ·split
   ·split
    ·exact h
    ·exact Awp _ _ h
   ·exact h
  ·exact h
theorem Aai (f:Nat→OB→OB): ∀(H:List (Nat×OB)) (l:Nat),Ac (H.map fun p=>(p.1,f p.1 p.2)) l=(Ac H l).map (f l)
 | [],_=>rfl
 |(k,b)::r,l=>by
  simp only [List.map_cons,Ac]
  split
  ·rename_i e;subst e;rfl
  ·exact Aai f r l
theorem OB.Auq (x y:Bool) (b:OB):(b.Eb x y).row=b.row:=by cases b<;>rfl
def Aex (live:List Nat) (l:Nat) (b:OB):OB:=b.Eb (live.contains Oy) (live.contains (Aup+l))
theorem Move.Eb (live:List Nat) {H:List (Nat×OB)} :Move X w w π π H (H.map fun p=>(p.1,Aex live p.1 p.2)) (fun c=>c):=by
 refine ⟨fun c v h=>?_,fun fr τ cs x h=>h⟩
 have at': ∀m c,Ac H m=some c→Ac (H.map fun p=>(p.1,Aex live p.1 p.2)) m=some (Aex live m c):=fun m c hm=>by rw [Aai,hm];rfl
 cases c with
 |own m off len=>
  obtain ⟨b',sz,n,h1,h0,h2,h3⟩:=h
  exact ⟨_,sz,n,at' m b' h1,by unfold Aex;rw [OB.Auq];exact h0,h2,h3⟩
 |vptr m i=>
  obtain ⟨r,tid,vs,h1,h2,h3⟩:=h
  exact ⟨r,tid,vs,at' m _ h1,h2,h3⟩
 |eptr m i=>
  obtain ⟨r,b',sz,n,h1,h0,h2,h3,h4⟩:=h
  exact ⟨r,_,sz,n,at' m b' h1,by unfold Aex;rw [OB.Auq];exact h0,h2,h3,h4⟩
 |sub m i c=>
  obtain ⟨r,b,sz,n,h1,h0,h2⟩:=h
  exact ⟨r,_,sz,n,at' m _ h1,by cases b<;>exact h0,h2⟩
 |sptr m i c=>
  obtain ⟨r,b,n,sz,g,o,len,cap,h1,h0,h2⟩:=h
  exact ⟨r,_,n,sz,g,o,len,cap,at' m _ h1,by cases b<;>exact h0,h2⟩
 |clo f caps=>
  obtain ⟨us,h1,h2,h3⟩:=h
  refine ⟨us,h1,h2,fun j p hp=>?_⟩
  obtain ⟨r,tid,vs,h4,h5,h6⟩:=h3 j p hp
  exact ⟨r,tid,vs,at' p.1 _ h4,h5,h6⟩
 |mapr m=>
  obtain ⟨r,vt,f,h1,h2,h3⟩:=h
  exact ⟨r,vt,f,at' m _ h1,h2,h3⟩
 |_=>exact h
theorem Bcz (live:List Nat) {st:St} {a:Act} (h:Rel X st a w):Rel X (st.Eb live) a w:=by
 obtain ⟨π,h⟩:=h
 have m:=Move.Eb (X:=X) (w:=w) (π:=π) live (H:=st.heap)
 refine ⟨π,⟨h.1.below,h.1.sc,h.1.sub,h.1.place,h.1.inj,fun j hj hne=>h.1.pin j hj fun h0=>hne (by show Ac (st.heap.map fun p=>(p.1,Aex live p.1 p.2)) j=none;rw [Aai,h0];rfl),fun j=>?_⟩,?_⟩
 ·have hn:Ac (st.Eb live).heap j=(Ac st.heap j).map (Aex live j):=Aai (Aex live) st.heap j
  have ho:=h.1.heap j
  cases hgk:Ac st.heap j with
  |none=>rw [hgk] at hn;exact Cq.Mh (ho.emp hgk) hn
  |some c=>
   rw [hgk] at hn
   refine Cq.Hb ?_ hn
   have hb:=(ho.blk hgk).move m (Nat.le_refl _) (fun r0 c h0 h1=>h.1.sub _ r0 c h0 h1) fun _ _ _ _ _=>rfl
   cases c with
   |arr fr tr e tid xs=>
    simp only [OB.map,Aq,El,OB.Eb,Aex] at hb⊢
    cases hp:π j with
    |none=>rw [hp] at hb;exact hb
    |some r=>
     rw [hp] at hb
     obtain ⟨⟨g1,g2,g3⟩,cur,ti,g4,g5,g6,g7,g8,g9⟩:=hb
     refine ⟨⟨g1,g2,fun hf=>g3 (Bool.and_eq_true_iff.1 hf).1⟩,cur,ti,g4,g5,g6,g7,fun i x hx=>?_,fun ht=>g9 (Bool.and_eq_true_iff.1 ht).1⟩
     obtain ⟨es,k1,k2,k3⟩:=g8 i x hx
     refine ⟨es,k1,k2,Cells.Ch (Nat.le_refl _) (fun _ _ _=>rfl) (fun b _ hA=>?_) e es x k3⟩
     exact hA.imp id (Or.imp id fun ⟨h1,h2⟩=>⟨(Bool.and_eq_true_iff.1 h1).1,h2⟩)
   |xarr e tid xs=>exact hb
   |grid e te rows out kp=>exact hb
   |var tid vs=>
    have e:(OB.var tid vs).map (fun c=>c)= .var tid vs:=by simp [OB.map]
    rw [e] at hb;exact hb
   |smp v f=>exact hb
 ·exact ⟨h.2.size,h.2.defers,fun t=>by have:=m.av (h.2.tmps t);rwa [AC.map_id] at this⟩
theorem Aq1 (t:Nat) {st:St} {a:Act} (h:Rel X st a w):Rel X (Rl t st) a w:=by
 obtain ⟨π,h⟩:=h
 unfold Rl
 split
 ·rename_i l off len hg
  split
  ·rename_i fr tr e tid xs hl
   split
   ·rename_i hlp
    have hv:=h.2.tmps t
    rw [hg] at hv
    obtain ⟨π',h1,h2⟩:=Awm h (by simpa using hlp) hl hv
    refine ⟨π',h1.1,⟨?_,h1.2.defers,fun k=>?_⟩⟩
    ·show a.tmps.size=(Ln _ t _).length
     rw [So];exact h1.2.size
    ·show Ai X w π' _ ((Ln _ t _).getD k .undef) _
     rw [Qq]
     split
     ·rename_i hk
      obtain ⟨rfl,_⟩:=hk
      exact h2
     ·exact h1.2.tmps k
   ·exact ⟨π,h⟩
  ·exact ⟨π,h⟩
 ·exact ⟨π,h⟩
theorem Abh (live:List Nat): ∀(n t:Nat) (st:St) (a:Act) (w:World),Rel X st a w→Rel X (Hx live n t st) a w
 |0,_,_,_,_,h=>h
 |n+1,t,st,a,w,h=>by
  simp only [Hx]
  refine Abh live n (t+1) _ a w ?_
  split
  ·exact Aq1 t h
  ·exact h
theorem Aym (live:List Nat) {st:St} {a:Act} (h:Rel X st a w):Rel X (st.clean live) a w:=by
 obtain ⟨π,h⟩:=h
 have key0: ∀s:St,Rel X s a w→Rel X (if live.any (fun t=>Nat.ble Oy t) then s.Eb live else s) a w:=by
  intro s hs
  split
  ·exact Bcz live hs
  ·exact hs
 have key: ∀s:St,Rel X s a w→Rel X (if live.contains Sm then Gf s.tmps.length 0 s else s) a w:=by
  intro s hs
  split
  ·exact Zj _ _ _ a w hs
  ·exact hs
 have key1: ∀s:St,Rel X s a w→Rel X (if live.any (fun t=>Nat.ble Js t&&Nat.blt t Sm) then Hx live s.tmps.length 0 s else s) a w:=by
  intro s hs
  split
  ·exact Abh _ _ _ _ a w hs
  ·exact hs
 unfold St.clean
 refine key0 _ (key _ (key1 _ (Ab7 _ _ a w ⟨π,h.1,⟨by simp [Tq,h.2.size],h.2.defers,fun t=>?_⟩⟩)))
 show Ai X w π st.heap ((Ev live 0 st.tmps).getD t .undef) _
 rcases Yd live 0 st.tmps t with e|e
 ·rw [e];trivial
 ·rw [e];exact h.2.tmps t
def Bet:Fp→Exit
 | .normal=> .normal
 | .exit id=> .exit id
 | .ret=> .ret
def Ai8 (P:Program) (c:Code) (Q:Exit→Act→World→Prop) (a:Act) (w:World):Prop:=
 ∀(b:Frame) (k:List Item) (cs:List Frame),∃e a' w',Q e a' w'∧Arrives P (lone (b.at a (.code c:: .inLoop c::k)) cs w) b k cs e a' w'
theorem Ast {c:Code} {Q:Exit→Act→World→Prop} {a:Act} {w:World} (h:c.wp P (Exit.then (Ai8 P c Q) Q) a w):Ai8 P c Q a w:=by
 intro b k cs
 obtain ⟨e,a₁,w₁,hq,harr⟩:=h b (.inLoop c::k) cs
 cases e with
 |normal=>
  obtain ⟨e₂,a₂,w₂,hq₂,harr₂⟩:=hq b k cs
  exact ⟨e₂,a₂,w₂,hq₂, .of_steps (Steps.trans harr (.one step_inLoop)) harr₂⟩
 |exit id=>exact ⟨_,a₁,w₁,hq, .pass (x:= .inLoop c) rfl (fun _ _=> .inl (by simp)) harr⟩
 |goto l=>exact ⟨_,a₁,w₁,hq, .pass (x:= .inLoop c) rfl (fun _ _=> .inl (by simp)) harr⟩
 |ret=>exact ⟨_,a₁,w₁,hq, .pass (x:= .inLoop c) rfl (fun _ _=> .inl (by simp)) harr⟩
 |panic ch=>exact ⟨_,a₁,w₁,hq, .pass (x:= .inLoop c) rfl (fun _ _=> .inl (by simp)) harr⟩
 |outgrown=>exact ⟨_,a₁,w₁,hq, .pass (x:= .inLoop c) rfl (fun _ _=> .inl (by simp)) harr⟩
theorem Bap {c:Code} {Q:Exit→Act→World→Prop} {a:Act} {w:World} (h:Ai8 P c Q a w):(Code.loop c).wp P Q a w:=by
 intro b k cs
 obtain ⟨e,a',w',hq,harr⟩:=h b k cs
 exact ⟨e,a',w',hq, .of_steps (.one step_loop) harr⟩
theorem Ak6 (hT:Bt P T) (hΓ:Gl P Γ) (hm:P.follows .mixedOrders=true) {live:Nat→List Nat} {c:Code} {st:St} {K:Fp→St→Prop} (hr:Hq T Γ live c st K):
  ∀(a:Act) (w:World) (Q:Exit→Act→World→Prop),Rel X st a w→(∀e st' a' w',K e st'→Rel X st' a' w'→Q (Bet e) a' w')→c.wp P Q a w∧ ∀c',c= .loop c'→Ai8 P c' Q a w:=by
 induction hr with
 |skip hk=>exact fun a w Q h hQ=>⟨wp_skip (hQ .normal _ _ _ hk h),fun c' e=>by cases e⟩
 |label hk=>exact fun a w Q h hQ=>⟨wp_label (hQ .normal _ _ _ hk h),fun c' e=>by cases e⟩
 |exit hk=>exact fun a w Q h hQ=>⟨wp_exit (hQ (.exit _) _ _ _ hk h),fun c' e=>by cases e⟩
 |ret hk=>exact fun a w Q h hQ=>⟨wp_ret (hQ .ret _ _ _ hk h),fun c' e=>by cases e⟩
 |region hk=>exact fun a w Q h hQ=>⟨Awn hT (hΓ.reg _) hm h hk fun st' a' w' h1 h2=>hQ .normal _ _ _ h1 h2,fun c' e=>by cases e⟩
 |seq Q1 _ _ h3 ih1 ih2=>
  intro a w Q h hQ
  refine ⟨wp_seq ((ih1 a w _ h fun e st' a' w' hk h'=>?_).1),fun c' e=>by cases e⟩
  cases e with
  |normal=>exact (ih2 st' hk a' w' Q h' hQ).1
  |exit id=>exact hQ (.exit id) _ _ _ (h3 _ _ (by simp) hk) h'
  |ret=>exact hQ .ret _ _ _ (h3 _ _ (by simp) hk) h'
 |cond hc _ _ ih1 ih2=>
  intro a w Q h hQ
  refine ⟨?_,fun c' e=>by cases e⟩
  obtain ⟨π,h'⟩:=h
  rename_i c x y st fr t Q0 _ _
  have hr:=Bk h'.2 c
  rw [hc] at hr
  refine wp_cond (Ox hr) ?_
  cases t with
  |true=>exact (ih1 rfl a w Q ⟨π,h'⟩ hQ).1
  |false=>exact (ih2 rfl a w Q ⟨π,h'⟩ hQ).1
 |block Q1 _ h2 ih=>
  intro a w Q h hQ
  rename_i id c st Q0 _
  refine ⟨wp_block ((ih a w _ h fun e st' a' w' hk h'=>?_).1),fun c' e=>by cases e⟩
  have h3:=h2 e st' hk
  cases e with
  |normal=>exact hQ .normal _ _ _ h3 h'
  |ret=>exact hQ .ret _ _ _ h3 h'
  |exit id'=>
   show (if id'=id then Q .normal a' w' else Q (.exit id') a' w')
   simp only [Amz] at h3
   by_cases hid:id'=id
   ·rw [if_pos hid] at h3⊢;exact hQ .normal _ _ _ h3 h'
   ·rw [if_neg hid] at h3⊢;exact hQ (.exit id') _ _ _ h3 h'
 |loop Q1 _ _ h3 ih1 ih2=>
  intro a w Q h hQ
  rename_i c st Q0 _ _
  have key:Ai8 P c Q a w:=by
   refine Ast ((ih1 a w _ (Aym _ h) fun e st' a' w' hk h'=>?_).1)
   cases e with
   |normal=>exact (ih2 st' hk a' w' Q h' hQ).2 c rfl
   |exit id=>exact hQ (.exit id) _ _ _ (h3 _ _ (by simp) hk) h'
   |ret=>exact hQ .ret _ _ _ (h3 _ _ (by simp) hk) h'
  exact ⟨Bap key,fun c' e=>by cases e;exact key⟩
def Awr (tmps:Array Value):ResultVar→Sem Value
 | .tmp t=>pure (tmps.getD t undef)
 | .cell p t=>do loadVar t (←asAddr (tmps.getD p undef))
theorem Wf (fn:Func) (tmps:Array Value):results fn tmps=(do
  let vs←fn.results.mapM (Awr tmps)
  pure (if h:vs.size=1 then vs[0] else .tuple vs)):=by
 rfl
theorem Ay5 {α:Type} {l:List α} (h:l.length=2): ∃a b,l= [a,b]:=by
 rcases l with _|⟨a,_|⟨b,_|⟨c,r⟩⟩⟩<;>simp at h
 exact ⟨a,b,rfl⟩
theorem An7 {α:Type} {l:List α} (h:l.length=3): ∃a b c,l= [a,b,c]:=by
 rcases l with _|⟨a,_|⟨b,_|⟨c,_|⟨d,r⟩⟩⟩⟩<;>simp at h
 exact ⟨a,b,c,rfl⟩
theorem Asr {t:TypeId} {v u:Value} (h:(Instr.loadAt t v).run P w= .ok u w):(do loadVar t (←asAddr v):Sem Value).run P w= .ok u w:=by
 unfold Instr.loadAt at h
 cases v with
 |pointer a=>
  cases a with
  |some a=>simpa [Instr.sureAddr,asAddr] using h
  |none=>simp [Instr.sureAddr,Result.andThen] at h
 |_=>simp [Instr.sureAddr,Result.andThen] at h
theorem Nl (hT:Bt P T) {st:St} {a:Act} (h:Af X π st a w): ∀(rs:List ResultVar) (l:List AV),Tg T st rs=some l→
  ∃vs:List Value,vs.length=rs.length∧l.length=rs.length∧(∀(i:Nat) r v,rs[i]?=some r→vs[i]?=some v→(Awr a.tmps r).run P w= .ok v w)∧(∀(i:Nat) c v,l[i]?=some c→vs[i]?=some v→Ai X w π st.heap c v)
 | [],l,he=>by
  simp only [Tg,Option.some.injEq] at he;subst he
  exact ⟨[],rfl,rfl,fun i r v hr=>by simp at hr,fun i c v hc=>by simp at hc⟩
 | .tmp t::r,l,he=>by
  simp only [Tg] at he
  cases hr:Tg T st r with
  |none=>rw [hr] at he;cases he
  |some l'=>
   rw [hr] at he
   simp only [Option.map_some,Option.some.injEq] at he;subst he
   obtain ⟨vs,h1,h2,h3,h4⟩:=Nl hT h r l' hr
   refine ⟨a.tmps.getD t undef::vs,by simp [h1],by simp [h2],fun i r' v hr' hv=>?_,fun i c v hc hv=>?_⟩
   ·rcases i with _|i
    ·rw [List.getElem?_cons_zero,Option.some.injEq] at hr' hv;subst hr';subst hv;rfl
    ·exact h3 i r' v (by simpa using hr') (by simpa using hv)
   ·rcases i with _|i
    ·rw [List.getElem?_cons_zero,Option.some.injEq] at hc hv;subst hc;subst hv;exact h.2.tmps t
    ·exact h4 i c v (by simpa using hc) (by simpa using hv)
 | .cell p t::r,l,he=>by
  simp only [Tg] at he
  split at he
  ·rename_i c0 l' hl0 hr
   simp only [Option.some.injEq] at he;subst he
   obtain ⟨u,hu,hru⟩:=Ado hT h t _ _ c0 (h.2.tmps p) hl0
   obtain ⟨vs,h1,h2,h3,h4⟩:=Nl hT h r l' hr
   refine ⟨u::vs,by simp [h1],by simp [h2],fun i r' v hr' hv=>?_,fun i c v hc hv=>?_⟩
   ·rcases i with _|i
    ·simp at hr' hv;subst hr';subst hv;exact Asr hu
    ·exact h3 i r' v (by simpa using hr') (by simpa using hv)
   ·rcases i with _|i
    ·simp at hc hv;subst hc;subst hv;exact hru
    ·exact h4 i c v (by simpa using hc) (by simpa using hv)
  ·cases he
theorem As0 (hT:Bt P T) {st:St} {a:Act} (h:Af X π st a w) (s:Spec) (fn:Func) (fr:Bool) (y:s.res.den) (he:Adr T s fn st=some (fr,y)) {S:Nat→Prop} (hS:Jh X S fr):
  ∃v,(results fn a.tmps).run P w= .ok v w∧Ac0 s w S v y:=by
 have hrs:fn.results=fn.results.toList.toArray:=Array.toArray_toList.symm
 unfold Adr at he
 split at he
 ·rename_i c hl
  obtain ⟨vs,h1,h2,h3,h4⟩:=Nl hT h _ _ hl
  split at he
  ·cases he
  ·rename_i hm
   have hlen:fn.results.toList.length=1:=by rw [←h2];rfl
   obtain ⟨r,hr⟩:=List.length_eq_one_iff.1 hlen
   rw [hlen] at h1
   obtain ⟨v,rfl⟩:=List.length_eq_one_iff.1 h1
   have e0:=h3 0 r v (by rw [hr];rfl) rfl
   refine ⟨v,?_,?_⟩
   ·rw [Wf,hrs,hr]
    simp [e0]
   ·unfold Ac0
    rw [if_neg hm]
    exact Nu h.1 s.res c v fr y (h4 0 c v rfl rfl) he hS
 ·rename_i c d hl
  obtain ⟨vs,h1,h2,h3,h4⟩:=Nl hT h _ _ hl
  split at he
  ·rename_i hm
   have hlen:fn.results.toList.length=2:=by rw [←h2];rfl
   obtain ⟨r1,r2,hr⟩:=Ay5 hlen
   rw [hlen] at h1
   obtain ⟨v1,v2,rfl⟩:=Ay5 h1
   have e0:=h3 0 r1 v1 (by rw [hr];rfl) rfl
   have e1:=h3 1 r2 v2 (by rw [hr];rfl) rfl
   refine ⟨.tuple #[v1,v2],?_,?_⟩
   ·rw [Wf,hrs,hr]
    simp [e0,e1]
   ·unfold Ac0
    rw [if_pos hm]
    exact ⟨[v1,v2],rfl,Qf h.1 s.res _ _ fr y rfl h4 he hS⟩
  ·cases he
 ·rename_i c d d' hl
  obtain ⟨vs,h1,h2,h3,h4⟩:=Nl hT h _ _ hl
  split at he
  ·rename_i hm
   have hlen:fn.results.toList.length=3:=by rw [←h2];rfl
   obtain ⟨r1,r2,r3,hr⟩:=An7 hlen
   rw [hlen] at h1
   obtain ⟨v1,v2,v3,rfl⟩:=An7 h1
   have e0:=h3 0 r1 v1 (by rw [hr];rfl) rfl
   have e1:=h3 1 r2 v2 (by rw [hr];rfl) rfl
   have e2:=h3 2 r3 v3 (by rw [hr];rfl) rfl
   refine ⟨.tuple #[v1,v2,v3],?_,?_⟩
   ·rw [Wf,hrs,hr]
    simp [e0,e1,e2]
   ·unfold Ac0
    rw [if_pos hm]
    exact ⟨[v1,v2,v3],rfl,Qf h.1 s.res _ _ fr y rfl h4 he hS⟩
  ·cases he
 ·cases he
theorem Aij {S:Nat→Prop} : ∀(τ:Ty) (vs:List Value) (x:τ.den),Au w S τ vs x→
  (Kg τ x).length=vs.length∧ ∀i,Ai ⟨w,S,fun _=>False,fun _=>none⟩ w (fun _=>none) [] ((Kg τ x).getD i .undef) (vs.getD i undef)
 | .pair a r,[],x,h=>h.elim
 | .pair a r,v::vs,x,h=>by
  obtain ⟨h1,h2⟩:=Aij r vs x.2 h.2
  refine ⟨by simp [Kg,h1],fun i=>?_⟩
  rcases i with _|i
  ·simp only [Kg,List.getD_cons_zero]
   cases hf:a.flat with
   |true=>exact Bc.flat hf h.1
   |false=>
    exact Bc.Eb h.1 fun k _ hk=>by
     rcases hk with ⟨l,r,hl,_⟩|hk|⟨hk,_⟩
     ·cases hl
     ·exact hk
     ·cases hk
  ·simpa [Kg] using h2 i
 | .unit,[],_,_=>⟨rfl,fun i=>by simp [Kg];trivial⟩
 | .unit,_::_,_,h=>h.elim
 | .int _,_,_,h=>by simp [Au] at h
 | .bool,_,_,h=>by simp [Au] at h
 | .str,_,_,h=>by simp [Au] at h
 | .slice _,_,_,h=>by simp [Au] at h
 | .ptr _,_,_,h=>by simp [Au] at h
 | .oslice _,_,_,h=>by simp [Au] at h
 | .optr _,_,_,h=>by simp [Au] at h
 | .smap _,_,_,h=>by simp [Au] at h
 | .clo _ _,_,_,h=>by simp [Au] at h
theorem Aot (hT:Bt P T) (hΓ:Gl P Γ) (hm:P.follows .mixedOrders=true) {f:FuncId} {fn:Func} (hf:P.funcs[f]?=some fn) (s:Spec) (w:World) (S:Nat→Prop) (vs:List Value) (x:s.arg.den) (y:s.res.den)
  (hS: ∀k,S k→k<w.heap.size) (hx:Au w S s.arg vs x) (he:Bau T Γ s fn x fun z=>z=y):
  Calls P f vs.toArray w fun e w'=> ∃v,e= .returned v∧Below w.heap.size w w'∧Ac0 s w' (fun b=>S b∨(s.fresh=true∧b<w.heap.size)) v y:=by
 obtain ⟨c,hb,he⟩:=he
 skip
 ·obtain ⟨hl,hargs⟩:=Aij (w:=w) s.arg vs x hx
  have h0:Rel ⟨w,S,fun _=>False,fun _=>none⟩ {tmps:=Kg s.arg x++List.replicate (fn.ntmps-(Kg s.arg x).length) .undef,heap:= []} {tmps:=vs.toArray++Array.replicate (fn.ntmps-vs.toArray.size) undef,defers:= []} w:=by
   refine ⟨fun _=>none,⟨Fa.refl _ _ _,fun b hb=>⟨hS b hb,fun h=>h⟩,(fun _ _ _ h=>by cases h),(fun _ _ _ h=>by cases h),(fun _ _ _ _ _ h=>by cases h),fun l _ hn=>absurd rfl hn,fun l=>rfl⟩,⟨by simp [hl],rfl,fun t=>?_⟩⟩
   have h1:=hargs t
   show Ai _ w _ [] ((Kg s.arg x++List.replicate _ AV.undef).getD t .undef) ((vs.toArray++Array.replicate _ undef).getD t undef)
   by_cases ht:t<vs.length
   ·rw [List.getD_eq_getElem?_getD,List.getElem?_append_left (by omega),←List.getD_eq_getElem?_getD]
    rw [Array.getD_eq_getD_getElem?,Array.getElem?_append_left (by simpa using ht)]
    simpa [List.getD_eq_getElem?_getD] using h1
   ·have:(Kg s.arg x++List.replicate (fn.ntmps-(Kg s.arg x).length) AV.undef).getD t .undef= .undef:=by
     rw [List.getD_eq_getElem?_getD,List.getElem?_append_right (by omega)]
     rw [List.getElem?_replicate]
     split<;>rfl
    rw [this];trivial
  refine calls_of_wp hf hb ?_
  refine (Ak6 hT hΓ hm he _ w _ h0 fun e st a' w' ⟨hne,fr,y',hres,hfr,hy⟩ ⟨π,h'⟩=>?_).1
  subst hy
  have hpost:=As0 hT h' s fn fr y' hres (S:=fun b=>S b∨(s.fresh=true∧b<w.heap.size)) ⟨fun k hk=>⟨by rcases hk with hk|hk;exact hS k hk;exact hk.2,fun h=>h⟩,by
   simp only [Bool.or_eq_true,Bool.not_eq_true'] at hfr
   rcases hfr with h|h
   ·exact .inl h
   ·right;intro k hk;rcases hk with hk|⟨hk,_⟩
    ·exact hk
    ·rw [h] at hk;cases hk⟩
  obtain ⟨v,hv,hr⟩:=hpost
  cases e with
  |normal=>exact ⟨h'.2.defers,v,hv,v,rfl,h'.1.below.plain,hr⟩
  |ret=>exact ⟨h'.2.defers,v,hv,v,rfl,h'.1.below.plain,hr⟩
  |exit id=>exact absurd rfl (hne id)
theorem Xz {f:FuncId} {fn:Func} (hf:P.funcs[f]?=some fn) (hn:(fn.name== "runtime.NumGoroutine")=false) (hb:fn.body.isNone=false) (args:Array Value) (w:World):
  (callFunc f args).run P w= .ok (.enter f args) w:=by
 unfold callFunc
 simp only [Sem.run_bind,run_program,Result.andThen_ok,hf,hn,hb,Bool.false_eq_true,if_false,Sem.run_pure]
theorem Bcc (hT:Bt P T) (hΓ:Gl P Γ) (hm:P.follows .mixedOrders=true) {f:FuncId} {fn:Func} (hf:P.funcs[f]?=some fn) (hn:(fn.name== "runtime.NumGoroutine")=false) (hb:fn.body.isNone=false) (s:Spec)
  (h: ∀x y,s.fn x=some y→Bau T Γ s fn x fun z=>z=y):Sound P f s:=
 ⟨Xz hf hn hb,fun w S vs x y hS hx hy=>Aot hT hΓ hm hf s w S vs x y hS hx (h x y hy)⟩
end
end Go.Proofs.Ytebabhocakedaaa
