/-
  Part 14 of the proof that the statement FnTwoPhase holds.
-/
import Derived.Test.YtkkdpknjohcekaaCFTwoPhase12
namespace Go.Proofs.Ytkkdpknjohcekaa
open Go.RowKit
section
variable {P:Program} {T:Tab} {X:Ctx} {w w':World} {π π':Pi} {H H':List (Nat×OB)}
def OB.fC:OB->OB->Prop
 | .arr _ _ e _ xs, .arr _ _ e' _ xs'=>e=e'/\xs.length=xs'.length
 | .Hc e _ xs, .Hc e' _ xs'=>e=e'/\xs.length=xs'.length
 | .var tid vs, .var Vh vs'=>tid=Vh/\vs.length=vs'.length
 | .Bu e _ rows _ _, .Bu e' _ HY _ _=>e=e'/\rows.length=HY.length
 |b,b'=>b=b'
theorem OB.fC.rfl' (b:OB):b.fC b:=by cases b<;>simp [OB.fC]
theorem OB.fC.row {b b':OB} (h:b.fC b'):b'.row=b.row:=by
 cases b<;>cases b'<;>simp only [OB.fC] at h<;>first|(obtain ⟨rfl,h⟩:=h;simp [OB.row,h])|(rw [h])|cases h
theorem OB.fC.gJ {b b':OB} {f:AC->AC} (h:(b.map f).fC b') {p:Nat×Nat} (hp:b.gJ=some p):b'.gJ=some p:=by
 cases b<;>first|(cases hp;done)|skip
 all_goals
  cases b'<;>simp only [OB.map,OB.fC,reduceCtorEq] at h
 ·obtain ⟨rfl,h⟩:=h;rw [<-hp];simp [OB.gJ,h]
 ·rw [<-hp];simp [OB.gJ,h]
theorem OB.fC.vS {b b':OB} {f:AC->AC} (h:(b.map f).fC b') {p:Nat×Nat} (hp:b.vS=some p):b'.vS=some p:=by
 cases b<;>first|(cases hp;done)|skip
 cases b'<;>simp only [OB.map,OB.fC,reduceCtorEq] at h
 rw [<-hp];simp [OB.vS,h]
theorem OB.AR (f:AC->AC) (b:OB):(b.map f).row=b.row:=by cases b<;>rfl
theorem nO {dead part:List Nat} {c:AC} (h:Cx dead part c≠ .undef): ∀k∈c.refs,k∉dead:=by
 unfold Cx at h
 split at h
 ·exact absurd rfl h
 ·rename_i hn
  intro k hk hd
  refine hn (Eo.2 ⟨k,hk,by simpa using hd⟩)
theorem cK {dead part:List Nat} {c:AC} (h: ∀k∈c.refs,k∉dead) (hs: ∀l i j,c= .sub l i j\/c= .Km l i j->l∉part):Cx dead part c=c:=by
 unfold Cx
 rw [Ai (by
  intro hh
  obtain ⟨k,hk,hd⟩:=Eo.1 hh
  exact h k hk (by simpa using hd))]
 split
 ·rename_i l i j
  rw [Ai (by simpa using hs l i j (.inl rfl))]
 ·rename_i l i j
  rw [Ai (by simpa using hs l i j (.inr rfl))]
 ·rfl
theorem Move.Aig {dead part:List Nat} (hs:w.heap.size<=w'.heap.size) (hk: ∀k,k<w.heap.size-> ¬Wf π k->w'.heap[k]?=w.heap[k]?) (hO: ∀b,b<w.heap.size->Wf π' b->Wf π b)
  (hH: ∀m,m∉dead-> ∀b0,Ay H m=some b0->π' m=π m/\ ∃b,Ay H' m=some b/\(b0.map (Cx dead part)).fC b)
  (hx: ∀m r,m∉dead->m∉part->π m=some r->(∃b,Ay H m=some b/\b.gJ≠none)->r.g<w.heap.size->w'.heap[r.g]?=w.heap[r.g]?):Move X w w' π π' H H' (Cx dead part):=by
 have hc: ∀fr τ cs x,Cells w (Df X.w0.heap.size X.Sc π fr) τ cs x->Cells w' (Df X.w0.heap.size X.Sc π' fr) τ cs x:=by
  intro fr τ cs x h
  exact Cells.Fz hs (λk mU hn=>hk k mU λh0=>hn (.inl h0)) (λk Lg hA=>hA.imp (hO k Lg) id) τ cs x h
 refine ⟨λc v h=>?_,hc⟩
 by_cases hu:Cx dead part c= .undef
 ·rw [hu];trivial
 have hr:=nO hu
 have hp: ∀l i j,c= .sub l i j\/c= .Km l i j->l∉part:=by
  intro l i j e hm
  refine hu ?_
  unfold Cx
  rcases e with rfl|rfl
  all_goals
   split
   ·rfl
   ·simp [hm]
 rw [cK hr hp]
 cases c with
 |data fr τ x=>obtain ⟨cs,h1,h2⟩:=h;exact ⟨cs,hc _ _ _ _ h1,h2⟩
 |own k off len=>
  obtain ⟨b,sz,n,h1,h0,h2,h3⟩:=h
  obtain ⟨e1,b',e2,e3⟩:=hH k (hr k (by simp [AC.refs])) b h1
  exact ⟨b',sz,n,e2,by rw [e3.row,OB.AR];exact h0,h2,by rw [e1];exact h3⟩
 |Ho k i=>
  obtain ⟨r,tid,vs,h1,h2,h3⟩:=h
  obtain ⟨e1,b',e2,e3⟩:=hH k (hr k (by simp [AC.refs])) _ h1
  cases b'<;>simp only [OB.map,OB.fC,reduceCtorEq] at e3
  exact ⟨r,_,_,e2,by rw [e1];exact h2,h3⟩
 |Kp k i=>
  obtain ⟨r,b,sz,n,h1,h0,h2,h3,h4⟩:=h
  obtain ⟨e1,b',e2,e3⟩:=hH k (hr k (by simp [AC.refs])) b h1
  exact ⟨r,b',sz,n,e2,by rw [e3.row,OB.AR];exact h0,h2,by rw [e1];exact h3,h4⟩
 |sub k i c=>
  obtain ⟨r,b,sz,n,h1,h0,h2,h3,h4,h5⟩:=h
  have hkd:=hr k (by simp [AC.refs])
  obtain ⟨e1,b',e2,e3⟩:=hH k hkd _ h1
  have hg:=hx k r hkd (hp k i c (.inl rfl)) h2 ⟨b,h1,by rw [h0];simp⟩ (cD h5)
  exact ⟨r,b',sz,n,e2,e3.gJ h0,by rw [e1];exact h2,h3,h4,by rw [World.cell?_of_block hg];exact h5⟩
 |Km k i c=>
  obtain ⟨r,b,n,sz,g,o,len,cap,h1,h0,h2,h3,h4,h5,h6⟩:=h
  have hkd:=hr k (by simp [AC.refs])
  obtain ⟨e1,b',e2,e3⟩:=hH k hkd _ h1
  have hg:=hx k r hkd (hp k i c (.inr rfl)) h2 ⟨b,h1,by cases b<;>first|(cases h0;done)|simp [OB.gJ]⟩ (cD h5)
  exact ⟨r,b',n,sz,g,o,len,cap,e2,e3.vS h0,by rw [e1];exact h2,h3,h4,by rw [World.cell?_of_block hg];exact h5,h6⟩
 |clo f Ew=>
  obtain ⟨us,h1,h2,h3⟩:=h
  refine ⟨us,h1,h2,λj p hp=>?_⟩
  obtain ⟨r,tid,vs,h4,h5,h6⟩:=h3 j p hp
  obtain ⟨e1,b',e2,e3⟩:=hH p.1 (hr p.1 (by simp only [AC.refs,Be];exact ⟨p,Cq hp,rfl⟩)) _ h4
  cases b'<;>simp only [OB.map,OB.fC,reduceCtorEq] at e3
  exact ⟨r,_,_,e2,by rw [e1];exact h5,h6⟩
 |Ky k=>
  obtain ⟨r,vt,m,h1,h2,h3⟩:=h
  obtain ⟨e1,b',e2,e3⟩:=hH k (hr k (by simp [AC.refs])) _ h1
  cases b'<;>simp only [OB.map,OB.fC,reduceCtorEq,OB.Wb.injEq] at e3
  exact ⟨r,_,_,e2,by rw [e1];exact h2,h3⟩
 |_=>exact h
theorem Bm.Aig {st:St} {a:Act} (h:Bm X π st a w) {dead part:List Nat} {inv gv:Nat->Prop} (TP: ∀b,gv b-> ∃l r,inv l/\π l=some r/\r.Da b) (hb:Lh w.heap.size gv w w')
  (hold: ∀l b0,l∉dead->Ay st.heap l=some b0->π' l=π l/\((¬inv l/\Ay H' l=some (b0.map (Cx dead part)))\/
   ∃b',Ay H' l=some b'/\(b0.map (Cx dead part)).fC b'/\(Move X w w' π π' st.heap H' (Cx dead part)->Co X w' π' H' (π l) b')))
  (kQ: ∀l b',Ay H' l=some b'->(l∈dead\/Ay st.heap l=none)->l<Bq/\Co X w' π' H' (π' l) b'/\
   ∀r b,π' l=some r->(r.Da b->r.cl b)/\(r.cl b->b<w'.heap.size/\(w.heap.size<=b\/ ∃l0 r0,l0∈dead/\π l0=some r0/\r0.Da b)/\
    ∀l2 r2,(l2∈dead\/Ay st.heap l2=none)->π' l2=some r2->r2.cl b->l2=l))
  (QZ: ∀l,Ay H' l=none->π' l=none)
  (hx: ∀m r,m∉dead->m∉part->π m=some r->(∃b,Ay st.heap m=some b/\b.gJ≠none)->w'.heap[r.g]?=w.heap[r.g]?):
  Bm X π' {tmps:=st.tmps.map (·.map (Cx dead part)),heap:=H'} a w':=by
 have cls: ∀l r,π' l=some r->(l∉dead/\(∃b0,Ay st.heap l=some b0)/\π l=some r)\/((l∈dead\/Ay st.heap l=none)/\ ∃b',Ay H' l=some b'):=by
  intro l r hr
  cases hh:Ay H' l with
  |none=>rw [QZ l hh] at hr;cases hr
  |some b'=>
   by_cases hd:l∈dead
   ·exact .inr ⟨.inl hd,b',rfl⟩
   ·cases h0:Ay st.heap l with
    |none=>exact .inr ⟨.inr rfl,b',rfl⟩
    |some b0=>exact .inl ⟨hd,⟨b0,rfl⟩,by rw [<-(hold l b0 hd h0).1];exact hr⟩
 have own: ∀b,gv b->Wf π b:= λb hbv=>let ⟨l,r,_,h1,h2⟩:=TP b hbv;⟨l,r,h1,h2⟩
 have m:Move X w w' π π' st.heap H' (Cx dead part):=by
  refine Move.Aig hb.size (λk hk hn=>hb.block k hk λhg=>hn (own k hg)) (λb Lg ho=>?_) (λm hm b0 h0=>?_) (λm r h1 h2 h3 h4 _=>hx m r h1 h2 h3 h4)
  ·obtain ⟨l,r,h1,h2⟩:=ho
   rcases cls l r h1 with ⟨_,_,h3⟩|⟨h3,b',h4⟩
   ·exact ⟨l,r,h3,h2⟩
   ·obtain ⟨_,_,h5⟩:=kQ l b' h4 h3
    obtain ⟨h6,h7⟩:=h5 r b h1
    rcases (h7 (h6 h2)).2.1 with h8|⟨l0,r0,_,h8,h9⟩
    ·omega
    ·exact ⟨l0,r0,h8,h9⟩
  ·obtain ⟨e1,e2⟩:=hold m b0 hm h0
   refine ⟨e1,?_⟩
   rcases e2 with ⟨_,e2⟩|⟨b',e2,e3,_⟩
   ·exact ⟨_,e2,OB.fC.rfl' _⟩
   ·exact ⟨b',e2,e3⟩
 refine ⟨⟨⟨hb.os.trans h.1.below.os,hb.tape.trans h.1.below.tape,hb.output.trans h.1.below.output,Iq h.1.below.size hb.size,λk hk hn=>?_⟩,h.1.sc,λl r b hr hf=>?_,λl r b hr hf=>?_,λl l' r r' b hr kR hf hf'=>?_,λl hp Ip=>?_,λl=>?_⟩,?_⟩
 ·refine (hb.block k (Ex hk h.1.below.size) λhg=>?_).trans (h.1.below.block k hk hn)
  rcases (h.1.own (own k hg)).2 with h1|h1
  ·omega
  ·exact hn h1
 ·rcases cls l r hr with ⟨_,_,h3⟩|⟨h3,b',h4⟩
  ·exact h.1.sub l r b h3 hf
  ·exact ((kQ l b' h4 h3).2.2 r b hr).1 hf
 ·rcases cls l r hr with ⟨_,_,h3⟩|⟨h3,b',h4⟩
  ·exact ⟨(h.1.place l r b h3 hf).1,Ex (h.1.place l r b h3 hf).2 hb.size⟩
  ·obtain ⟨k1,k2,_⟩:=((kQ l b' h4 h3).2.2 r b hr).2 hf
   refine ⟨?_,k1⟩
   rcases k2 with k2|⟨l0,r0,_,k2,k3⟩
   ·exact .inl (Iq h.1.below.size k2)
   ·exact (h.1.own ⟨l0,r0,k2,k3⟩).2
 ·
  have mixed: ∀l l' r r',(l∉dead/\(∃b0,Ay st.heap l=some b0)/\π l=some r)->((l'∈dead\/Ay st.heap l'=none)/\ ∃b',Ay H' l'=some b')->π' l'=some r'->r.cl b->r'.cl b->False:=by
   intro l l' r r' ⟨h1,_,h3⟩ ⟨h4,b',h5⟩ kR hf hf'
   rcases (((kQ l' b' h5 h4).2.2 r' b kR).2 hf').2.1 with h6|⟨l0,r0,h6,h7,h8⟩
   ·have:=(h.1.place l r b h3 hf).2;omega
   ·have:=h.1.inj l l0 r r0 b h3 h7 hf (h.1.sub l0 r0 b h7 h8)
    subst this;exact h1 h6
  rcases cls l r hr with h1|h1<;>rcases cls l' r' kR with h2|h2
  ·exact h.1.inj l l' r r' b h1.2.2 h2.2.2 hf hf'
  ·exact (mixed l l' r r' h1 h2 kR hf hf').elim
  ·exact (mixed l' l r' r h2 h1 hr hf' hf).elim
  ·obtain ⟨b',h4⟩:=h2.2
   exact (((kQ l' b' h4 h2.1).2.2 r' b kR).2 hf').2.2 l r h1.1 hr hf
 ·cases hh:Ay H' l with
  |none=>exact absurd hh Ip
  |some b'=>
   by_cases hd:l∈dead
   ·have:=(kQ l b' hh (.inl hd)).1;omega
   ·cases h0:Ay st.heap l with
    |none=>have:=(kQ l b' hh (.inr h0)).1;omega
    |some b0=>rw [(hold l b0 hd h0).1];exact h.1.im l hp (by rw [h0];simp)
 ·cases hh:Ay H' l with
  |none=>exact Gm.Uu (QZ l hh) hh
  |some b'=>
   refine Gm.Mf ?_ hh
   by_cases hd:l∈dead
   ·exact (kQ l b' hh (.inl hd)).2.1
   ·cases h0:Ay st.heap l with
    |none=>exact (kQ l b' hh (.inr h0)).2.1
    |some b0=>
     obtain ⟨e1,e2⟩:=hold l b0 hd h0
     rw [e1]
     rcases e2 with ⟨e2,e3⟩|⟨b2,e2,e3,e4⟩
     ·rw [hh] at e3;cases e3
      refine ((h.1.heap l).Ru h0).move m hb.size (λr' c hr hc=>h.1.sub l r' c hr hc) λr' c hr hc Lg=>hb.block c Lg λhg=>?_
      obtain ⟨l0,r0,k1,k2,k3⟩:=TP c hg
      have:=h.1.inj l l0 r' r0 c hr k2 hc (h.1.sub l0 r0 c k2 k3)
      subst this;exact e2 k1
     ·rw [hh] at e2;cases e2
      exact e4 m
 ·have:sv X w' π' {tmps:=st.tmps.map (·.map (Cx dead part)),heap:=H'} a:=m.NU (by simp [Cx,AC.refs]) h.2
  exact this
end
end Go.Proofs.Ytkkdpknjohcekaa
