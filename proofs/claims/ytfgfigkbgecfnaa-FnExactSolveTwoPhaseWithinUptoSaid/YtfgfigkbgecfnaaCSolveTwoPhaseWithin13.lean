/-
  Part 14 of the proof that the statement FnExactSolveTwoPhaseWithin holds.
-/
import Derived.Test.YtfgfigkbgecfnaaCSolveTwoPhaseWithin12
namespace Go.Proofs.Ytfgfigkbgecfnaa
open Go.RowKit
section
variable {P:Program} {T:Tab} {X:Ctx} {w w':World} {π π':Pi} {H H':List (Nat×OB)}
def OB.fZ:OB->OB->Prop
 | .arr _ _ e _ xs, .arr _ _ e' _ xs'=>e=e'/\xs.length=xs'.length
 | .Hl e _ xs, .Hl e' _ xs'=>e=e'/\xs.length=xs'.length
 | .var tid vs, .var Vt vs'=>tid=Vt/\vs.length=vs'.length
 | .Ca e _ rows _ _, .Ca e' _ IY _ _=>e=e'/\rows.length=IY.length
 |b,b'=>b=b'
theorem OB.fZ.rfl' (b:OB):b.fZ b:=by cases b<;>simp [OB.fZ]
theorem OB.fZ.row {b b':OB} (h:b.fZ b'):b'.row=b.row:=by
 cases b<;>cases b'<;>simp only [OB.fZ] at h<;>first|(obtain ⟨rfl,h⟩:=h;simp [OB.row,h])|(rw [h])|cases h
theorem OB.fZ.ic {b b':OB} {f:AC->AC} (h:(b.map f).fZ b') {p:Nat×Nat} (hp:b.ic=some p):b'.ic=some p:=by
 cases b<;>first|(cases hp;done)|skip
 all_goals
  cases b'<;>simp only [OB.map,OB.fZ,reduceCtorEq] at h
 ·obtain ⟨rfl,h⟩:=h;rw [<-hp];simp [OB.ic,h]
 ·rw [<-hp];simp [OB.ic,h]
theorem OB.fZ.wE {b b':OB} {f:AC->AC} (h:(b.map f).fZ b') {p:Nat×Nat} (hp:b.wE=some p):b'.wE=some p:=by
 cases b<;>first|(cases hp;done)|skip
 cases b'<;>simp only [OB.map,OB.fZ,reduceCtorEq] at h
 rw [<-hp];simp [OB.wE,h]
theorem OB.BR (f:AC->AC) (b:OB):(b.map f).row=b.row:=by cases b<;>rfl
theorem o3 {dead part:List Nat} {c:AC} (h:Cz dead part c≠ .undef): ∀k∈c.refs,k∉dead:=by
 unfold Cz at h;split at h
 ·exact absurd rfl h
 ·rename_i hn;intro k hk hd;refine hn (Eu.2 ⟨k,hk,by simpa using hd⟩)
theorem di {dead part:List Nat} {c:AC} (h: ∀k∈c.refs,k∉dead) (hs: ∀l i j,c= .sub l i j\/c= .Kl l i j->l∉part):Cz dead part c=c:=by
 unfold Cz
 rw [Ai (by
  intro hh;obtain ⟨k,hk,hd⟩:=Eu.1 hh
  exact h k hk (by simpa using hd))]
 split
 ·rename_i l i j;rw [Ai (by simpa using hs l i j (.inl rfl))]
 ·rename_i l i j;rw [Ai (by simpa using hs l i j (.inr rfl))]
 ·rfl
theorem Move.Ajs {dead part:List Nat} (hs:w.heap.size<=w'.heap.size) (hk: ∀k,k<w.heap.size-> ¬Wn π k->w'.heap[k]?=w.heap[k]?) (hO: ∀b,b<w.heap.size->Wn π' b->Wn π b)
  (hH: ∀m,m∉dead-> ∀b0,Ay H m=some b0->π' m=π m/\ ∃b,Ay H' m=some b/\(b0.map (Cz dead part)).fZ b)
  (hx: ∀m r,m∉dead->m∉part->π m=some r->(∃b,Ay H m=some b/\b.ic≠none)->r.g<w.heap.size->w'.heap[r.g]?=w.heap[r.g]?):Move X w w' π π' H H' (Cz dead part):=by
 have hc: ∀fr τ cs x,Cells w (Dk X.w0.heap.size X.Sc π fr) τ cs x->Cells w' (Dk X.w0.heap.size X.Sc π' fr) τ cs x:=by
  intro fr τ cs x h;exact Cells.Gd hs (λk lJ hn=>hk k lJ λh0=>hn (.inl h0)) (λk Kr hA=>hA.imp (hO k Kr) id) τ cs x h
 refine ⟨λc v h=>?_,hc⟩
 by_cases hu:Cz dead part c= .undef
 ·rw [hu];trivial
 have hr:=o3 hu
 have hp: ∀l i j,c= .sub l i j\/c= .Kl l i j->l∉part:=by
  intro l i j e hm;refine hu ?_;unfold Cz;rcases e with rfl|rfl
  all_goals
   split
   ·rfl
   ·simp [hm]
 rw [di hr hp]
 cases c with
 |data fr τ x=>obtain ⟨cs,h1,h2⟩:=h;exact ⟨cs,hc _ _ _ _ h1,h2⟩
 |own k off len=>
  obtain ⟨b,sz,n,h1,h0,h2,h3⟩:=h;obtain ⟨e1,b',e2,e3⟩:=hH k (hr k (by simp [AC.refs])) b h1;exact ⟨b',sz,n,e2,by rw [e3.row,OB.BR];exact h0,h2,by rw [e1];exact h3⟩
 |Hs k i=>
  obtain ⟨r,tid,vs,h1,h2,h3⟩:=h;obtain ⟨e1,b',e2,e3⟩:=hH k (hr k (by simp [AC.refs])) _ h1
  cases b'<;>simp only [OB.map,OB.fZ,reduceCtorEq] at e3
  exact ⟨r,_,_,e2,by rw [e1];exact h2,h3⟩
 |Kq k i=>
  obtain ⟨r,b,sz,n,h1,h0,h2,h3,h4⟩:=h;obtain ⟨e1,b',e2,e3⟩:=hH k (hr k (by simp [AC.refs])) b h1;exact ⟨r,b',sz,n,e2,by rw [e3.row,OB.BR];exact h0,h2,by rw [e1];exact h3,h4⟩
 |sub k i c=>
  obtain ⟨r,b,sz,n,h1,h0,h2,h3,h4,h5⟩:=h;have hkd:=hr k (by simp [AC.refs]);obtain ⟨e1,b',e2,e3⟩:=hH k hkd _ h1;have hg:=hx k r hkd (hp k i c (.inl rfl)) h2 ⟨b,h1,by rw [h0];simp⟩ (db h5);exact ⟨r,b',sz,n,e2,e3.ic h0,by rw [e1];exact h2,h3,h4,by rw [World.cell?_of_block hg];exact h5⟩
 |Kl k i c=>
  obtain ⟨r,b,n,sz,g,o,len,cap,h1,h0,h2,h3,h4,h5,h6⟩:=h;have hkd:=hr k (by simp [AC.refs]);obtain ⟨e1,b',e2,e3⟩:=hH k hkd _ h1
  have hg:=hx k r hkd (hp k i c (.inr rfl)) h2 ⟨b,h1,by cases b<;>first|(cases h0;done)|simp [OB.ic]⟩ (db h5)
  exact ⟨r,b',n,sz,g,o,len,cap,e2,e3.wE h0,by rw [e1];exact h2,h3,h4,by rw [World.cell?_of_block hg];exact h5,h6⟩
 |clo f En=>
  obtain ⟨us,h1,h2,h3⟩:=h;refine ⟨us,h1,h2,λj p hp=>?_⟩;obtain ⟨r,tid,vs,h4,h5,h6⟩:=h3 j p hp;obtain ⟨e1,b',e2,e3⟩:=hH p.1 (hr p.1 (by simp only [AC.refs,Bh];exact ⟨p,Cs hp,rfl⟩)) _ h4
  cases b'<;>simp only [OB.map,OB.fZ,reduceCtorEq] at e3
  exact ⟨r,_,_,e2,by rw [e1];exact h5,h6⟩
 |Le k=>
  obtain ⟨r,vt,m,h1,h2,h3⟩:=h;obtain ⟨e1,b',e2,e3⟩:=hH k (hr k (by simp [AC.refs])) _ h1
  cases b'<;>simp only [OB.map,OB.fZ,reduceCtorEq,OB.Wl.injEq] at e3
  exact ⟨r,_,_,e2,by rw [e1];exact h2,h3⟩
 |_=>exact h
theorem Bs.Ajs {st:St} {a:Act} (h:Bs X π st a w) {dead part:List Nat} {inv gv:Nat->Prop} (UT: ∀b,gv b-> ∃l r,inv l/\π l=some r/\r.Df b) (hb:Lk w.heap.size gv w w')
  (hold: ∀l b0,l∉dead->Ay st.heap l=some b0->π' l=π l/\((¬inv l/\Ay H' l=some (b0.map (Cz dead part)))\/
   ∃b',Ay H' l=some b'/\(b0.map (Cz dead part)).fZ b'/\(Move X w w' π π' st.heap H' (Cz dead part)->Cq X w' π' H' (π l) b')))
  (l9: ∀l b',Ay H' l=some b'->(l∈dead\/Ay st.heap l=none)->l<Bv/\Cq X w' π' H' (π' l) b'/\
   ∀r b,π' l=some r->(r.Df b->r.cl b)/\(r.cl b->b<w'.heap.size/\(w.heap.size<=b\/ ∃l0 r0,l0∈dead/\π l0=some r0/\r0.Df b)/\
    ∀l2 r2,(l2∈dead\/Ay st.heap l2=none)->π' l2=some r2->r2.cl b->l2=l))
  (SE: ∀l,Ay H' l=none->π' l=none)
  (hx: ∀m r,m∉dead->m∉part->π m=some r->(∃b,Ay st.heap m=some b/\b.ic≠none)->w'.heap[r.g]?=w.heap[r.g]?):
  Bs X π' {tmps:=st.tmps.map (·.map (Cz dead part)),heap:=H'} a w':=by
 have cls: ∀l r,π' l=some r->(l∉dead/\(∃b0,Ay st.heap l=some b0)/\π l=some r)\/((l∈dead\/Ay st.heap l=none)/\ ∃b',Ay H' l=some b'):=by
  intro l r hr
  cases hh:Ay H' l with
  |none=>rw [SE l hh] at hr;cases hr
  |some b'=>
   by_cases hd:l∈dead
   ·exact .inr ⟨.inl hd,b',rfl⟩
   ·cases h0:Ay st.heap l with
    |none=>exact .inr ⟨.inr rfl,b',rfl⟩
    |some b0=>exact .inl ⟨hd,⟨b0,rfl⟩,by rw [<-(hold l b0 hd h0).1];exact hr⟩
 have own: ∀b,gv b->Wn π b:= λb hbv=>let ⟨l,r,_,h1,h2⟩:=UT b hbv;⟨l,r,h1,h2⟩
 have m:Move X w w' π π' st.heap H' (Cz dead part):=by
  refine Move.Ajs hb.size (λk hk hn=>hb.block k hk λhg=>hn (own k hg)) (λb Kr ho=>?_) (λm hm b0 h0=>?_) (λm r h1 h2 h3 h4 _=>hx m r h1 h2 h3 h4)
  ·obtain ⟨l,r,h1,h2⟩:=ho;rcases cls l r h1 with ⟨_,_,h3⟩|⟨h3,b',h4⟩
   ·exact ⟨l,r,h3,h2⟩
   ·obtain ⟨_,_,h5⟩:=l9 l b' h4 h3;obtain ⟨h6,h7⟩:=h5 r b h1;rcases (h7 (h6 h2)).2.1 with h8|⟨l0,r0,_,h8,h9⟩
    ·omega
    ·exact ⟨l0,r0,h8,h9⟩
  ·obtain ⟨e1,e2⟩:=hold m b0 hm h0;refine ⟨e1,?_⟩;rcases e2 with ⟨_,e2⟩|⟨b',e2,e3,_⟩
   ·exact ⟨_,e2,OB.fZ.rfl' _⟩
   ·exact ⟨b',e2,e3⟩
 refine ⟨⟨⟨hb.os.trans h.1.below.os,hb.tape.trans h.1.below.tape,hb.output.trans h.1.below.output,Gz h.1.below.size hb.size,λk hk hn=>?_⟩,h.1.sc,λl r b hr hf=>?_,λl r b hr hf=>?_,λl l' r r' b hr lb hf hf'=>?_,λl hp Ii=>?_,λl=>?_⟩,?_⟩
 ·refine (hb.block k (Ep hk h.1.below.size) λhg=>?_).trans (h.1.below.block k hk hn);rcases (h.1.own (own k hg)).2 with h1|h1
  ·omega
  ·exact hn h1
 ·rcases cls l r hr with ⟨_,_,h3⟩|⟨h3,b',h4⟩
  ·exact h.1.sub l r b h3 hf
  ·exact ((l9 l b' h4 h3).2.2 r b hr).1 hf
 ·rcases cls l r hr with ⟨_,_,h3⟩|⟨h3,b',h4⟩
  ·exact ⟨(h.1.place l r b h3 hf).1,Ep (h.1.place l r b h3 hf).2 hb.size⟩
  ·obtain ⟨k1,k2,_⟩:=((l9 l b' h4 h3).2.2 r b hr).2 hf;refine ⟨?_,k1⟩;rcases k2 with k2|⟨l0,r0,_,k2,k3⟩
   ·exact .inl (Gz h.1.below.size k2)
   ·exact (h.1.own ⟨l0,r0,k2,k3⟩).2
 ·
  have mixed: ∀l l' r r',(l∉dead/\(∃b0,Ay st.heap l=some b0)/\π l=some r)->((l'∈dead\/Ay st.heap l'=none)/\ ∃b',Ay H' l'=some b')->π' l'=some r'->r.cl b->r'.cl b->False:=by
   intro l l' r r' ⟨h1,_,h3⟩ ⟨h4,b',h5⟩ lb hf hf';rcases (((l9 l' b' h5 h4).2.2 r' b lb).2 hf').2.1 with h6|⟨l0,r0,h6,h7,h8⟩
   ·have:=(h.1.place l r b h3 hf).2;omega
   ·have:=h.1.inj l l0 r r0 b h3 h7 hf (h.1.sub l0 r0 b h7 h8);subst this;exact h1 h6
  rcases cls l r hr with h1|h1<;>rcases cls l' r' lb with h2|h2
  ·exact h.1.inj l l' r r' b h1.2.2 h2.2.2 hf hf'
  ·exact (mixed l l' r r' h1 h2 lb hf hf').elim
  ·exact (mixed l' l r' r h2 h1 hr hf' hf).elim
  ·obtain ⟨b',h4⟩:=h2.2;exact (((l9 l' b' h4 h2.1).2.2 r' b lb).2 hf').2.2 l r h1.1 hr hf
 ·cases hh:Ay H' l with
  |none=>exact absurd hh Ii
  |some b'=>
   by_cases hd:l∈dead
   ·have:=(l9 l b' hh (.inl hd)).1;omega
   ·cases h0:Ay st.heap l with
    |none=>have:=(l9 l b' hh (.inr h0)).1;omega
    |some b0=>rw [(hold l b0 hd h0).1];exact h.1.iM l hp (by rw [h0];simp)
 ·cases hh:Ay H' l with
  |none=>exact Gu.Vd (SE l hh) hh
  |some b'=>
   refine Gu.Mg ?_ hh
   by_cases hd:l∈dead
   ·exact (l9 l b' hh (.inl hd)).2.1
   ·cases h0:Ay st.heap l with
    |none=>exact (l9 l b' hh (.inr h0)).2.1
    |some b0=>
     obtain ⟨e1,e2⟩:=hold l b0 hd h0;rw [e1];rcases e2 with ⟨e2,e3⟩|⟨b2,e2,e3,e4⟩
     ·rw [hh] at e3;cases e3;refine ((h.1.heap l).Se h0).move m hb.size (λr' c hr hc=>h.1.sub l r' c hr hc) λr' c hr hc Kr=>hb.block c Kr λhg=>?_;obtain ⟨l0,r0,k1,k2,k3⟩:=UT c hg;have:=h.1.inj l l0 r' r0 c hr k2 hc (h.1.sub l0 r0 c k2 k3);subst this;exact e2 k1
     ·rw [hh] at e2;cases e2;exact e4 m
 ·have:sV X w' π' {tmps:=st.tmps.map (·.map (Cz dead part)),heap:=H'} a:=m.PD (by simp [Cz,AC.refs]) h.2;exact this
end
end Go.Proofs.Ytfgfigkbgecfnaa
