/-
  Part 14 of the proof that the statement FnExactSolveIDAStar holds.
-/
import Derived.Test.YtfgfigkbgecfnaaGreatCSolveIDAStar12
namespace Go.Proofs.YtfgfigkbgecfnaaGreat
open Go.RowKit
section
variable {P:Program} {T:Tab} {X:Ctx} {w w':World} {π π':Pi} {H H':List (Nat×OB)}
def OB.gi:OB->OB->Prop
 | .arr _ _ e _ xs, .arr _ _ e' _ xs'=>e=e'/\xs.length=xs'.length
 | .Gz e _ xs, .Gz e' _ xs'=>e=e'/\xs.length=xs'.length
 | .var tid vs, .var Tm vs'=>tid=Tm/\vs.length=vs'.length
 | .Bp e _ rows _ _, .Bp e' _ LO _ _=>e=e'/\rows.length=LO.length
 |b,b'=>b=b'
theorem OB.gi.rfl' (b:OB):b.gi b:=by cases b<;>simp [OB.gi]
theorem OB.gi.row {b b':OB} (h:b.gi b'):b'.row=b.row:=by
 cases b<;>cases b'<;>simp only [OB.gi] at h<;>first|(obtain ⟨rfl,h⟩:=h;simp [OB.row,h])|(rw [h])|cases h
theorem OB.gi.iu {b b':OB} {f:AC->AC} (h:(b.map f).gi b') {p:Nat×Nat} (hp:b.iu=some p):b'.iu=some p:=by
 cases b<;>first|(cases hp;done)|skip
 all_goals
  cases b'<;>simp only [OB.map,OB.gi,reduceCtorEq] at h
 ·obtain ⟨rfl,h⟩:=h;rw [<-hp];simp [OB.iu,h]
 ·rw [<-hp];simp [OB.iu,h]
theorem OB.gi.xO {b b':OB} {f:AC->AC} (h:(b.map f).gi b') {p:Nat×Nat} (hp:b.xO=some p):b'.xO=some p:=by
 cases b<;>first|(cases hp;done)|skip
 cases b'<;>simp only [OB.map,OB.gi,reduceCtorEq] at h
 rw [<-hp];simp [OB.xO,h]
theorem OB.EH (f:AC->AC) (b:OB):(b.map f).row=b.row:=by cases b<;>rfl
theorem ow {dead part:List Nat} {c:AC} (h:Ct dead part c≠ .undef): ∀k∈c.refs,k∉dead:=by
 unfold Ct at h
 split at h
 ·exact absurd rfl h
 ·rename_i hn
  intro k hk hd
  refine hn (Hq.2 ⟨k,hk,by simpa using hd⟩)
theorem dx {dead part:List Nat} {c:AC} (h: ∀k∈c.refs,k∉dead) (hs: ∀l i j,c= .sub l i j\/c= .Kd l i j->l∉part):Ct dead part c=c:=by
 unfold Ct
 rw [Ag (by
  intro hh
  obtain ⟨k,hk,hd⟩:=Hq.1 hh
  exact h k hk (by simpa using hd))]
 split
 ·rename_i l i j
  rw [Ag (by simpa using hs l i j (.inl rfl))]
 ·rename_i l i j
  rw [Ag (by simpa using hs l i j (.inr rfl))]
 ·rfl
theorem Move.Al9 {dead part:List Nat} (hs:w.heap.size<=w'.heap.size) (hk: ∀k,k<w.heap.size-> ¬Ux π k->w'.heap[k]?=w.heap[k]?) (hO: ∀b,b<w.heap.size->Ux π' b->Ux π b)
  (hH: ∀m,m∉dead-> ∀b0,Au H m=some b0->π' m=π m/\ ∃b,Au H' m=some b/\(b0.map (Ct dead part)).gi b)
  (hx: ∀m r,m∉dead->m∉part->π m=some r->(∃b,Au H m=some b/\b.iu≠none)->r.g<w.heap.size->w'.heap[r.g]?=w.heap[r.g]?):Move X w w' π π' H H' (Ct dead part):=by
 have hc: ∀fr τ cs x,Cells w (Dd X.w0.heap.size X.Sc π fr) τ cs x->Cells w' (Dd X.w0.heap.size X.Sc π' fr) τ cs x:=by
  intro fr τ cs x h
  exact Cells.Fg hs (λk oE hn=>hk k oE λh0=>hn (.inl h0)) (λk Iz hA=>hA.imp (hO k Iz) id) τ cs x h
 refine ⟨λc v h=>?_,hc⟩
 by_cases hu:Ct dead part c= .undef
 ·rw [hu];trivial
 have hr:=ow hu
 have hp: ∀l i j,c= .sub l i j\/c= .Kd l i j->l∉part:=by
  intro l i j e hm
  refine hu ?_
  unfold Ct
  rcases e with rfl|rfl
  all_goals
   split
   ·rfl
   ·simp [hm]
 rw [dx hr hp]
 cases c with
 |data fr τ x=>obtain ⟨cs,h1,h2⟩:=h;exact ⟨cs,hc _ _ _ _ h1,h2⟩
 |own k off len=>
  obtain ⟨b,sz,n,h1,h0,h2,h3⟩:=h
  obtain ⟨e1,b',e2,e3⟩:=hH k (hr k (by simp [AC.refs])) b h1
  exact ⟨b',sz,n,e2,by rw [e3.row,OB.EH];exact h0,h2,by rw [e1];exact h3⟩
 |Gy k i=>
  obtain ⟨r,tid,vs,h1,h2,h3⟩:=h
  obtain ⟨e1,b',e2,e3⟩:=hH k (hr k (by simp [AC.refs])) _ h1
  cases b'<;>simp only [OB.map,OB.gi,reduceCtorEq] at e3
  exact ⟨r,_,_,e2,by rw [e1];exact h2,h3⟩
 |Kh k i=>
  obtain ⟨r,b,sz,n,h1,h0,h2,h3,h4⟩:=h
  obtain ⟨e1,b',e2,e3⟩:=hH k (hr k (by simp [AC.refs])) b h1
  exact ⟨r,b',sz,n,e2,by rw [e3.row,OB.EH];exact h0,h2,by rw [e1];exact h3,h4⟩
 |sub k i c=>
  obtain ⟨r,b,sz,n,h1,h0,h2,h3,h4,h5⟩:=h
  have hkd:=hr k (by simp [AC.refs])
  obtain ⟨e1,b',e2,e3⟩:=hH k hkd _ h1
  have hg:=hx k r hkd (hp k i c (.inl rfl)) h2 ⟨b,h1,by rw [h0];simp⟩ (dm h5)
  exact ⟨r,b',sz,n,e2,e3.iu h0,by rw [e1];exact h2,h3,h4,by rw [World.cell?_of_block hg];exact h5⟩
 |Kd k i c=>
  obtain ⟨r,b,n,sz,g,o,len,cap,h1,h0,h2,h3,h4,h5,h6⟩:=h
  have hkd:=hr k (by simp [AC.refs])
  obtain ⟨e1,b',e2,e3⟩:=hH k hkd _ h1
  have hg:=hx k r hkd (hp k i c (.inr rfl)) h2 ⟨b,h1,by cases b<;>first|(cases h0;done)|simp [OB.iu]⟩ (dm h5)
  exact ⟨r,b',n,sz,g,o,len,cap,e2,e3.xO h0,by rw [e1];exact h2,h3,h4,by rw [World.cell?_of_block hg];exact h5,h6⟩
 |clo f Eg=>
  obtain ⟨us,h1,h2,h3⟩:=h
  refine ⟨us,h1,h2,λj p hp=>?_⟩
  obtain ⟨r,tid,vs,h4,h5,h6⟩:=h3 j p hp
  obtain ⟨e1,b',e2,e3⟩:=hH p.1 (hr p.1 (by simp only [AC.refs,Bi];exact ⟨p,Bv hp,rfl⟩)) _ h4
  cases b'<;>simp only [OB.map,OB.gi,reduceCtorEq] at e3
  exact ⟨r,_,_,e2,by rw [e1];exact h5,h6⟩
 |Kr k=>
  obtain ⟨r,vt,m,h1,h2,h3⟩:=h
  obtain ⟨e1,b',e2,e3⟩:=hH k (hr k (by simp [AC.refs])) _ h1
  cases b'<;>simp only [OB.map,OB.gi,reduceCtorEq,OB.Wo.injEq] at e3
  exact ⟨r,_,_,e2,by rw [e1];exact h2,h3⟩
 |_=>exact h
theorem Bk.Al9 {st:St} {a:Act} (h:Bk X π st a w) {dead part:List Nat} {inv gv:Nat->Prop} (XP: ∀b,gv b-> ∃l r,inv l/\π l=some r/\r.Cx b) (hb:He w.heap.size gv w w')
  (hold: ∀l b0,l∉dead->Au st.heap l=some b0->π' l=π l/\((¬inv l/\Au H' l=some (b0.map (Ct dead part)))\/
   ∃b',Au H' l=some b'/\(b0.map (Ct dead part)).gi b'/\(Move X w w' π π' st.heap H' (Ct dead part)->Cm X w' π' H' (π l) b')))
  (lH: ∀l b',Au H' l=some b'->(l∈dead\/Au st.heap l=none)->l<Bn/\Cm X w' π' H' (π' l) b'/\
   ∀r b,π' l=some r->(r.Cx b->r.cl b)/\(r.cl b->b<w'.heap.size/\(w.heap.size<=b\/ ∃l0 r0,l0∈dead/\π l0=some r0/\r0.Cx b)/\
    ∀l2 r2,(l2∈dead\/Au st.heap l2=none)->π' l2=some r2->r2.cl b->l2=l))
  (VH: ∀l,Au H' l=none->π' l=none)
  (hx: ∀m r,m∉dead->m∉part->π m=some r->(∃b,Au st.heap m=some b/\b.iu≠none)->w'.heap[r.g]?=w.heap[r.g]?):
  Bk X π' {tmps:=st.tmps.map (·.map (Ct dead part)),heap:=H'} a w':=by
 have cls: ∀l r,π' l=some r->(l∉dead/\(∃b0,Au st.heap l=some b0)/\π l=some r)\/((l∈dead\/Au st.heap l=none)/\ ∃b',Au H' l=some b'):=by
  intro l r hr
  cases hh:Au H' l with
  |none=>rw [VH l hh] at hr;cases hr
  |some b'=>
   by_cases hd:l∈dead
   ·exact .inr ⟨.inl hd,b',rfl⟩
   ·cases h0:Au st.heap l with
    |none=>exact .inr ⟨.inr rfl,b',rfl⟩
    |some b0=>exact .inl ⟨hd,⟨b0,rfl⟩,by rw [<-(hold l b0 hd h0).1];exact hr⟩
 have own: ∀b,gv b->Ux π b:= λb hbv=>let ⟨l,r,_,h1,h2⟩:=XP b hbv;⟨l,r,h1,h2⟩
 have m:Move X w w' π π' st.heap H' (Ct dead part):=by
  refine Move.Al9 hb.size (λk hk hn=>hb.block k hk λhg=>hn (own k hg)) (λb Iz ho=>?_) (λm hm b0 h0=>?_) (λm r h1 h2 h3 h4 _=>hx m r h1 h2 h3 h4)
  ·obtain ⟨l,r,h1,h2⟩:=ho
   rcases cls l r h1 with ⟨_,_,h3⟩|⟨h3,b',h4⟩
   ·exact ⟨l,r,h3,h2⟩
   ·obtain ⟨_,_,h5⟩:=lH l b' h4 h3
    obtain ⟨h6,h7⟩:=h5 r b h1
    rcases (h7 (h6 h2)).2.1 with h8|⟨l0,r0,_,h8,h9⟩
    ·omega
    ·exact ⟨l0,r0,h8,h9⟩
  ·obtain ⟨e1,e2⟩:=hold m b0 hm h0
   refine ⟨e1,?_⟩
   rcases e2 with ⟨_,e2⟩|⟨b',e2,e3,_⟩
   ·exact ⟨_,e2,OB.gi.rfl' _⟩
   ·exact ⟨b',e2,e3⟩
 refine ⟨⟨⟨hb.os.trans h.1.below.os,hb.tape.trans h.1.below.tape,hb.output.trans h.1.below.output,Jd h.1.below.size hb.size,λk hk hn=>?_⟩,h.1.sc,λl r b hr hf=>?_,λl r b hr hf=>?_,λl l' r r' b hr eE hf OC=>?_,λl hp Ih=>?_,λl=>?_⟩,?_⟩
 ·refine (hb.block k (Dk hk h.1.below.size) λhg=>?_).trans (h.1.below.block k hk hn)
  rcases (h.1.own (own k hg)).2 with h1|h1
  ·omega
  ·exact hn h1
 ·rcases cls l r hr with ⟨_,_,h3⟩|⟨h3,b',h4⟩
  ·exact h.1.sub l r b h3 hf
  ·exact ((lH l b' h4 h3).2.2 r b hr).1 hf
 ·rcases cls l r hr with ⟨_,_,h3⟩|⟨h3,b',h4⟩
  ·exact ⟨(h.1.place l r b h3 hf).1,Dk (h.1.place l r b h3 hf).2 hb.size⟩
  ·obtain ⟨k1,k2,_⟩:=((lH l b' h4 h3).2.2 r b hr).2 hf
   refine ⟨?_,k1⟩
   rcases k2 with k2|⟨l0,r0,_,k2,k3⟩
   ·exact .inl (Jd h.1.below.size k2)
   ·exact (h.1.own ⟨l0,r0,k2,k3⟩).2
 ·
  have mixed: ∀l l' r r',(l∉dead/\(∃b0,Au st.heap l=some b0)/\π l=some r)->((l'∈dead\/Au st.heap l'=none)/\ ∃b',Au H' l'=some b')->π' l'=some r'->r.cl b->r'.cl b->False:=by
   intro l l' r r' ⟨h1,_,h3⟩ ⟨h4,b',h5⟩ eE hf OC
   rcases (((lH l' b' h5 h4).2.2 r' b eE).2 OC).2.1 with h6|⟨l0,r0,h6,h7,h8⟩
   ·have:=(h.1.place l r b h3 hf).2;omega
   ·have:=h.1.inj l l0 r r0 b h3 h7 hf (h.1.sub l0 r0 b h7 h8)
    subst this;exact h1 h6
  rcases cls l r hr with h1|h1<;>rcases cls l' r' eE with h2|h2
  ·exact h.1.inj l l' r r' b h1.2.2 h2.2.2 hf OC
  ·exact (mixed l l' r r' h1 h2 eE hf OC).elim
  ·exact (mixed l' l r' r h2 h1 hr OC hf).elim
  ·obtain ⟨b',h4⟩:=h2.2
   exact (((lH l' b' h4 h2.1).2.2 r' b eE).2 OC).2.2 l r h1.1 hr hf
 ·cases hh:Au H' l with
  |none=>exact absurd hh Ih
  |some b'=>
   by_cases hd:l∈dead
   ·have:=(lH l b' hh (.inl hd)).1;omega
   ·cases h0:Au st.heap l with
    |none=>have:=(lH l b' hh (.inr h0)).1;omega
    |some b0=>rw [(hold l b0 hd h0).1];exact h.1.iY l hp (by rw [h0];simp)
 ·cases hh:Au H' l with
  |none=>exact Gk.Vc (VH l hh) hh
  |some b'=>
   refine Gk.Lu ?_ hh
   by_cases hd:l∈dead
   ·exact (lH l b' hh (.inl hd)).2.1
   ·cases h0:Au st.heap l with
    |none=>exact (lH l b' hh (.inr h0)).2.1
    |some b0=>
     obtain ⟨e1,e2⟩:=hold l b0 hd h0
     rw [e1]
     rcases e2 with ⟨e2,e3⟩|⟨b2,e2,e3,e4⟩
     ·rw [hh] at e3;cases e3
      refine ((h.1.heap l).Qs h0).move m hb.size (λr' c hr hc=>h.1.sub l r' c hr hc) λr' c hr hc Iz=>hb.block c Iz λhg=>?_
      obtain ⟨l0,r0,k1,k2,k3⟩:=XP c hg
      have:=h.1.inj l l0 r' r0 c hr k2 hc (h.1.sub l0 r0 c k2 k3)
      subst this;exact e2 k1
     ·rw [hh] at e2;cases e2
      exact e4 m
 ·have:um X w' π' {tmps:=st.tmps.map (·.map (Ct dead part)),heap:=H'} a:=m.SG (by simp [Ct,AC.refs]) h.2
  exact this
end
end Go.Proofs.YtfgfigkbgecfnaaGreat
