/-
  Part 14 of the proof that the statement FnCommutatorMacros holds.
-/
import Derived.Test.YtfgfigkbgecfnaaCFCommutatorMacros12
namespace Go.Proofs.Ytfgfigkbgecfnaa
open Go.RowKit
section
variable {P:Program} {T:Tab} {X:Ctx} {w w':World} {π π':Pi} {H H':List (Nat×OB)}
def OB.bj:OB->OB->Prop
 | .arr _ _ e _ xs, .arr _ _ e' _ SC=>e=e'/\xs.length=SC.length
 | .Ev e _ xs, .Ev e' _ SC=>e=e'/\xs.length=SC.length
 | .var tid vs, .var Qj vs'=>tid=Qj/\vs.length=vs'.length
 | .Bc e _ rows _ _, .Bc e' _ uf _ _=>e=e'/\rows.length=uf.length
 |b,b'=>b=b'
theorem OB.bj.rfl' (b:OB):b.bj b:=by cases b<;>simp [OB.bj]
theorem OB.bj.row {b b':OB} (h:b.bj b'):b'.row=b.row:=by
 cases b<;>cases b'<;>simp only [OB.bj] at h<;>first|(obtain ⟨rfl,h⟩:=h;simp [OB.row,h])|(rw [h])|cases h
theorem OB.bj.c6 {b b':OB} {f:AC->AC} (h:(b.map f).bj b') {p:Nat×Nat} (hp:b.c6=some p):b'.c6=some p:=by
 cases b<;>first|(cases hp;done)|skip
 all_goals
  cases b'<;>simp only [OB.map,OB.bj,reduceCtorEq] at h
 ·obtain ⟨rfl,h⟩:=h;rw [<-hp];simp [OB.c6,h]
 ·rw [<-hp];simp [OB.c6,h]
theorem OB.bj.nP {b b':OB} {f:AC->AC} (h:(b.map f).bj b') {p:Nat×Nat} (hp:b.nP=some p):b'.nP=some p:=by
 cases b<;>first|(cases hp;done)|skip
 cases b'<;>simp only [OB.map,OB.bj,reduceCtorEq] at h
 rw [<-hp];simp [OB.nP,h]
theorem OB.rF (f:AC->AC) (b:OB):(b.map f).row=b.row:=by cases b<;>rfl
theorem hI {dead part:List Nat} {c:AC} (h:Bt dead part c≠ .undef): ∀k∈c.refs,k∉dead:=by
 unfold Bt at h
 split at h
 ·exact absurd rfl h
 ·rename_i hn
  intro k hk hd
  refine hn (Dv.2 ⟨k,hk,by simpa using hd⟩)
theorem Yg {dead part:List Nat} {c:AC} (h: ∀k∈c.refs,k∉dead) (hs: ∀l i j,c= .sub l i j\/c= .Hf l i j->l∉part):Bt dead part c=c:=by
 unfold Bt
 rw [Aj (by
  intro hh
  obtain ⟨k,hk,hd⟩:=Dv.1 hh
  exact h k hk (by simpa using hd))]
 split
 ·rename_i l i j
  rw [Aj (by simpa using hs l i j (.inl rfl))]
 ·rename_i l i j
  rw [Aj (by simpa using hs l i j (.inr rfl))]
 ·rfl
theorem Move.KE {dead part:List Nat} (hs:w.heap.size<=w'.heap.size) (hk: ∀k,k<w.heap.size-> ¬Qk π k->w'.heap[k]?=w.heap[k]?) (hO: ∀b,b<w.heap.size->Qk π' b->Qk π b)
  (hH: ∀m,m∉dead-> ∀b0,Ap H m=some b0->π' m=π m/\ ∃b,Ap H' m=some b/\(b0.map (Bt dead part)).bj b)
  (hx: ∀m r,m∉dead->m∉part->π m=some r->(∃b,Ap H m=some b/\b.c6≠none)->r.g<w.heap.size->w'.heap[r.g]?=w.heap[r.g]?):Move X w w' π π' H H' (Bt dead part):=by
 have hc: ∀fr τ cs x,Cells w (Cb X.w0.heap.size X.Sc π fr) τ cs x->Cells w' (Cb X.w0.heap.size X.Sc π' fr) τ cs x:=by
  intro fr τ cs x h
  exact Cells.Ep hs (λk mc hn=>hk k mc λh0=>hn (.inl h0)) (λk Im hA=>hA.imp (hO k Im) id) τ cs x h
 refine ⟨λc v h=>?_,hc⟩
 by_cases hu:Bt dead part c= .undef
 ·rw [hu];trivial
 have hr:=hI hu
 have hp: ∀l i j,c= .sub l i j\/c= .Hf l i j->l∉part:=by
  intro l i j e hm
  refine hu ?_
  unfold Bt
  rcases e with rfl|rfl
  all_goals
   split
   ·rfl
   ·simp [hm]
 rw [Yg hr hp]
 cases c with
 |data fr τ x=>obtain ⟨cs,h1,h2⟩:=h;exact ⟨cs,hc _ _ _ _ h1,h2⟩
 |own k off len=>
  obtain ⟨b,sz,n,h1,h0,h2,h3⟩:=h
  obtain ⟨e1,b',e2,e3⟩:=hH k (hr k (by simp [AC.refs])) b h1
  exact ⟨b',sz,n,e2,by rw [e3.row,OB.rF];exact h0,h2,by rw [e1];exact h3⟩
 |Ez k i=>
  obtain ⟨r,tid,vs,h1,h2,h3⟩:=h
  obtain ⟨e1,b',e2,e3⟩:=hH k (hr k (by simp [AC.refs])) _ h1
  cases b'<;>simp only [OB.map,OB.bj,reduceCtorEq] at e3
  exact ⟨r,_,_,e2,by rw [e1];exact h2,h3⟩
 |Hj k i=>
  obtain ⟨r,b,sz,n,h1,h0,h2,h3,h4⟩:=h
  obtain ⟨e1,b',e2,e3⟩:=hH k (hr k (by simp [AC.refs])) b h1
  exact ⟨r,b',sz,n,e2,by rw [e3.row,OB.rF];exact h0,h2,by rw [e1];exact h3,h4⟩
 |sub k i c=>
  obtain ⟨r,b,sz,n,h1,h0,h2,h3,h4,h5⟩:=h
  have IP:=hr k (by simp [AC.refs])
  obtain ⟨e1,b',e2,e3⟩:=hH k IP _ h1
  have hg:=hx k r IP (hp k i c (.inl rfl)) h2 ⟨b,h1,by rw [h0];simp⟩ (Xy h5)
  exact ⟨r,b',sz,n,e2,e3.c6 h0,by rw [e1];exact h2,h3,h4,by rw [World.cell?_of_block hg];exact h5⟩
 |Hf k i c=>
  obtain ⟨r,b,n,sz,g,o,len,cap,h1,h0,h2,h3,h4,h5,h6⟩:=h
  have IP:=hr k (by simp [AC.refs])
  obtain ⟨e1,b',e2,e3⟩:=hH k IP _ h1
  have hg:=hx k r IP (hp k i c (.inr rfl)) h2 ⟨b,h1,by cases b<;>first|(cases h0;done)|simp [OB.c6]⟩ (Xy h5)
  exact ⟨r,b',n,sz,g,o,len,cap,e2,e3.nP h0,by rw [e1];exact h2,h3,h4,by rw [World.cell?_of_block hg];exact h5,h6⟩
 |clo f Cx=>
  obtain ⟨us,h1,h2,h3⟩:=h
  refine ⟨us,h1,h2,λj p hp=>?_⟩
  obtain ⟨r,tid,vs,h4,h5,h6⟩:=h3 j p hp
  obtain ⟨e1,b',e2,e3⟩:=hH p.1 (hr p.1 (by simp only [AC.refs,Bq];exact ⟨p,Bo hp,rfl⟩)) _ h4
  cases b'<;>simp only [OB.map,OB.bj,reduceCtorEq] at e3
  exact ⟨r,_,_,e2,by rw [e1];exact h5,h6⟩
 |Hv k=>
  obtain ⟨r,vt,m,h1,h2,h3⟩:=h
  obtain ⟨e1,b',e2,e3⟩:=hH k (hr k (by simp [AC.refs])) _ h1
  cases b'<;>simp only [OB.map,OB.bj,reduceCtorEq,OB.Qy.injEq] at e3
  exact ⟨r,_,_,e2,by rw [e1];exact h2,h3⟩
 |_=>exact h
theorem Ax.KE {st:St} {a:Act} (h:Ax X π st a w) {dead part:List Nat} {inv gv:Nat->Prop} (yx: ∀b,gv b-> ∃l r,inv l/\π l=some r/\r.Bu b) (hb:Gw w.heap.size gv w w')
  (hold: ∀l b0,l∉dead->Ap st.heap l=some b0->π' l=π l/\((¬inv l/\Ap H' l=some (b0.map (Bt dead part)))\/
   ∃b',Ap H' l=some b'/\(b0.map (Bt dead part)).bj b'/\(Move X w w' π π' st.heap H' (Bt dead part)->Bn X w' π' H' (π l) b')))
  (eG: ∀l b',Ap H' l=some b'->(l∈dead\/Ap st.heap l=none)->l<Az/\Bn X w' π' H' (π' l) b'/\
   ∀r b,π' l=some r->(r.Bu b->r.cl b)/\(r.cl b->b<w'.heap.size/\(w.heap.size<=b\/ ∃l0 r0,l0∈dead/\π l0=some r0/\r0.Bu b)/\
    ∀l2 r2,(l2∈dead\/Ap st.heap l2=none)->π' l2=some r2->r2.cl b->l2=l))
  (xB: ∀l,Ap H' l=none->π' l=none)
  (hx: ∀m r,m∉dead->m∉part->π m=some r->(∃b,Ap st.heap m=some b/\b.c6≠none)->w'.heap[r.g]?=w.heap[r.g]?):
  Ax X π' {tmps:=st.tmps.map (·.map (Bt dead part)),heap:=H'} a w':=by
 have cls: ∀l r,π' l=some r->(l∉dead/\(∃b0,Ap st.heap l=some b0)/\π l=some r)\/((l∈dead\/Ap st.heap l=none)/\ ∃b',Ap H' l=some b'):=by
  intro l r hr
  cases hh:Ap H' l with
  |none=>rw [xB l hh] at hr;cases hr
  |some b'=>
   by_cases hd:l∈dead
   ·exact .inr ⟨.inl hd,b',rfl⟩
   ·cases h0:Ap st.heap l with
    |none=>exact .inr ⟨.inr rfl,b',rfl⟩
    |some b0=>exact .inl ⟨hd,⟨b0,rfl⟩,by rw [<-(hold l b0 hd h0).1];exact hr⟩
 have own: ∀b,gv b->Qk π b:= λb VO=>let ⟨l,r,_,h1,h2⟩:=yx b VO;⟨l,r,h1,h2⟩
 have m:Move X w w' π π' st.heap H' (Bt dead part):=by
  refine Move.KE hb.size (λk hk hn=>hb.block k hk λhg=>hn (own k hg)) (λb Im ho=>?_) (λm hm b0 h0=>?_) (λm r h1 h2 h3 h4 _=>hx m r h1 h2 h3 h4)
  ·obtain ⟨l,r,h1,h2⟩:=ho
   rcases cls l r h1 with ⟨_,_,h3⟩|⟨h3,b',h4⟩
   ·exact ⟨l,r,h3,h2⟩
   ·obtain ⟨_,_,h5⟩:=eG l b' h4 h3
    obtain ⟨h6,h7⟩:=h5 r b h1
    rcases (h7 (h6 h2)).2.1 with h8|⟨l0,r0,_,h8,h9⟩
    ·omega
    ·exact ⟨l0,r0,h8,h9⟩
  ·obtain ⟨e1,e2⟩:=hold m b0 hm h0
   refine ⟨e1,?_⟩
   rcases e2 with ⟨_,e2⟩|⟨b',e2,e3,_⟩
   ·exact ⟨_,e2,OB.bj.rfl' _⟩
   ·exact ⟨b',e2,e3⟩
 refine ⟨⟨⟨hb.os.trans h.1.below.os,hb.tape.trans h.1.below.tape,hb.output.trans h.1.below.output,Kj h.1.below.size hb.size,λk hk hn=>?_⟩,h.1.sc,λl r b hr hf=>?_,λl r b hr hf=>?_,λl l' r r' b hr eH hf NM=>?_,λl hp Hs=>?_,λl=>?_⟩,?_⟩
 ·refine (hb.block k (Cy hk h.1.below.size) λhg=>?_).trans (h.1.below.block k hk hn)
  rcases (h.1.own (own k hg)).2 with h1|h1
  ·omega
  ·exact hn h1
 ·rcases cls l r hr with ⟨_,_,h3⟩|⟨h3,b',h4⟩
  ·exact h.1.sub l r b h3 hf
  ·exact ((eG l b' h4 h3).2.2 r b hr).1 hf
 ·rcases cls l r hr with ⟨_,_,h3⟩|⟨h3,b',h4⟩
  ·exact ⟨(h.1.place l r b h3 hf).1,Cy (h.1.place l r b h3 hf).2 hb.size⟩
  ·obtain ⟨k1,k2,_⟩:=((eG l b' h4 h3).2.2 r b hr).2 hf
   refine ⟨?_,k1⟩
   rcases k2 with k2|⟨l0,r0,_,k2,k3⟩
   ·exact .inl (Kj h.1.below.size k2)
   ·exact (h.1.own ⟨l0,r0,k2,k3⟩).2
 ·
  have mixed: ∀l l' r r',(l∉dead/\(∃b0,Ap st.heap l=some b0)/\π l=some r)->((l'∈dead\/Ap st.heap l'=none)/\ ∃b',Ap H' l'=some b')->π' l'=some r'->r.cl b->r'.cl b->False:=by
   intro l l' r r' ⟨h1,_,h3⟩ ⟨h4,b',h5⟩ eH hf NM
   rcases (((eG l' b' h5 h4).2.2 r' b eH).2 NM).2.1 with h6|⟨l0,r0,h6,h7,h8⟩
   ·have:=(h.1.place l r b h3 hf).2;omega
   ·have:=h.1.inj l l0 r r0 b h3 h7 hf (h.1.sub l0 r0 b h7 h8)
    subst this;exact h1 h6
  rcases cls l r hr with h1|h1<;>rcases cls l' r' eH with h2|h2
  ·exact h.1.inj l l' r r' b h1.2.2 h2.2.2 hf NM
  ·exact (mixed l l' r r' h1 h2 eH hf NM).elim
  ·exact (mixed l' l r' r h2 h1 hr NM hf).elim
  ·obtain ⟨b',h4⟩:=h2.2
   exact (((eG l' b' h4 h2.1).2.2 r' b eH).2 NM).2.2 l r h1.1 hr hf
 ·cases hh:Ap H' l with
  |none=>exact absurd hh Hs
  |some b'=>
   by_cases hd:l∈dead
   ·have:=(eG l b' hh (.inl hd)).1;omega
   ·cases h0:Ap st.heap l with
    |none=>have:=(eG l b' hh (.inr h0)).1;omega
    |some b0=>rw [(hold l b0 hd h0).1];exact h.1.cD l hp (by rw [h0];simp)
 ·cases hh:Ap H' l with
  |none=>exact Ei.Pz (xB l hh) hh
  |some b'=>
   refine Ei.Ix ?_ hh
   by_cases hd:l∈dead
   ·exact (eG l b' hh (.inl hd)).2.1
   ·cases h0:Ap st.heap l with
    |none=>exact (eG l b' hh (.inr h0)).2.1
    |some b0=>
     obtain ⟨e1,e2⟩:=hold l b0 hd h0
     rw [e1]
     rcases e2 with ⟨e2,e3⟩|⟨b2,e2,e3,e4⟩
     ·rw [hh] at e3;cases e3
      refine ((h.1.heap l).Ns h0).move m hb.size (λr' c hr hc=>h.1.sub l r' c hr hc) λr' c hr hc Im=>hb.block c Im λhg=>?_
      obtain ⟨l0,r0,k1,k2,k3⟩:=yx c hg
      have:=h.1.inj l l0 r' r0 c hr k2 hc (h.1.sub l0 r0 c k2 k3)
      subst this;exact e2 k1
     ·rw [hh] at e2;cases e2
      exact e4 m
 ·have:lv X w' π' {tmps:=st.tmps.map (·.map (Bt dead part)),heap:=H'} a:=m.wB (by simp [Bt,AC.refs]) h.2
  exact this
end
end Go.Proofs.Ytfgfigkbgecfnaa
