/-
  Part 5 of the proof that the statement FnSymmetries holds.
-/
import Derived.Test.YtkkdpknjohcekaaCFSymmetries03
namespace Go.Proofs.Ytkkdpknjohcekaa
open Go.RowKit
def Vr (π:Pi) (l:Nat) (r:Option Real):Pi:= λk=>if k=l then r else π k
theorem Ft (π:Pi) (l:Nat) (r:Option Real):Vr π l r l=r:=by simp [Vr]
theorem Fo (π:Pi) {l m:Nat} (r:Option Real) (h:m≠l):Vr π l r m=π m:=by simp [Vr,h]
section
variable {X:Ctx} {w w':World} {π:Pi} {H H':List (Nat×OB)}
def By (X:Ctx) (w:World) (π:Pi) (H:List (Nat×OB)) (r:Option Real):OB->Prop
 | .arr fr tr e tid xs=>Jo X w π r fr tr e tid xs
 | .Gg e tid xs=>Nj w r e tid xs
 | .var tid vs=>WB X w π H r tid vs
 | .Bj e _ rows out kp=>ff X w π r e rows out kp
 | .Ul v m=>MW w r v m
theorem Fl.Qq {l:Nat} {b:OB} (h:Fl X w π H l) (hb:As H l=some b):By X w π H (π l) b:=by
 unfold Fl at h
 rw [hb] at h
 cases b<;>exact h
theorem Fl.Lg {l:Nat} {b:OB} (h:By X w π H (π l) b) (hb:As H l=some b):Fl X w π H l:=by
 unfold Fl
 rw [hb]
 cases b<;>exact h
theorem Fl.Tg {l:Nat} (h:π l=none) (hb:As H l=none):Fl X w π H l:=by
 unfold Fl;rw [hb];exact h
theorem Fl.emp {l:Nat} (h:Fl X w π H l) (hb:As H l=none):π l=none:=by
 unfold Fl at h;rw [hb] at h;exact h
theorem By.move {f:AC->AC} {π':Pi} (m:Move X w w' π π' H H' f) {r:Option Real} {b:OB} (h:By X w π H r b) (hs:w.heap.size<=w'.heap.size)
  (fV: ∀r' c,r=some r'->r'.Cm c->r'.cl c) (hk: ∀r' c,r=some r'->r'.cl c->c<w.heap.size->w'.heap[c]?=w.heap[c]?):
  By X w' π' H' r (b.map f):=by
 cases b with
 |arr fr tr e tid xs=>
  simp only [By,Jo,OB.map] at h⊢
  cases hr:r with
  |none=>rw [hr] at h;exact h
  |some r=>
   rw [hr] at h
   obtain ⟨h1,cur,ti,h2,h3,h4,h5,h6,h7⟩:=h
   refine ⟨h1,cur,ti,(hk r _ hr (fV r _ hr h1.1) (Fm h2)).trans h2,h3,h4,h5,λi x hx=>?_,λht=>(h7 ht).Fw hs (λc _ Jx hc=>hk r c hr hc Jx) λ_ hb=>hb⟩
   obtain ⟨es,he,hj,hc⟩:=h6 i x hx
   exact ⟨es,he,hj,m.cells _ _ _ _ hc⟩
 |Gg e tid xs=>
  simp only [By,Nj,OB.map] at h⊢
  cases hr:r with
  |none=>rw [hr] at h;exact h
  |some r=>
   rw [hr] at h
   obtain ⟨h1,cur,ti,h2,h3,h4,h5,h7⟩:=h
   exact ⟨h1,cur,ti,(hk r _ hr (fV r _ hr h1) (Fm h2)).trans h2,h3,h4,h5,h7.Fw hs (λc _ Jx hc=>hk r c hr (fV r c hr hc) Jx) λ_ hb=>hb⟩
 |var tid vs=>
  obtain ⟨r',h0,h1,cur,h2,h3⟩:=h
  exact ⟨r',h0,h1,cur,(hk r' _ h0 (fV r' _ h0 h1) (Fm h2)).trans h2,m.SW h3⟩
 |Bj e te rows out kp=>exact ff.Fw h (λq b hq hf Jx=>hk q b hq (fV q b hq hf) Jx) (λes x=>m.cells false e es x)
 |Ul v g=>
  obtain ⟨r',h0,h1,h2,h3⟩:=h
  refine ⟨r',h0,h1,h2,?_⟩
  simp only [Cells] at h3⊢
  rcases h3 with ⟨h3,_⟩|⟨g,h3,hg,_,es,clock,h4,h5,h6,h7⟩
  ·simp at h3
  ·simp only [Gd,Value.map.injEq,Aa,eY] at h3
   subst h3
   refine .inr ⟨r'.g,rfl,by omega,λh=>h,es,clock,(hk r' _ h0 (fV r' _ h0 h1) hg).trans h4,h5,h6,λs y hy=>?_⟩
   obtain ⟨u,h8,h9⟩:=h7 s y hy
   exact ⟨u,h8,Cells.flat v [u] y h2.1 h9⟩
theorem Move.forget {l:Nat} {r':Option Real} (hs:w.heap.size<=w'.heap.size)
  (hk: ∀k,k<w.heap.size->(∀r,π l=some r-> ¬r.Cm k)->w'.heap[k]?=w.heap[k]?)
  (hr: ∀r b,r'=some r->r.Cm b->(∃r0,π l=some r0/\r0.Cm b)\/w.heap.size<=b)
  (hH: ∀m,m≠l->As H' m=(As H m).map (OB.map (Cg l)))
  (hx: ∀m r,m≠l->π m=some r->(∃b,As H m=some b/\b.ez≠none)->r.g<w.heap.size->w'.heap[r.g]?=w.heap[r.g]?):Move X w w' π (Vr π l r') H H' (Cg l):=by
 have hc: ∀fr τ cs x,Cells w (Cr X.w0.heap.size X.Sc π fr) τ cs x->Cells w' (Cr X.w0.heap.size X.Sc (Vr π l r') fr) τ cs x:=by
  intro fr τ cs x h
  refine Cells.Fw hs (λk pW hn=>hk k pW λr h0 h1=>hn (.inl ⟨l,r,h0,h1⟩)) (λk pW hA=>?_) τ cs x h
  rcases hA with ⟨m,r,hm,hg⟩|h2
  ·by_cases fS:m=l
   ·subst fS
    rw [Ft] at hm
    rcases hr r k hm hg with ⟨r0,h0,h1⟩|h1
    ·exact .inl ⟨m,r0,h0,h1⟩
    ·omega
   ·rw [Fo π r' fS] at hm
    exact .inl ⟨m,r,hm,hg⟩
  ·exact .inr h2
 refine ⟨λc v h=>?_,hc⟩
 cases c with
 |data fr τ x=>obtain ⟨cs,h1,h2⟩:=h;exact ⟨cs,hc _ _ _ _ h1,h2⟩
 |own k off len=>
  simp only [Cg]
  split
  ·trivial
  ·rename_i Rl
   obtain ⟨b,sz,n,h1,h0,h2,h3⟩:=h
   exact ⟨b.map (Cg l),sz,n,by rw [hH k Rl,h1];rfl,by cases b<;>exact h0,h2,by rw [Fo π r' Rl];exact h3⟩
 |Gr k i=>
  simp only [Cg]
  split
  ·trivial
  ·rename_i Rl
   obtain ⟨r,tid,vs,h1,h2,h3⟩:=h
   exact ⟨r,tid,vs.map (Cg l),by rw [hH k Rl,h1];rfl,by rw [Fo π r' Rl];exact h2,h3⟩
 |Jp k i=>
  simp only [Cg]
  split
  ·trivial
  ·rename_i Rl
   obtain ⟨r,b,sz,n,h1,h0,h2,h3,h4⟩:=h
   exact ⟨r,b.map (Cg l),sz,n,by rw [hH k Rl,h1];rfl,by cases b<;>exact h0,h2,by rw [Fo π r' Rl];exact h3,h4⟩
 |sub k i c=>
  simp only [Cg]
  split
  ·trivial
  ·rename_i Rl
   obtain ⟨r,b,sz,n,h1,h0,h2,h3,h4,h5⟩:=h
   exact ⟨r,b.map (Cg l),sz,n,by rw [hH k Rl,h1];rfl,by cases b<;>exact h0,by rw [Fo π r' Rl];exact h2,h3,h4,by rw [World.cell?_of_block (hx k r Rl h2 ⟨b,h1,by rw [h0];simp⟩ (bd h5))];exact h5⟩
 |Jn k i c=>
  simp only [Cg]
  split
  ·trivial
  ·rename_i Rl
   obtain ⟨r,b,n,sz,g,o,len,cap,h1,h0,h2,h3,h4,h5,h6⟩:=h
   exact ⟨r,b.map (Cg l),n,sz,g,o,len,cap,by rw [hH k Rl,h1];rfl,by cases b<;>exact h0,by rw [Fo π r' Rl];exact h2,h3,h4,by rw [World.cell?_of_block (hx k r Rl h2 ⟨b,h1,by cases b<;>first|(cases h0;done)|simp [OB.ez]⟩ (bd h5))];exact h5,h6⟩
 |clo f Eb=>
  simp only [Cg]
  split
  ·trivial
  ·rename_i Rl
   obtain ⟨us,h1,h2,h3⟩:=h
   refine ⟨us,h1,h2,λj p hp=>?_⟩
   obtain ⟨r,tid,vs,h4,h5,h6⟩:=h3 j p hp
   have eS:p.1≠l:= λe=>Rl (by simp only [Iz,Bo];exact ⟨p,Bz hp,e⟩)
   exact ⟨r,tid,vs.map (Cg l),by rw [hH _ eS,h4];rfl,by rw [Fo π r' eS];exact h5,h6⟩
 |Ka k=>
  simp only [Cg]
  split
  ·trivial
  ·rename_i Rl
   obtain ⟨r,vt,m,h1,h2,h3⟩:=h
   exact ⟨r,vt,m,by rw [hH k Rl,h1];rfl,by rw [Fo π r' Rl];exact h2,h3⟩
 |_=>exact h
theorem St.Yc (st:St) (l m:Nat) (b:OB) (h:m≠l):As (st.new l b).heap m=(As st.heap m).map (OB.map (Cg l)):=by
 simp only [St.new,St.forget,St.Kr]
 rw [Ow _ _ _ _ h,Na _ _ _ h,Oe]
theorem St.Gh (st:St) (l:Nat) (b:OB):As (st.new l b).heap l=some b:=by
 simp only [St.new,St.forget,St.Kr]
 exact Py _ _ _ (Md _ _)
theorem St.fP (st:St) (l m:Nat) (h:m≠l):As (st.forget l).heap m=(As st.heap m).map (OB.map (Cg l)):=by
 simp only [St.forget,St.Kr]
 rw [Na _ _ _ h,Oe]
theorem St.my (st:St) (l:Nat):As (st.forget l).heap l=none:=by
 simp only [St.forget,St.Kr]
 exact Md _ _
theorem Bb.gw {st:St} {a:Act} (h:Bb X π st a w) (l:Nat) (hl:l<Be) (r':Option Real) (b:OB)
  (hg:w.grownBy w' ((π l).map (·.g)))
  (hf: ∀r b,r'=some r->r.Cm b->r.cl b/\((∃r0,π l=some r0/\r0.Cm b)\/w.heap.size<=b))
  (hr: ∀r b,r'=some r->r.cl b->(X.w0.heap.size<=b\/X.gv b)/\b<w'.heap.size/\ ∀m r0,m≠l->π m=some r0-> ¬r0.cl b)
  (hb:Move X w w' π (Vr π l r') st.heap (st.new l b).heap (Cg l)->By X w' (Vr π l r') (st.new l b).heap r' b):Bb X (Vr π l r') (st.new l b) a w':=by
 have hk: ∀k,k<w.heap.size->(∀r,π l=some r-> ¬r.Cm k)->w'.heap[k]?=w.heap[k]?:= λk hk hn=>hg.block k hk (by
  intro e
  cases hp:π l with
  |none=>rw [hp] at e;cases e
  |some r=>rw [hp] at e;simp only [Ah,Aa] at e;exact hn r hp (e▸h.1.Cm hp))
 have m:Move X w w' π (Vr π l r') st.heap (st.new l b).heap (Cg l):=Move.forget hg.size hk (λr c h1 h2=>(hf r c h1 h2).2) (λm hm=>St.Yc st l m b hm)
  (λm r hm h1 _ Jx=>hk _ Jx λr1 h2 h3=>hm (h.1.apart h1 h2 (h.1.Cm h1) h3))
 refine ⟨⟨?_,h.1.sc,?_,?_,?_,?_,λk=>?_⟩,?_⟩
 ·refine h.1.below.grown hg h.1.below.size λk hk=>?_
  cases hp:π l with
  |none=>rw [hp] at hk;cases hk
  |some r=>rw [hp] at hk;simp only [Ah,Aa] at hk;rw [<-hk];exact (h.1.lt hp).2
 ·intro k r c h1 h2
  by_cases e1:k=l
  ·subst e1;rw [Ft] at h1;exact (hf r c h1 h2).1
  ·rw [Fo π r' e1] at h1;exact h.1.sub k r c h1 h2
 ·intro k r c h1 h2
  by_cases e1:k=l
  ·subst e1;rw [Ft] at h1;have:=hr r c h1 h2;exact ⟨this.1,this.2.1⟩
  ·rw [Fo π r' e1] at h1;have:=h.1.place k r c h1 h2;exact ⟨this.1,Ec this.2 hg.size⟩
 ·intro l1 l2 r1 r2 c h1 h2 h3 h4
  by_cases e1:l1=l<;>by_cases e2:l2=l
  ·rw [e1,e2]
  ·subst e1
   rw [Ft] at h1;rw [Fo π r' e2] at h2
   exact absurd h4 ((hr r1 c h1 h3).2.2 l2 r2 e2 h2)
  ·subst e2
   rw [Ft] at h2;rw [Fo π r' e1] at h1
   exact absurd h3 ((hr r2 c h2 h4).2.2 l1 r1 e1 h1)
  ·rw [Fo π r' e1] at h1;rw [Fo π r' e2] at h2
   exact h.1.inj _ _ r1 r2 c h1 h2 h3 h4
 ·intro k MO Is
  have e:k≠l:= λe=>by subst e;omega
  rw [St.Yc st l k b e] at Is
  rw [Fo π r' e]
  exact h.1.fb k MO λh0=>Is (by rw [h0];rfl)
 ·by_cases e:k=l
  ·subst e
   exact Fl.Lg (by rw [Ft];exact hb m) (St.Gh st k b)
  ·have hn:=St.Yc st l k b e
   have ho:=h.1.heap k
   cases l4:As st.heap k with
   |none=>rw [l4] at hn;exact Fl.Tg (by rw [Fo π r' e];exact ho.emp l4) hn
   |some c=>
    rw [l4] at hn
    refine Fl.Lg ?_ hn
    rw [Fo π r' e]
    exact (ho.Qq l4).move m hg.size (λr0 c h0 h1=>h.1.sub _ r0 c h0 h1) λr0 c h0 h1 Jx=>hk _ Jx λr1 h2 h3=>e (h.1.inj _ _ r0 r1 c h0 h2 h1 (h.1.sub _ _ _ h2 h3))
 ·have hh:pa X w' (Vr π l r') {tmps:=st.tmps.map (·.map (Cg l)),heap:=(st.new l b).heap} a:=m.EE rfl h.2
  exact hh
def Real.one (g o cap:Nat):Real:=⟨g,o,cap,λb=>b=g,λb=>b=g⟩
theorem Bb.replace {st:St} {a:Act} (h:Bb X π st a w) (l:Nat) (hl:l<Be) (r':Option Real) (b:OB)
  (hg:w.grownBy w' ((π l).map (·.g)))
  (hr: ∀r,r'=some r->r=Real.one r.g r.o r.cap/\((∃r0,π l=some r0/\r0.g=r.g)\/w.heap.size<=r.g)/\r.g<w'.heap.size)
  (hb:Move X w w' π (Vr π l r') st.heap (st.new l b).heap (Cg l)->By X w' (Vr π l r') (st.new l b).heap r' b):Bb X (Vr π l r') (st.new l b) a w':=by
 refine h.gw l hl r' b hg (λr c h1 h2=>?_) (λr c h1 h2=>?_) hb
 ·obtain ⟨h3,h4,_⟩:=hr r h1
  have WK:c=r.g:=by rw [h3] at h2;exact h2
  subst WK
  refine ⟨by rw [h3];rfl,h4.imp (λ⟨r0,h5,h6⟩=>⟨r0,h5,h6▸h.1.Cm h5⟩) id⟩
 ·obtain ⟨h3,h4,h5⟩:=hr r h1
  have WK:c=r.g:=by rw [h3] at h2;exact h2
  subst WK
  refine ⟨?_,h5,λm r0 hm h6 h7=>?_⟩
  ·rcases h4 with ⟨r0,h6,h7⟩|h6
   ·rw [<-h7];exact (h.1.lt h6).2
   ·exact .inl (Ou h.1.below.size h6)
  ·rcases h4 with ⟨r1,h8,h9⟩|h8
   ·exact hm (h.1.inj m l r0 r1 r.g h6 h8 h7 (h9▸h.1.sub l r1 _ h8 (h.1.Cm h8)))
   ·have:=(h.1.place m r0 _ h6 h7).2;omega
theorem Mm.drop (h:Mm X w π H) {f:AC->AC} (l:Nat) (m:Move X w w π (Vr π l none) H H' f) (h0:As H' l=none) (hH: ∀k,k≠l->As H' k=(As H k).map (OB.map f)):Mm X w (Vr π l none) H':=by
 have un: ∀k r,Vr π l none k=some r->k≠l/\π k=some r:= λk r hk=>by
  by_cases e:k=l
  ·subst e;rw [Ft] at hk;cases hk
  ·rw [Fo π none e] at hk;exact ⟨e,hk⟩
 refine ⟨h.below,h.sc,λk r c h1 h2=>h.sub k r c (un k r h1).2 h2,λk r c h1 h2=>h.place k r c (un k r h1).2 h2,λl1 l2 r1 r2 c h1 h2 h3 h4=>h.inj _ _ r1 r2 c (un _ _ h1).2 (un _ _ h2).2 h3 h4,λk hp Is=>?_,λk=>?_⟩
 ·have e:k≠l:= λe=>by subst e;exact Is h0
  rw [hH k e] at Is
  rw [Fo π none e]
  exact h.fb k hp λh1=>Is (by rw [h1];rfl)
 ·by_cases e:k=l
  ·subst e
   exact Fl.Tg (by rw [Ft]) h0
  ·have hn:=hH k e
   have ho:=h.heap k
   cases l4:As H k with
   |none=>rw [l4] at hn;exact Fl.Tg (by rw [Fo π none e];exact ho.emp l4) hn
   |some c=>
    rw [l4] at hn
    refine Fl.Lg ?_ hn
    rw [Fo π none e]
    exact (ho.Qq l4).move m (Ar _) (λr0 c h0 h1=>h.sub _ r0 c h0 h1) λr0 c h0 h1 Jx=>rfl
theorem Bb.forget {st:St} {a:Act} (h:Bb X π st a w) (l:Nat):Bb X (Vr π l none) (st.forget l) a w:=by
 have m:Move X w w π (Vr π l none) st.heap (st.forget l).heap (Cg l):=
  Move.forget (Ar _) (λ_ _ _=>rfl) (λr c hr=>by cases hr) (λm hm=>St.fP st l m hm) (λ_ _ _ _ _ _=>rfl)
 refine ⟨h.1.drop l m (St.my st l) λk e=>St.fP st l k e,?_⟩
 have hh:pa X w (Vr π l none) {tmps:=st.tmps.map (·.map (Cg l)),heap:=(st.forget l).heap} a:=m.EE rfl h.2
 exact hh
theorem cellOf {w:World} {g:Nat} {cur:Array Value} {tid:TypeId} (h:w.heap[g]?=some (.cells cur tid (0,0))) (i:Nat):w.cell? ⟨g,i,none⟩=cur[i]?:=by
 simp [World.cell?,h]
theorem Nx {l off len:Nat} {v:Value} {fr tr:Bool} {e:Ty} {tid:TypeId} {xs:List e.den} (h:Gy X w π H (.own l off len) v) (hl:As H l=some (.arr fr tr e tid xs)):off+len<=xs.length/\Hf (π l) e.size off len v:=by
 obtain ⟨b,sz,n,h1,h0,h2,h3⟩:=h
 rw [hl] at h1;cases h1
 simp only [OB.row,Aa,Ad] at h0
 obtain ⟨rfl,rfl⟩:=h0
 exact ⟨h2,h3⟩
theorem aM {l off len:Nat} {v:Value} {e:Ty} {tid:TypeId} {xs:List e.den} (h:Gy X w π H (.own l off len) v) (hl:As H l=some (.Gg e tid xs)):off+len<=xs.length/\Hf (π l) e.size off len v:=by
 obtain ⟨b,sz,n,h1,h0,h2,h3⟩:=h
 rw [hl] at h1;cases h1
 simp only [OB.row,Aa,Ad] at h0
 obtain ⟨rfl,rfl⟩:=h0
 exact ⟨h2,h3⟩
theorem DC {l off len:Nat} {v:Value} {fr tr:Bool} {e:Ty} {tid:TypeId} {xs:List e.den} (hl:As H l=some (.arr fr tr e tid xs)) (h1:off+len<=xs.length) (h2:Hf (π l) e.size off len v):Gy X w π H (.own l off len) v:=
 ⟨_,e.size,xs.length,hl,rfl,h1,h2⟩
theorem uh {r:Real} {off len:Nat} {v:Value} {e:Ty} {tid:TypeId} {xs:List e.den} {S:Nat->Prop} {cur:Array Value} (h2:w.heap[r.g]?=some (.cells cur tid (0,0)))
  (hlen:off+len<=xs.length) (hv:Hf (some r) e.size off len v) (hg: ¬S r.g)
  (hA: ∀(i:Nat) (x:e.den),xs[i]?=some x-> ∃es:List Value,es.length=e.size/\(∀j u,es[j]?=some u->cur[(r.o+i)*e.size+j]?=some u)/\Cells w S e es x):Cells w S (.slice e) [v] ((xs.drop off).take len):=by
 have IS:((xs.drop off).take len).length=len:=by simp;omega
 obtain ⟨ad,rfl,hc,ha⟩:=hv
 refine ⟨some ad,len,r.cap-off,rfl,IS.symm,by omega,?_⟩
 rcases Sk len with h0|h0
 ·left;subst h0;simp
 ·right
  refine ⟨r.g,(r.o+off)*e.size,by rw [ha (by omega)],Fm h2,hg,λi x hx=>?_⟩
  have hi:i<len:=by
   have:=(Aj.1 hx).1
   rw [IS] at this;exact this
  have hx':xs[off+i]?=some x:=by
   rw [Cn,Ab hi,Ci] at hx;exact hx
  obtain ⟨es,he,hj,rI⟩:=hA (off+i) x hx'
  refine ⟨es,he,λj u hu=>?_,rI⟩
  rw [cellOf h2]
  have:=hj j u hu
  rw [<-this]
  congr 1
  rw [<-Fy,Cw (r.o+off) i]
theorem mN {l off len:Nat} {v:Value} {fr tr:Bool} {e:Ty} {tid:TypeId} {xs:List e.den} {S:Nat->Prop} (h:Mm X w π H) (hl:As H l=some (.arr fr tr e tid xs))
  (hlen:off+len<=xs.length) (hv:Hf (π l) e.size off len v)
  (hS: ∀k,S k->(∃r,π l=some r/\r.Cm k)->False) (hA: ∀k,k<w.heap.size->S k->Cr X.w0.heap.size X.Sc π fr k):Cells w S (.slice e) [v] ((xs.drop off).take len):=by
 have hb:=(h.heap l).Qq hl
 simp only [By,Jo] at hb
 cases hp:π l with
 |none=>
  rw [hp] at hb hv
  obtain ⟨rfl,rfl,rfl⟩:=hv
  exact ⟨none,0,0,rfl,by simp,Ar _, .inl (by simp)⟩
 |some r=>
  rw [hp] at hb hv
  obtain ⟨h1,cur,_,h2,h3,h4,h5,h6,_⟩:=hb
  refine uh h2 hlen hv (λhs=>hS _ hs ⟨r,hp,h1.1⟩) λi x hx=>?_
  obtain ⟨es,he,hj,rI⟩:=h6 i x hx
  exact ⟨es,he,hj,Cells.Fw (Ar _) (λ_ _ _=>rfl) hA e es x rI⟩
theorem Rw.slice {D S:Nat->Prop} {R:Option Real} {e:Ty} {x:List e.den} {u:Value} (h:Rw w D R e x) (hv:Hf R e.size 0 (List.length x) u) (hD: ∀k,S k->D k) (hg: ∀q,R=some q-> ¬S q.g):Cells w S (.slice e) [u] x:=by
 cases R with
 |none=>
  have hx:x= []:=h
  subst hx
  obtain ⟨rfl,_,_⟩:=hv
  exact ⟨none,0,0,rfl,rfl,Ar _, .inl rfl⟩
 |some q=>
  obtain ⟨h1,cur,ti,h2,h3,h4,h5,h6⟩:=h
  obtain ⟨ad,rfl,g1,g2⟩:=hv
  refine ⟨some ad,List.length x,_,rfl,rfl,by omega,?_⟩
  rcases Sk (List.length x) with hx|hx
  ·exact .inl (Dd hx)
  ·have NZ:=g2 (by omega)
   subst NZ
   refine .inr ⟨q.g,(q.o+0)*e.size,rfl,Fm h2,hg q rfl,λi y hy=>?_⟩
   obtain ⟨es,k1,k2,k3⟩:=h6 i y hy
   refine ⟨es,k1,λj u hu=>?_,Cells.Fw (Ar _) (λ_ _ _=>rfl) (λk _ hk=>hD k hk) e es y k3⟩
   rw [cellOf h2,Dz,<-Cw]
   exact k2 j u hu
theorem lH {l off len:Nat} {v:Value} {e:Ty} {te:TypeId} {rows:List (List e.den)} {out:Option Nat} {kp:Option (Nat×Nat)} (h:Gy X w π H (.own l off len) v) (hl:As H l=some (.Bj e te rows out kp)):off+len<=rows.length/\Hf (π l) 1 off len v:=by
 obtain ⟨b,sz,n,h1,h2,h3,h4⟩:=h
 rw [hl] at h1;cases h1
 simp only [OB.row,Aa,Ad] at h2
 obtain ⟨rfl,rfl⟩:=h2
 exact ⟨h3,h4⟩
theorem pO {l off len:Nat} {v:Value} {e:Ty} {te:TypeId} {rows:List (List e.den)} {kp:Option (Nat×Nat)} {S:Nat->Prop} (h:Mm X w π H) (hl:As H l=some (.Bj e te rows none kp))
  (hlen:off+len<=rows.length) (hv:Hf (π l) 1 off len v)
  (hS: ∀k,S k->(∃r,π l=some r/\r.Cm k)->False) (hA: ∀k,S k->Cr X.w0.heap.size X.Sc π false k):Cells w S (.slice (.slice e)) [v] ((rows.drop off).take len):=by
 have hb:=(h.heap l).Qq hl
 simp only [By] at hb
 have hb:=hb.1
 cases hp:π l with
 |none=>
  rw [hp] at hb hv
  have hb:rows= []:=hb
  obtain ⟨rfl,rfl,rfl⟩:=hv
  exact ⟨none,0,0,rfl,by simp,Ar _, .inl (by simp)⟩
 |some r=>
  rw [hp] at hb hv
  obtain ⟨h1,cur,ti,h2,h3,h4,h5,Rs,h6,h7,h8,h9⟩:=hb
  obtain ⟨ad,rfl,g1,g2⟩:=hv
  refine ⟨some ad,len,_,rfl,by simp;omega,by omega,?_⟩
  rcases Sk len with hx|hx
  ·subst hx;exact .inl (by simp)
  ·have NZ:=g2 (by omega)
   subst NZ
   refine .inr ⟨r.g,(r.o+off)*1,rfl,Fm h2,λhs=>hS _ hs ⟨r,hp,h1⟩,λi x hx=>?_⟩
   have hx:((rows.drop off).take len)[i]?=some x:=hx
   rw [Cn] at hx
   split at hx
   ·rw [Ci] at hx
    obtain ⟨u,R,k1,k2,k3,k4⟩:=h9 _ x hx (by simp)
    refine ⟨[u],rfl,λj u' eU=>?_,k4.slice k3 hA λq hq hs=>hS _ hs ⟨r,hp,(h7 _ q (by rw [k2,hq])).1⟩⟩
    rcases j with _|j
    ·simp only [Bl,Aa] at eU
     subst eU
     rw [cellOf h2,<-k1]
     congr 1
     simp only [Ty.size];omega
    ·simp at eU
   ·cases hx
theorem yz {l i c:Nat} {v:Value} {e:Ty} {te:TypeId} {rows:List (List e.den)} {out:Option Nat} {kp:Option (Nat×Nat)} (hv:Gy X w π H (.sub l i c) v) (hl:As H l=some (.Bj e te rows out kp)):rows[i]?=some (rows.getD i []):=by
 obtain ⟨r,b,sz,n,h1,h0,_,h3,_⟩:=hv
 rw [hl] at h1;cases h1
 simp only [OB.ez,Aa,Ad] at h0
 obtain ⟨rfl,rfl⟩:=h0
 rw [Al,Ac h3];rfl
theorem kX {l i:Nat} {e:Ty} {te:TypeId} {rows:List (List e.den)} {out:Option Nat} {kp:Option (Nat×Nat)} {r:Real} (h:Mm X w π H) (hl:As H l=some (.Bj e te rows out kp)) (hp:π l=some r) (hi:i<rows.length) (ho:out≠some i):
  ∃u R,w.cell? ⟨r.g,r.o+i,none⟩=some u/\Hf R e.size 0 (rows.getD i []).length u/\Rw w (Cr X.w0.heap.size X.Sc π false) R e (rows.getD i []):=by
 have hb:=(h.heap l).Qq hl
 simp only [By] at hb
 have hb:=hb.1
 rw [hp] at hb
 obtain ⟨h1,cur,ti,h2,h3,h4',h5',Rs,h6,h7,h8,h9⟩:=hb
 have hx:rows[i]?=some (rows.getD i []):=by rw [Al,Ac hi];rfl
 obtain ⟨u,R,k1,k2,k3,k4⟩:=h9 _ _ hx ho
 exact ⟨u,R,by rw [cellOf h2];exact k1,k3,k4⟩
theorem Zp {R:Option Real} {sz off len:Nat} {u:Value} (h:Hf R sz off len u): ∃a n m,u= .slice a n m:=by
 cases R with
 |none=>exact ⟨_,_,_,h.1⟩
 |some q=>obtain ⟨ad,rfl,_⟩:=h;exact ⟨_,_,_,rfl⟩
theorem pP {l i c:Nat} {v:Value} {e:Ty} {te:TypeId} {rows:List (List e.den)} {kp:Option (Nat×Nat)} {x:List e.den} {S:Nat->Prop} (h:Mm X w π H) (hl:As H l=some (.Bj e te rows none kp)) (hx:rows[i]?=some x)
  (hv:Gy X w π H (.sub l i c) v)
  (hS: ∀k,S k->(∃r,π l=some r/\r.Cm k)->False) (hA: ∀k,S k->Cr X.w0.heap.size X.Sc π false k):Cells w S (.slice e) [v] x:=by
 obtain ⟨r,b,sz,n,h1,h0,hp,h3,⟨h4,_⟩,h5⟩:=hv
 rw [hl] at h1;cases h1
 simp only [OB.ez,Aa,Ad] at h0
 obtain ⟨rfl,rfl⟩:=h0
 have hb:=(h.heap l).Qq hl
 simp only [By] at hb
 have hb:=hb.1
 rw [hp] at hb
 obtain ⟨h1,cur,ti,h2,h3,h4',h5',Rs,h6,h7,h8,h9⟩:=hb
 obtain ⟨u,R,k1,k2,k3,k4⟩:=h9 _ x hx (by simp)
 have:c=0:=by omega
 subst this
 rw [cellOf h2,Et,Dz,k1] at h5
 have hv:=Aw h5
 subst hv
 exact k4.slice k3 hA λq hq hs=>hS _ hs ⟨r,hp,(h7 _ q (by rw [k2,hq])).1⟩
theorem kl {l off len:Nat} {v:Value} {e:Ty} {tid:TypeId} {xs:List e.den} {S:Nat->Prop} (h:Mm X w π H) (hl:As H l=some (.Gg e tid xs))
  (hlen:off+len<=xs.length) (hv:Hf (π l) e.size off len v)
  (hS: ∀k,S k->(∃r,π l=some r/\r.Cm k)->False):Cells w S (.slice e) [v] ((xs.drop off).take len):=by
 have hb:=(h.heap l).Qq hl
 simp only [By,Nj] at hb
 cases hp:π l with
 |none=>
  rw [hp] at hb hv
  obtain ⟨rfl,rfl,rfl⟩:=hv
  exact ⟨none,0,0,rfl,by simp,Ar _, .inl (by simp)⟩
 |some r=>
  rw [hp] at hb hv
  obtain ⟨h1,cur,_,h2,h3,h4,h5,Fs,k1,k2,k3,k4⟩:=hb
  refine uh h2 hlen hv (λhs=>hS _ hs ⟨r,hp,h1⟩) λi x hx=>?_
  have hi:i<Fs.length:=by have:=(Aj.1 hx).1;omega
  obtain ⟨es,he,hj,rI⟩:=k4 i x _ hx (Ac hi)
  exact ⟨es,he,hj,rI.cells _ _ _ _ λb hb hs=>hS b hs ⟨r,hp,k3 b (Gx.2 ⟨_,Ak hi,hb⟩)⟩⟩
theorem St.Qx (st:St) (l m:Nat) (fr:Bool) (e:Ty) (xs:List e.den) (h:m≠l):As (st.freeze l fr e xs).heap m=(As st.heap m).map (OB.map (Cq l fr e xs)):=by
 simp only [St.freeze,St.Kr]
 rw [Na _ _ _ h,Oe]
theorem St.Lx (st:St) (l:Nat) (fr:Bool) (e:Ty) (xs:List e.den):As (st.freeze l fr e xs).heap l=none:=by
 simp only [St.freeze,St.Kr]
 exact Md _ _
theorem px {l:Nat} {B:Nat} {Sc:Nat->Prop} {fr:Bool} {k:Nat} (hA:Cr B Sc (Vr π l none) fr k):Cr B Sc π fr k:=by
 rcases hA with ⟨m,r,hm,hg⟩|h2
 ·by_cases fS:m=l
  ·subst fS;rw [Ft] at hm;cases hm
  ·rw [Fo π none fS] at hm
   exact .inl ⟨m,r,hm,hg⟩
 ·exact .inr h2
theorem Mm.let (h:Mm X w π H) {l:Nat} {fr:Bool} (vD:fr=true-> ∀r,π l=some r-> ∀b,r.Cm b->X.w0.heap.size<=b) {k:Nat} (hS:Cr X.w0.heap.size X.Sc (Vr π l none) fr k) (hk: ∃r,π l=some r/\r.Cm k):False:=by
 obtain ⟨r,hr,CO⟩:=hk
 rcases hS with ⟨m,r',hm,hg⟩|hS|⟨hf,hS⟩
 ·by_cases fS:m=l
  ·subst fS;rw [Ft] at hm;cases hm
  ·rw [Fo π none fS] at hm
   exact fS (h.apart hm hr hg CO)
 ·have h1:=h.sc k hS
  rcases (h.own ⟨l,r,hr,CO⟩).2 with h2|h2
  ·omega
  ·exact h1.2 h2
 ·have:=vD hf r hr k CO;omega
theorem Move.GH {l:Nat} {f:AC->AC} (hf: ∀c v,Gy X w π H c v->(∀k∈c.refs,k≠l)->f c=c)
  (hl: ∀c v,Gy X w π H c v->l∈c.refs->Gy X w (Vr π l none) H' (f c) v)
  (hH: ∀m,m≠l->As H' m=(As H m).map (OB.map f)):Move X w w π (Vr π l none) H H' f:=by
 have hc: ∀Uz τ cs x,Cells w (Cr X.w0.heap.size X.Sc π Uz) τ cs x->Cells w (Cr X.w0.heap.size X.Sc (Vr π l none) Uz) τ cs x:=
  fun Uz τ cs x hh=>Cells.Fw (Ar _) (λ_ _ _=>rfl) (λk _ hA=>px hA) τ cs x hh
 refine ⟨λc v CE=>?_,hc⟩
 by_cases UM:l∈c.refs
 ·exact hl c v CE UM
 ·rw [hf c v CE λk hk e=>UM (e▸hk)]
  cases c with
  |data Uz τ x=>obtain ⟨cs,h1,h2⟩:=CE;exact ⟨cs,hc _ _ _ _ h1,h2⟩
  |own k off len=>
   have Rl:k≠l:= λe=>UM (by simp [AC.refs,e])
   obtain ⟨b,sz,n,h1,h0,h2,h3⟩:=CE
   exact ⟨b.map f,sz,n,by rw [hH k Rl,h1];rfl,by cases b<;>exact h0,h2,by rw [Fo π none Rl];exact h3⟩
  |Gr k i=>
   have Rl:k≠l:= λe=>UM (by simp [AC.refs,e])
   obtain ⟨r,Tu,vs,h1,h2,h3⟩:=CE
   exact ⟨r,Tu,vs.map f,by rw [hH k Rl,h1];rfl,by rw [Fo π none Rl];exact h2,h3⟩
  |Jp k i=>
   have Rl:k≠l:= λe=>UM (by simp [AC.refs,e])
   obtain ⟨r,b,sz,n,h1,h0,h2,h3,h4⟩:=CE
   exact ⟨r,b.map f,sz,n,by rw [hH k Rl,h1];rfl,by cases b<;>exact h0,h2,by rw [Fo π none Rl];exact h3,h4⟩
  |sub k i c=>
   have Rl:k≠l:= λe=>UM (by simp [AC.refs,e])
   obtain ⟨r,b,sz,n,h1,h0,h2,h3⟩:=CE
   exact ⟨r,b.map f,sz,n,by rw [hH k Rl,h1];rfl,by cases b<;>exact h0,by rw [Fo π none Rl];exact h2,h3⟩
  |Jn k i c=>
   have Rl:k≠l:= λe=>UM (by simp [AC.refs,e])
   obtain ⟨r,b,n,sz,g,o,len,cap,h1,h0,h2,h3⟩:=CE
   exact ⟨r,b.map f,n,sz,g,o,len,cap,by rw [hH k Rl,h1];rfl,by cases b<;>exact h0,by rw [Fo π none Rl];exact h2,h3⟩
  |clo g Eb=>
   obtain ⟨us,h1,h2,h3⟩:=CE
   refine ⟨us,h1,h2,λj p hp=>?_⟩
   obtain ⟨r,tid,vs,h4,h5,h6⟩:=h3 j p hp
   have eS:p.1≠l:= λe=>UM (by simp only [AC.refs,Bo];exact ⟨p,Bz hp,e⟩)
   exact ⟨r,tid,vs.map f,by rw [hH _ eS,h4];rfl,by rw [Fo π none eS];exact h5,h6⟩
  |Ka k=>
   have Rl:k≠l:= λe=>UM (by simp [AC.refs,e])
   obtain ⟨r,vt,m,h1,h2,h3⟩:=CE
   exact ⟨r,vt,m,by rw [hH k Rl,h1];rfl,by rw [Fo π none Rl];exact h2,h3⟩
  |_=>exact CE
theorem fz {l:Nat} {ls:List Nat} (h: ∀k∈ls,k≠l):ls.contains l=false:=by
 cases hc:ls.contains l with
 |false=>rfl
 |true=>exact absurd rfl (h l (by simpa using hc))
theorem fQ {l:Nat} {fr:Bool} {e:Ty} {xs:List e.den} {c:AC} (h: ∀k∈c.refs,k≠l):Cq l fr e xs c=c:=by
 cases c<;>simp only [Cq]<;>first|rfl|skip
 case clo f Eb=>rw [Ai (by rw [fz (show ∀k∈Eb.map (·.1),k≠l from h)];simp)]
 all_goals rw [Ai (h _ (by simp [AC.refs]))]
theorem pN {l:Nat} {v:Ty} {m:ByteArray->Option v.den} {c:AC} (h: ∀k∈c.refs,k≠l):Gm l v m c=c:=by
 cases c<;>simp only [Gm]<;>first|rfl|skip
 case clo f Eb=>rw [Ai (by rw [fz (show ∀k∈Eb.map (·.1),k≠l from h)];simp)]
 all_goals rw [Ai (h _ (by simp [AC.refs]))]
theorem Move.freeze {l:Nat} {fr:Bool} {e:Ty} {xs:List e.den}
  (Adw: ∀off len v,Gy X w π H (.own l off len) v->Cells w (Cr X.w0.heap.size X.Sc (Vr π l none) fr) (.slice e) [v] ((xs.drop off).take len))
  (hH: ∀m,m≠l->As H' m=(As H m).map (OB.map (Cq l fr e xs))):Move X w w π (Vr π l none) H H' (Cq l fr e xs):=by
 refine Move.GH (λc v _ h=>fQ h) (λc v CE hr=>?_) hH
 cases c with
 |own k off len=>
  have:k=l:=(Ae.1 hr).symm
  subst this
  simp only [Cq,Ab]
  exact ⟨[v],Adw off len v CE,by simp [Bs,Ty.Ap]⟩
 |Gr k i=>have:k=l:=(Ae.1 hr).symm
          subst this;simp only [Cq,Ab];trivial
 |Jp k i=>have:k=l:=(Ae.1 hr).symm
          subst this;simp only [Cq,Ab];trivial
 |sub k i c=>have:k=l:=(Ae.1 hr).symm
             subst this;simp only [Cq,Ab];trivial
 |Jn k i c=>have:k=l:=(Ae.1 hr).symm
            subst this;simp only [Cq,Ab];trivial
 |Ka k=>have:k=l:=(Ae.1 hr).symm
        subst this;simp only [Cq,Ab];trivial
 |clo f Eb=>
  simp only [Cq]
  rw [Ab (by simpa [AC.refs] using hr)];trivial
 |_=>simp [AC.refs] at hr
theorem Bb.freeze {st:St} {a:Act} (h:Bb X π st a w) {l:Nat} {fr:Bool} {e:Ty} {xs:List e.den}
  (hl:(∃tr tid,As st.heap l=some (.arr fr tr e tid xs))\/(fr=false/\ ∃tid,As st.heap l=some (.Gg e tid xs))):
  Bb X (Vr π l none) (st.freeze l fr e xs) a w/\Move X w w π (Vr π l none) st.heap (st.freeze l fr e xs).heap (Cq l fr e xs):=by
 have m:Move X w w π (Vr π l none) st.heap (st.freeze l fr e xs).heap (Cq l fr e xs):=by
  refine Move.freeze (λoff len v hv=>?_) (λm hm=>St.Qx st l m fr e xs hm)
  rcases hl with ⟨tr,tid,hl⟩|⟨rfl,tid,hl⟩
  ·obtain ⟨h2,h3⟩:=Nx hv hl
   refine mN h.1 hl h2 h3 (λk hk=>?_) λk _ hk=>px hk
   intro ⟨r,hr,CO⟩
   have hb:=(h.1.heap l).Qq hl
   simp only [By,Jo,hr] at hb
   by_cases hkg:k=r.g
   ·subst hkg
    rcases hk with ⟨m,r',hm,hg⟩|hS|⟨hf,hS⟩
    ·by_cases fS:m=l
     ·subst fS;rw [Ft] at hm;cases hm
     ·rw [Fo π none fS] at hm
      exact fS (h.1.apart hm hr hg CO)
    ·have h1:=h.1.sc _ hS
     rcases (h.1.own ⟨l,r,hr,CO⟩).2 with h2|h2
     ·omega
     ·exact h1.2 h2
    ·have:=hb.1.2.2 hf;omega
   ·exact absurd (hb.1.2.1 k CO) hkg
  ·obtain ⟨h2,h3⟩:=aM hv hl
   exact kl h.1 hl h2 h3 λk hk hr=>h.1.let (λhf=>by cases hf) hk hr
 refine ⟨⟨h.1.drop l m (St.Lx st l fr e xs) λk e'=>St.Qx st l k fr e xs e',?_⟩,m⟩
 have hh:pa X w (Vr π l none) {tmps:=st.tmps.map (·.map (Cq l fr e xs)),heap:=(st.freeze l fr e xs).heap} a:=m.EE rfl h.2
 exact hh
theorem St.Qi (st:St) (l k:Nat) (v:Ty) (m:ByteArray->Option v.den) (h:k≠l):As (st.Hy l v m).heap k=(As st.heap k).map (OB.map (Gm l v m)):=by
 simp only [St.Hy,St.Kr]
 rw [Na _ _ _ h,Oe]
theorem St.Rz (st:St) (l:Nat) (v:Ty) (m:ByteArray->Option v.den):As (st.Hy l v m).heap l=none:=by
 simp only [St.Hy,St.Kr]
 exact Md _ _
theorem ux {r:Option Real} {v:Ty} {m:ByteArray->Option v.den} {g:Nat} {S:Nat->Prop} (h:MW w r v m) (hg:r.map (·.g)=some g) (hS: ¬S g):Cells w S (.smap v) [.map (some g)] m:=by
 obtain ⟨r',h0,h1,h2,h3⟩:=h
 rw [h0] at hg
 simp only [Ah,Aa] at hg
 subst hg
 simp only [Cells] at h3⊢
 rcases h3 with ⟨h3,_⟩|⟨g,h3,hg,_,es,clock,h4,h5,h6,h7⟩
 ·simp at h3
 ·simp only [Gd,Value.map.injEq,Aa,eY] at h3
  subst h3
  refine .inr ⟨r'.g,rfl,hg,hS,es,clock,h4,h5,h6,λs y hy=>?_⟩
  obtain ⟨u,h8,h9⟩:=h7 s y hy
  exact ⟨u,h8,Cells.flat v [u] y h2.1 h9⟩
theorem Bb.Hy {st:St} {a:Act} (h:Bb X π st a w) {l:Nat} {v:Ty} {m:ByteArray->Option v.den} (hl:As st.heap l=some (.Ul v m)):
  Bb X (Vr π l none) (st.Hy l v m) a w/\Move X w w π (Vr π l none) st.heap (st.Hy l v m).heap (Gm l v m):=by
 have mv:Move X w w π (Vr π l none) st.heap (st.Hy l v m).heap (Gm l v m):=by
  refine Move.GH (λc u _ h=>pN h) (λc u CE hr=>?_) (λk hk=>St.Qi st l k v m hk)
  cases c with
  |Ka k=>
   have:k=l:=(Ae.1 hr).symm
   subst this
   simp only [Gm,Ab]
   obtain ⟨r,vt,m',h1,h2,rfl⟩:=CE
   exact ⟨[_],ux ((h.1.heap k).Qq hl) (by rw [h2];rfl) λhS=>h.1.let (λhf=>by cases hf) hS ⟨r,h2,h.1.Cm h2⟩,by simp [Bs,Ty.Ap]⟩
  |own k off len=>have:k=l:=(Ae.1 hr).symm
                  subst this;simp only [Gm,Ab];trivial
  |Gr k i=>have:k=l:=(Ae.1 hr).symm
           subst this;simp only [Gm,Ab];trivial
  |Jp k i=>have:k=l:=(Ae.1 hr).symm
           subst this;simp only [Gm,Ab];trivial
  |sub k i c=>have:k=l:=(Ae.1 hr).symm
              subst this;simp only [Gm,Ab];trivial
  |Jn k i c=>have:k=l:=(Ae.1 hr).symm
             subst this;simp only [Gm,Ab];trivial
  |clo f Eb=>
   simp only [Gm]
   rw [Ab (by simpa [AC.refs] using hr)];trivial
  |_=>simp [AC.refs] at hr
 refine ⟨⟨h.1.drop l mv (St.Rz st l v m) λk e'=>St.Qi st l k v m e',?_⟩,mv⟩
 have hh:pa X w (Vr π l none) {tmps:=st.tmps.map (·.map (Gm l v m)),heap:=(st.Hy l v m).heap} a:=mv.EE rfl h.2
 exact hh
def OB.fits:OB->OB->Prop
 | .arr _ _ e _ xs, .arr _ _ e' _ xs'=>e=e'/\xs.length<=xs'.length
 | .var _ _, .var _ _=>True
 | .Ul _ _, .Ul _ _=>True
 |_,_=>False
theorem Move.XY {tc:Nat->Prop} {π':Pi} (hs:w.heap.size<=w'.heap.size)
  (hk: ∀k,k<w.heap.size->(∀l r,tc l->π l=some r-> ¬r.Cm k)->w'.heap[k]?=w.heap[k]?)
  (hO: ∀b,b<w.heap.size->Un π' b->Un π b)
  (hH: ∀m,¬tc m->As H' m=As H m/\π' m=π m) (WM: ∀m,tc m->ae (π m) (π' m)/\ ∀b0,As H m=some b0-> ∃b,As H' m=some b/\b0.fits b)
  (hx: ∀m r,¬tc m->π m=some r->(∃b,As H m=some b/\b.ez≠none)->r.g<w.heap.size->w'.heap[r.g]?=w.heap[r.g]?):Move X w w' π π' H H' (λc=>c):=by
 have hc: ∀fr τ cs x,Cells w (Cr X.w0.heap.size X.Sc π fr) τ cs x->Cells w' (Cr X.w0.heap.size X.Sc π' fr) τ cs x:=by
  intro fr τ cs x h
  exact Cells.Fw hs (λk pW hn=>hk k pW λl r _ h0 h1=>hn (.inl ⟨l,r,h0,h1⟩)) (λk Jx hA=>hA.imp (hO k Jx) id) τ cs x h
 have same: ∀m r,π m=some r-> ∃r',π' m=some r'/\r.g=r'.g/\r.o=r'.o/\r.cap=r'.cap:=by
  intro m r hm
  by_cases ht:tc m
  ·have:=(WM m ht).1
   rw [hm] at this
   cases hp:π' m with
   |none=>rw [hp] at this;exact this.elim
   |some r'=>rw [hp] at this;exact ⟨r',rfl,this.1,this.2.1,this.2.2.1⟩
  ·exact ⟨r,by rw [(hH m ht).2];exact hm,rfl,rfl,rfl⟩
 have fit: ∀m b,As H m=some b-> ∃b',As H' m=some b'/\(b'=b\/b.fits b'):=by
  intro m b hm
  by_cases ht:tc m
  ·obtain ⟨b',h1,h2⟩:=(WM m ht).2 b hm;exact ⟨b',h1, .inr h2⟩
  ·exact ⟨b,by rw [(hH m ht).1];exact hm, .inl rfl⟩
 refine ⟨λc v h=>?_,hc⟩
 cases c with
 |data fr τ x=>obtain ⟨cs,h1,h2⟩:=h;exact ⟨cs,hc _ _ _ _ h1,h2⟩
 |own k off len=>
  obtain ⟨b,sz,n,h1,h0,h2,h3⟩:=h
  have rJ:Hf (π' k) sz off len v:=by
   cases hp:π k with
   |none=>
    rw [hp] at h3
    have:π' k=none:=by
     by_cases ht:tc k
     ·have:=(WM k ht).1
      rw [hp] at this
      cases GV:π' k with
      |none=>rfl
      |some r'=>rw [GV] at this;exact this.elim
     ·rw [(hH k ht).2];exact hp
    rw [this];exact h3
   |some r=>
    rw [hp] at h3
    obtain ⟨r',h4,h5,h6,h7⟩:=same k r hp
    rw [h4]
    unfold Hf at h3⊢
    simp only at h3⊢
    rw [<-h5,<-h6,<-h7]
    exact h3
  obtain ⟨b',h4,h5⟩:=fit k b h1
  rcases h5 with rfl|h5
  ·exact ⟨_,sz,n,h4,h0,h2,rJ⟩
  ·cases b<;>cases b'<;>first|exact h5.elim|(simp [OB.row] at h0;done)|skip
   ·obtain ⟨rfl,hlen⟩:=h5
    simp only [OB.row,Aa,Ad] at h0
    obtain ⟨rfl,rfl⟩:=h0
    exact ⟨_,_,_,h4,rfl,by omega,rJ⟩
 |Gr k i=>
  obtain ⟨r,tid,vs,h1,h2,h3⟩:=h
  obtain ⟨r',h4,h5,_⟩:=same k r h2
  obtain ⟨b',h6,h7⟩:=fit k _ h1
  rcases h7 with rfl|h7
  ·exact ⟨r',tid,vs,h6,h4,by rw [<-h5];exact h3⟩
  ·cases b'<;>first|exact h7.elim|exact ⟨r',_,_,h6,h4,by rw [<-h5];exact h3⟩
 |Jp k i=>
  obtain ⟨r,b,sz,n,h1,h0,h2,h3,h4⟩:=h
  obtain ⟨r',h5,h6,h7,_⟩:=same k r h3
  obtain ⟨b',h8,h9⟩:=fit k _ h1
  rcases h9 with rfl|h9
  ·exact ⟨r',_,sz,n,h8,h0,h2,h5,by rw [<-h6,<-h7];exact h4⟩
  ·cases b<;>cases b'<;>first|exact h9.elim|(simp [OB.row] at h0;done)|skip
   obtain ⟨rfl,hlen⟩:=h9
   simp only [OB.row,Aa,Ad] at h0
   obtain ⟨rfl,rfl⟩:=h0
   exact ⟨r',_,_,_,h8,rfl,by omega,h5,by rw [<-h6,<-h7];exact h4⟩
 |sub k i c=>
  obtain ⟨r,b,sz,n,h1,h0,h2,h3,h4,h5⟩:=h
  by_cases ht:tc k
  ·obtain ⟨b',h6,h7⟩:=(WM k ht).2 _ h1
   cases b<;>first|(cases h0;done)|skip
   all_goals (cases b'<;>exact h7.elim)
  ·exact ⟨r,b,sz,n,by rw [(hH k ht).1];exact h1,h0,by rw [(hH k ht).2];exact h2,h3,h4,by rw [World.cell?_of_block (hx k r ht h2 ⟨b,h1,by rw [h0];simp⟩ (bd h5))];exact h5⟩
 |Jn k i c=>
  obtain ⟨r,b,n,sz,g,o,len,cap,h1,h0,h2,h3,h4,h5,h6⟩:=h
  by_cases ht:tc k
  ·obtain ⟨b',h6,h7⟩:=(WM k ht).2 _ h1
   cases b<;>first|(cases h0;done)|skip
   all_goals (cases b'<;>exact h7.elim)
  ·exact ⟨r,b,n,sz,g,o,len,cap,by rw [(hH k ht).1];exact h1,h0,by rw [(hH k ht).2];exact h2,h3,h4,by rw [World.cell?_of_block (hx k r ht h2 ⟨b,h1,by cases b<;>first|(cases h0;done)|simp [OB.ez]⟩ (bd h5))];exact h5,h6⟩
 |clo f Eb=>
  obtain ⟨us,h1,h2,h3⟩:=h
  refine ⟨us,h1,h2,λj p hp=>?_⟩
  obtain ⟨r,tid,vs,h4,h5,h6⟩:=h3 j p hp
  obtain ⟨r',h7,h8,_⟩:=same _ r h5
  obtain ⟨b',h9,oQ⟩:=fit _ _ h4
  rcases oQ with rfl|oQ
  ·exact ⟨r',tid,vs,h9,h7,by rw [<-h8];exact h6⟩
  ·cases b'<;>first|exact oQ.elim|exact ⟨r',_,_,h9,h7,by rw [<-h8];exact h6⟩
 |Ka k=>
  obtain ⟨r,vt,m,h1,h2,h3⟩:=h
  obtain ⟨r',h4,h5,_⟩:=same k r h2
  obtain ⟨b',h6,h7⟩:=fit k _ h1
  rcases h7 with rfl|h7
  ·exact ⟨r',vt,m,h6,h4,by rw [<-h5];exact h3⟩
  ·cases b'<;>first|exact h7.elim|exact ⟨r',_,_,h6,h4,by rw [<-h5];exact h3⟩
 |_=>exact h
def Real.plus (r:Real) (N:List Nat):Real:= {r with cl:= λc=>r.cl c\/c∈N}
theorem Bb.Ajy {st:St} {a:Act} (h:Bb X π st a w) {l:Nat} {b0 b:OB} (hl:As st.heap l=some b0) (hf:b0.fits b) {r:Real} (hr:π l=some r) {N:List Nat}
  (hN: ∀c∈N,(X.w0.heap.size<=c\/X.gv c)/\c<w.heap.size/\ ∀m r0,m≠l->π m=some r0-> ¬r0.cl c) (hg:w.grownBy w' (some r.g))
  (hb:Move X w w' π (Vr π l (some (r.plus N))) st.heap (st.Jm l b).heap (λc=>c)->By X w' (Vr π l (some (r.plus N))) (st.Jm l b).heap (some (r.plus N)) b):Bb X (Vr π l (some (r.plus N))) (st.Jm l b) a w':=by
 have hk: ∀k,k<w.heap.size-> ¬r.Cm k->w'.heap[k]?=w.heap[k]?:= λk hk hn=>hg.block k hk (by
  intro e
  simp only [Aa] at e
  exact hn (e▸h.1.Cm hr))
 have sf: ∀k q,Vr π l (some (r.plus N)) k=some q-> ∃q0,π k=some q0/\(q=q0\/(k=l/\q0=r/\q=r.plus N)):= λk q hq=>by
  by_cases e:k=l
  ·subst e;rw [Ft] at hq;exact ⟨r,hr, .inr ⟨rfl,rfl,(Aw hq).symm⟩⟩
  ·rw [Fo π _ e] at hq;exact ⟨q,hq, .inl rfl⟩
 have cl': ∀k q q0 c,(q=q0\/(k=l/\q0=r/\q=r.plus N))->q.cl c->q0.cl c\/(k=l/\c∈N):= λk q q0 c h1 h2=>by
  rcases h1 with rfl|⟨rfl,rfl,rfl⟩
  ·exact .inl h2
  ·rcases h2 with h2|h2
   ·exact .inl h2
   ·exact .inr ⟨rfl,h2⟩
 have ft: ∀k q q0 c,(q=q0\/(k=l/\q0=r/\q=r.plus N))->(q.Cm c↔q0.Cm c):= λk q q0 c h1=>by
  rcases h1 with rfl|⟨rfl,rfl,rfl⟩<;>exact Iff.rfl
 have m:Move X w w' π (Vr π l (some (r.plus N))) st.heap (st.Jm l b).heap (λc=>c):=Move.XY (tc:= λk=>k=l) hg.size (λk Jx hn=>hk k Jx (hn l r rfl hr)) (λc _ ⟨k,q,h1,h2⟩=>by
   obtain ⟨q0,h3,h4⟩:=sf k q h1
   exact ⟨k,q0,h3,(ft k q q0 c h4).1 h2⟩)
  (λm hm=>⟨Dv _ _ _ _ hm,Fo π _ hm⟩) (λm hm=>by subst hm;exact ⟨by rw [hr,Ft];exact ⟨rfl,rfl,rfl,λ_=>Iff.rfl⟩,λb1 h1=>by rw [hl] at h1;cases h1;exact ⟨b,Ej _ _ _ _ hl,hf⟩⟩)
  (λm r' hm h1 _ Jx=>hk _ Jx λh3=>hm (h.1.apart h1 hr (h.1.Cm h1) h3))
 refine ⟨⟨?_,h.1.sc,λk q c h1 h2=>?_,λk q c h1 h2=>?_,λk k' q q' c h1 h2 h3 h4=>?_,λk hp Is=>?_,λk=>?_⟩,?_⟩
 ·exact h.1.below.grown hg h.1.below.size λk hk=>by cases hk;exact (h.1.lt hr).2
 ·obtain ⟨q0,h3,h4⟩:=sf k q h1
  have:=h.1.sub k q0 c h3 ((ft k q q0 c h4).1 h2)
  rcases h4 with rfl|⟨rfl,rfl,rfl⟩
  ·exact this
  ·exact .inl this
 ·obtain ⟨q0,h3,h4⟩:=sf k q h1
  rcases cl' k q q0 c h4 h2 with h5|⟨_,h5⟩
  ·exact ⟨(h.1.place k q0 c h3 h5).1,Ec (h.1.place k q0 c h3 h5).2 hg.size⟩
  ·exact ⟨(hN c h5).1,Ec (hN c h5).2.1 hg.size⟩
 ·obtain ⟨q0,g1,g2⟩:=sf k q h1
  obtain ⟨q0',g3,g4⟩:=sf k' q' h2
  rcases cl' k q q0 c g2 h3 with h5|⟨h5,h6⟩<;>rcases cl' k' q' q0' c g4 h4 with h7|⟨h7,h8⟩
  ·exact h.1.inj k k' q0 q0' c g1 g3 h5 h7
  ·refine Cd λhn=>(hN c h8).2.2 k q0 (λe=>hn (e.trans h7.symm)) g1 h5
  ·refine Cd λhn=>(hN c h6).2.2 k' q0' (λe=>hn (h5.trans e.symm)) g3 h7
  ·rw [h5,h7]
 ·by_cases e:k=l
  ·subst e
   have:=h.1.fb k hp (by rw [hl];simp)
   rw [hr] at this
   rw [Ft]
   cases hx:X.fb k with
   |none=>rw [hx] at this;exact this.elim
   |some q=>rw [hx] at this;exact this
  ·rw [Fo π _ e]
   exact h.1.fb k hp λh0=>Is (by rw [show As (st.Jm l b).heap k=As st.heap k from Dv _ _ _ _ e];exact h0)
 ·by_cases e:k=l
  ·subst e
   exact Fl.Lg (by rw [Ft];exact hb m) (Ej _ _ _ _ hl)
  ·have hn:As (st.Jm l b).heap k=As st.heap k:=Dv _ _ _ _ e
   have ho:=h.1.heap k
   cases l4:As st.heap k with
   |none=>rw [l4] at hn;exact Fl.Tg (by rw [Fo π _ e];exact ho.emp l4) hn
   |some c=>
    rw [l4] at hn
    refine Fl.Lg ?_ hn
    rw [Fo π _ e]
    have:=(ho.Qq l4).move m hg.size (λr0 c h0 h1=>h.1.sub _ r0 c h0 h1) λr0 c h0 h1 Jx=>hk _ Jx λh3=>e (h.1.inj _ _ r0 r c h0 hr h1 (h.1.sub _ _ _ hr h3))
    cases c with
    |var tid vs=>simpa [OB.map] using this
    |_=>exact this
 ·exact ⟨h.2.size,h.2.defers,λt=>by have:=m.av (h.2.tmps t);rwa [AC.map_id] at this⟩
theorem Bb.set {st:St} {a:Act} (h:Bb X π st a w) {l:Nat} {b0 b:OB} (hl:As st.heap l=some b0) (hf:b0.fits b)
  (hg:w.grownBy w' ((π l).map (·.g)))
  (hb:Move X w w' π π st.heap (st.Jm l b).heap (λc=>c)->By X w' π (st.Jm l b).heap (π l) b):Bb X π (st.Jm l b) a w':=by
 have hk: ∀k,k<w.heap.size->(∀r,π l=some r-> ¬r.Cm k)->w'.heap[k]?=w.heap[k]?:= λk hk hn=>hg.block k hk (by
  intro e
  cases hp:π l with
  |none=>rw [hp] at e;cases e
  |some r=>rw [hp] at e;simp only [Ah,Aa] at e;exact hn r hp (e▸h.1.Cm hp))
 have m:Move X w w' π π st.heap (st.Jm l b).heap (λc=>c):=Move.XY (tc:= λk=>k=l) hg.size (λk Jx hn=>hk k Jx λr hr=>hn l r rfl hr) (λ_ _ h=>h)
  (λm hm=>⟨Dv _ _ _ _ hm,rfl⟩) (λm hm=>by subst hm;exact ⟨ae.rfl' _,λb1 h1=>by rw [hl] at h1;cases h1;exact ⟨b,Ej _ _ _ _ hl,hf⟩⟩)
  (λm r hm h1 _ Jx=>hk _ Jx λr1 h2 h3=>hm (h.1.apart h1 h2 (h.1.Cm h1) h3))
 refine ⟨⟨?_,h.1.sc,h.1.sub,λk r c h1 h2=>⟨(h.1.place k r c h1 h2).1,Ec (h.1.place k r c h1 h2).2 hg.size⟩,h.1.inj,λk hp Is=>h.1.fb k hp λh0=>Is ?_,λk=>?_⟩,?_⟩
 ·refine h.1.below.grown hg h.1.below.size λk hk=>?_
  cases hp:π l with
  |none=>rw [hp] at hk;cases hk
  |some r=>rw [hp] at hk;simp only [Ah,Aa] at hk;rw [<-hk];exact (h.1.lt hp).2
 ·have:k≠l:= λe=>by subst e;rw [hl] at h0;cases h0
  rw [show As (st.Jm l b).heap k=As st.heap k from Dv _ _ _ _ this];exact h0
 ·by_cases e:k=l
  ·subst e
   exact Fl.Lg (hb m) (Ej _ _ _ _ hl)
  ·have hn:As (st.Jm l b).heap k=As st.heap k:=Dv _ _ _ _ e
   have ho:=h.1.heap k
   cases l4:As st.heap k with
   |none=>rw [l4] at hn;exact Fl.Tg (ho.emp l4) hn
   |some c=>
    rw [l4] at hn
    refine Fl.Lg ?_ hn
    have:=(ho.Qq l4).move m hg.size (λr0 c h0 h1=>h.1.sub _ r0 c h0 h1) λr0 c h0 h1 Jx=>hk _ Jx λr1 h2 h3=>e (h.1.inj _ _ r0 r1 c h0 h2 h1 (h.1.sub _ _ _ h2 h3))
    cases c with
    |var tid vs=>simpa [OB.map] using this
    |_=>exact this
 ·exact ⟨h.2.size,h.2.defers,λt=>by have:=m.av (h.2.tmps t);rwa [AC.map_id] at this⟩
end
end Go.Proofs.Ytkkdpknjohcekaa
