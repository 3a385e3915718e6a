/-
  Part 5 of the proof that the statement FnTables holds.
-/
import Derived.Test.YtkkdpknjohcekaaCFTables03
namespace Go.Proofs.Ytkkdpknjohcekaa
open Go.RowKit
def Vh (π:Pi) (l:Nat) (r:Option Real):Pi:= λk=>if k=l then r else π k
theorem Ga (π:Pi) (l:Nat) (r:Option Real):Vh π l r l=r:=by simp [Vh]
theorem Fv (π:Pi) {l m:Nat} (r:Option Real) (h:m≠l):Vh π l r m=π m:=by simp [Vh,h]
section
variable {X:Ctx} {w w':World} {π:Pi} {H H':List (Nat×OB)}
def Bw (X:Ctx) (w:World) (π:Pi) (H:List (Nat×OB)) (r:Option Real):OB->Prop
 | .arr fr tr e tid xs=>Jj X w π r fr tr e tid xs
 | .Gl e tid xs=>Na w r e tid xs
 | .var tid vs=>WZ X w π H r tid vs
 | .Bm e _ rows out kp=>ff X w π r e rows out kp
 | .Ub v m=>NY w r v m
theorem Fq.Qi {l:Nat} {b:OB} (h:Fq X w π H l) (hb:Aq H l=some b):Bw X w π H (π l) b:=by
 unfold Fq at h
 rw [hb] at h
 cases b<;>exact h
theorem Fq.La {l:Nat} {b:OB} (h:Bw X w π H (π l) b) (hb:Aq H l=some b):Fq X w π H l:=by
 unfold Fq
 rw [hb]
 cases b<;>exact h
theorem Fq.Sr {l:Nat} (h:π l=none) (hb:Aq H l=none):Fq X w π H l:=by
 unfold Fq;rw [hb];exact h
theorem Fq.emp {l:Nat} (h:Fq X w π H l) (hb:Aq H l=none):π l=none:=by
 unfold Fq at h;rw [hb] at h;exact h
theorem Bw.move {f:AC->AC} {π':Pi} (m:Move X w w' π π' H H' f) {r:Option Real} {b:OB} (h:Bw X w π H r b) (hs:w.heap.size<=w'.heap.size)
  (fX: ∀r' c,r=some r'->r'.Ci c->r'.cl c) (hk: ∀r' c,r=some r'->r'.cl c->c<w.heap.size->w'.heap[c]?=w.heap[c]?):
  Bw X w' π' H' r (b.map f):=by
 cases b with
 |arr fr tr e tid xs=>
  simp only [Bw,Jj,OB.map] at h⊢
  cases hr:r with
  |none=>rw [hr] at h;exact h
  |some r=>
   rw [hr] at h
   obtain ⟨h1,cur,ti,h2,h3,h4,h5,h6,h7⟩:=h
   refine ⟨h1,cur,ti,(hk r _ hr (fX r _ hr h1.1) (Ft h2)).trans h2,h3,h4,h5,λi x hx=>?_,λht=>(h7 ht).Gg hs (λc _ Js hc=>hk r c hr hc Js) λ_ hb=>hb⟩
   obtain ⟨es,he,hj,hc⟩:=h6 i x hx
   exact ⟨es,he,hj,m.cells _ _ _ _ hc⟩
 |Gl e tid xs=>
  simp only [Bw,Na,OB.map] at h⊢
  cases hr:r with
  |none=>rw [hr] at h;exact h
  |some r=>
   rw [hr] at h
   obtain ⟨h1,cur,ti,h2,h3,h4,h5,h7⟩:=h
   exact ⟨h1,cur,ti,(hk r _ hr (fX r _ hr h1) (Ft h2)).trans h2,h3,h4,h5,h7.Gg hs (λc _ Js hc=>hk r c hr (fX r c hr hc) Js) λ_ hb=>hb⟩
 |var tid vs=>
  obtain ⟨r',h0,h1,cur,h2,h3⟩:=h
  exact ⟨r',h0,h1,cur,(hk r' _ h0 (fX r' _ h0 h1) (Ft h2)).trans h2,m.TW h3⟩
 |Bm e te rows out kp=>exact ff.Gg h (λq b hq hf Js=>hk q b hq (fX q b hq hf) Js) (λes x=>m.cells false e es x)
 |Ub v g=>
  obtain ⟨r',h0,h1,h2,h3⟩:=h
  refine ⟨r',h0,h1,h2,?_⟩
  simp only [Cells] at h3⊢
  rcases h3 with ⟨h3,_⟩|⟨g,h3,hg,_,es,clock,h4,h5,h6,h7⟩
  ·simp at h3
  ·simp only [Gi,Value.map.injEq,Aa,eZ] at h3
   subst h3
   refine .inr ⟨r'.g,rfl,by omega,λh=>h,es,clock,(hk r' _ h0 (fX r' _ h0 h1) hg).trans h4,h5,h6,λs y hy=>?_⟩
   obtain ⟨u,h8,h9⟩:=h7 s y hy
   exact ⟨u,h8,Cells.flat v [u] y h2.1 h9⟩
theorem Move.forget {l:Nat} {r':Option Real} (hs:w.heap.size<=w'.heap.size)
  (hk: ∀k,k<w.heap.size->(∀r,π l=some r-> ¬r.Ci k)->w'.heap[k]?=w.heap[k]?)
  (hr: ∀r b,r'=some r->r.Ci b->(∃r0,π l=some r0/\r0.Ci b)\/w.heap.size<=b)
  (hH: ∀m,m≠l->Aq H' m=(Aq H m).map (OB.map (Cb l)))
  (hx: ∀m r,m≠l->π m=some r->(∃b,Aq H m=some b/\b.eu≠none)->r.g<w.heap.size->w'.heap[r.g]?=w.heap[r.g]?):Move X w w' π (Vh π l r') H H' (Cb l):=by
 have hc: ∀fr τ cs x,Cells w (Cp X.w0.heap.size X.Sc π fr) τ cs x->Cells w' (Cp X.w0.heap.size X.Sc (Vh π l r') fr) τ cs x:=by
  intro fr τ cs x h
  refine Cells.Gg hs (λk qs hn=>hk k qs λr h0 h1=>hn (.inl ⟨l,r,h0,h1⟩)) (λk qs hA=>?_) τ cs x h
  rcases hA with ⟨m,r,hm,hg⟩|h2
  ·by_cases fT:m=l
   ·subst fT
    rw [Ga] at hm
    rcases hr r k hm hg with ⟨r0,h0,h1⟩|h1
    ·exact .inl ⟨m,r0,h0,h1⟩
    ·omega
   ·rw [Fv π r' fT] at hm
    exact .inl ⟨m,r,hm,hg⟩
  ·exact .inr h2
 refine ⟨λc v h=>?_,hc⟩
 cases c with
 |data fr τ x=>obtain ⟨cs,h1,h2⟩:=h;exact ⟨cs,hc _ _ _ _ h1,h2⟩
 |own k off len=>
  simp only [Cb]
  split
  ·trivial
  ·rename_i Ra
   obtain ⟨b,sz,n,h1,h0,h2,h3⟩:=h
   exact ⟨b.map (Cb l),sz,n,by rw [hH k Ra,h1];rfl,by cases b<;>exact h0,h2,by rw [Fv π r' Ra];exact h3⟩
 |Gs k i=>
  simp only [Cb]
  split
  ·trivial
  ·rename_i Ra
   obtain ⟨r,tid,vs,h1,h2,h3⟩:=h
   exact ⟨r,tid,vs.map (Cb l),by rw [hH k Ra,h1];rfl,by rw [Fv π r' Ra];exact h2,h3⟩
 |Jl k i=>
  simp only [Cb]
  split
  ·trivial
  ·rename_i Ra
   obtain ⟨r,b,sz,n,h1,h0,h2,h3,h4⟩:=h
   exact ⟨r,b.map (Cb l),sz,n,by rw [hH k Ra,h1];rfl,by cases b<;>exact h0,h2,by rw [Fv π r' Ra];exact h3,h4⟩
 |sub k i c=>
  simp only [Cb]
  split
  ·trivial
  ·rename_i Ra
   obtain ⟨r,b,sz,n,h1,h0,h2,h3,h4,h5⟩:=h
   exact ⟨r,b.map (Cb l),sz,n,by rw [hH k Ra,h1];rfl,by cases b<;>exact h0,by rw [Fv π r' Ra];exact h2,h3,h4,by rw [World.cell?_of_block (hx k r Ra h2 ⟨b,h1,by rw [h0];simp⟩ (aS h5))];exact h5⟩
 |Ji k i c=>
  simp only [Cb]
  split
  ·trivial
  ·rename_i Ra
   obtain ⟨r,b,n,sz,g,o,len,cap,h1,h0,h2,h3,h4,h5,h6⟩:=h
   exact ⟨r,b.map (Cb l),n,sz,g,o,len,cap,by rw [hH k Ra,h1];rfl,by cases b<;>exact h0,by rw [Fv π r' Ra];exact h2,h3,h4,by rw [World.cell?_of_block (hx k r Ra h2 ⟨b,h1,by cases b<;>first|(cases h0;done)|simp [OB.eu]⟩ (aS h5))];exact h5,h6⟩
 |clo f Dy=>
  simp only [Cb]
  split
  ·trivial
  ·rename_i Ra
   obtain ⟨us,h1,h2,h3⟩:=h
   refine ⟨us,h1,h2,λj p hp=>?_⟩
   obtain ⟨r,tid,vs,h4,h5,h6⟩:=h3 j p hp
   have dh:p.1≠l:= λe=>Ra (by simp only [Jb,Bo];exact ⟨p,Bx hp,e⟩)
   exact ⟨r,tid,vs.map (Cb l),by rw [hH _ dh,h4];rfl,by rw [Fv π r' dh];exact h5,h6⟩
 |Jw k=>
  simp only [Cb]
  split
  ·trivial
  ·rename_i Ra
   obtain ⟨r,vt,m,h1,h2,h3⟩:=h
   exact ⟨r,vt,m,by rw [hH k Ra,h1];rfl,by rw [Fv π r' Ra];exact h2,h3⟩
 |_=>exact h
theorem St.Xr (st:St) (l m:Nat) (b:OB) (h:m≠l):Aq (st.new l b).heap m=(Aq st.heap m).map (OB.map (Cb l)):=by
 simp only [St.new,St.forget,St.Kh]
 rw [Oi _ _ _ _ h,Mu _ _ _ h,Nr]
theorem St.Gm (st:St) (l:Nat) (b:OB):Aq (st.new l b).heap l=some b:=by
 simp only [St.new,St.forget,St.Kh]
 exact Po _ _ _ (Ls _ _)
theorem St.fO (st:St) (l m:Nat) (h:m≠l):Aq (st.forget l).heap m=(Aq st.heap m).map (OB.map (Cb l)):=by
 simp only [St.forget,St.Kh]
 rw [Mu _ _ _ h,Nr]
theorem St.mo (st:St) (l:Nat):Aq (st.forget l).heap l=none:=by
 simp only [St.forget,St.Kh]
 exact Ls _ _
theorem Bd.gH {st:St} {a:Act} (h:Bd X π st a w) (l:Nat) (hl:l<Bf) (r':Option Real) (b:OB)
  (hg:w.grownBy w' ((π l).map (·.g)))
  (hf: ∀r b,r'=some r->r.Ci b->r.cl b/\((∃r0,π l=some r0/\r0.Ci b)\/w.heap.size<=b))
  (hr: ∀r b,r'=some r->r.cl b->(X.w0.heap.size<=b\/X.gv b)/\b<w'.heap.size/\ ∀m r0,m≠l->π m=some r0-> ¬r0.cl b)
  (hb:Move X w w' π (Vh π l r') st.heap (st.new l b).heap (Cb l)->Bw X w' (Vh π l r') (st.new l b).heap r' b):Bd X (Vh π l r') (st.new l b) a w':=by
 have hk: ∀k,k<w.heap.size->(∀r,π l=some r-> ¬r.Ci k)->w'.heap[k]?=w.heap[k]?:= λk hk hn=>hg.block k hk (by
  intro e
  cases hp:π l with
  |none=>rw [hp] at e;cases e
  |some r=>rw [hp] at e;simp only [Ai,Aa] at e;exact hn r hp (e▸h.1.Ci hp))
 have m:Move X w w' π (Vh π l r') st.heap (st.new l b).heap (Cb l):=Move.forget hg.size hk (λr c h1 h2=>(hf r c h1 h2).2) (λm hm=>St.Xr st l m b hm)
  (λm r hm h1 _ Js=>hk _ Js λr1 h2 h3=>hm (h.1.apart h1 h2 (h.1.Ci h1) h3))
 refine ⟨⟨?_,h.1.sc,?_,?_,?_,?_,λk=>?_⟩,?_⟩
 ·refine h.1.below.grown hg h.1.below.size λk hk=>?_
  cases hp:π l with
  |none=>rw [hp] at hk;cases hk
  |some r=>rw [hp] at hk;simp only [Ai,Aa] at hk;rw [<-hk];exact (h.1.lt hp).2
 ·intro k r c h1 h2
  by_cases e1:k=l
  ·subst e1;rw [Ga] at h1;exact (hf r c h1 h2).1
  ·rw [Fv π r' e1] at h1;exact h.1.sub k r c h1 h2
 ·intro k r c h1 h2
  by_cases e1:k=l
  ·subst e1;rw [Ga] at h1;have:=hr r c h1 h2;exact ⟨this.1,this.2.1⟩
  ·rw [Fv π r' e1] at h1;have:=h.1.place k r c h1 h2;exact ⟨this.1,Dz this.2 hg.size⟩
 ·intro l1 l2 r1 r2 c h1 h2 h3 h4
  by_cases e1:l1=l<;>by_cases e2:l2=l
  ·rw [e1,e2]
  ·subst e1
   rw [Ga] at h1;rw [Fv π r' e2] at h2
   exact absurd h4 ((hr r1 c h1 h3).2.2 l2 r2 e2 h2)
  ·subst e2
   rw [Ga] at h2;rw [Fv π r' e1] at h1
   exact absurd h3 ((hr r2 c h2 h4).2.2 l1 r1 e1 h1)
  ·rw [Fv π r' e1] at h1;rw [Fv π r' e2] at h2
   exact h.1.inj _ _ r1 r2 c h1 h2 h3 h4
 ·intro k VG Jg
  have e:k≠l:= λe=>by subst e;omega
  rw [St.Xr st l k b e] at Jg
  rw [Fv π r' e]
  exact h.1.fb k VG λh0=>Jg (by rw [h0];rfl)
 ·by_cases e:k=l
  ·subst e
   exact Fq.La (by rw [Ga];exact hb m) (St.Gm st k b)
  ·have hn:=St.Xr st l k b e
   have ho:=h.1.heap k
   cases lh:Aq st.heap k with
   |none=>rw [lh] at hn;exact Fq.Sr (by rw [Fv π r' e];exact ho.emp lh) hn
   |some c=>
    rw [lh] at hn
    refine Fq.La ?_ hn
    rw [Fv π r' e]
    exact (ho.Qi lh).move m hg.size (λr0 c h0 h1=>h.1.sub _ r0 c h0 h1) λr0 c h0 h1 Js=>hk _ Js λr1 h2 h3=>e (h.1.inj _ _ r0 r1 c h0 h2 h1 (h.1.sub _ _ _ h2 h3))
 ·have hh:pA X w' (Vh π l r') {tmps:=st.tmps.map (·.map (Cb l)),heap:=(st.new l b).heap} a:=m.ET rfl h.2
  exact hh
def Real.one (g o cap:Nat):Real:=⟨g,o,cap,λb=>b=g,λb=>b=g⟩
theorem Bd.replace {st:St} {a:Act} (h:Bd X π st a w) (l:Nat) (hl:l<Bf) (r':Option Real) (b:OB)
  (hg:w.grownBy w' ((π l).map (·.g)))
  (hr: ∀r,r'=some r->r=Real.one r.g r.o r.cap/\((∃r0,π l=some r0/\r0.g=r.g)\/w.heap.size<=r.g)/\r.g<w'.heap.size)
  (hb:Move X w w' π (Vh π l r') st.heap (st.new l b).heap (Cb l)->Bw X w' (Vh π l r') (st.new l b).heap r' b):Bd X (Vh π l r') (st.new l b) a w':=by
 refine h.gH l hl r' b hg (λr c h1 h2=>?_) (λr c h1 h2=>?_) hb
 ·obtain ⟨h3,h4,_⟩:=hr r h1
  have TY:c=r.g:=by rw [h3] at h2;exact h2
  subst TY
  refine ⟨by rw [h3];rfl,h4.imp (λ⟨r0,h5,h6⟩=>⟨r0,h5,h6▸h.1.Ci h5⟩) id⟩
 ·obtain ⟨h3,h4,h5⟩:=hr r h1
  have TY:c=r.g:=by rw [h3] at h2;exact h2
  subst TY
  refine ⟨?_,h5,λm r0 hm h6 h7=>?_⟩
  ·rcases h4 with ⟨r0,h6,h7⟩|h6
   ·rw [<-h7];exact (h.1.lt h6).2
   ·exact .inl (Qu h.1.below.size h6)
  ·rcases h4 with ⟨r1,h8,h9⟩|h8
   ·exact hm (h.1.inj m l r0 r1 r.g h6 h8 h7 (h9▸h.1.sub l r1 _ h8 (h.1.Ci h8)))
   ·have:=(h.1.place m r0 _ h6 h7).2;omega
theorem Mh.drop (h:Mh X w π H) {f:AC->AC} (l:Nat) (m:Move X w w π (Vh π l none) H H' f) (h0:Aq H' l=none) (hH: ∀k,k≠l->Aq H' k=(Aq H k).map (OB.map f)):Mh X w (Vh π l none) H':=by
 have un: ∀k r,Vh π l none k=some r->k≠l/\π k=some r:= λk r hk=>by
  by_cases e:k=l
  ·subst e;rw [Ga] at hk;cases hk
  ·rw [Fv π none e] at hk;exact ⟨e,hk⟩
 refine ⟨h.below,h.sc,λk r c h1 h2=>h.sub k r c (un k r h1).2 h2,λk r c h1 h2=>h.place k r c (un k r h1).2 h2,λl1 l2 r1 r2 c h1 h2 h3 h4=>h.inj _ _ r1 r2 c (un _ _ h1).2 (un _ _ h2).2 h3 h4,λk hp Jg=>?_,λk=>?_⟩
 ·have e:k≠l:= λe=>by subst e;exact Jg h0
  rw [hH k e] at Jg
  rw [Fv π none e]
  exact h.fb k hp λh1=>Jg (by rw [h1];rfl)
 ·by_cases e:k=l
  ·subst e
   exact Fq.Sr (by rw [Ga]) h0
  ·have hn:=hH k e
   have ho:=h.heap k
   cases lh:Aq H k with
   |none=>rw [lh] at hn;exact Fq.Sr (by rw [Fv π none e];exact ho.emp lh) hn
   |some c=>
    rw [lh] at hn
    refine Fq.La ?_ hn
    rw [Fv π none e]
    exact (ho.Qi lh).move m (Ar _) (λr0 c h0 h1=>h.sub _ r0 c h0 h1) λr0 c h0 h1 Js=>rfl
theorem Bd.forget {st:St} {a:Act} (h:Bd X π st a w) (l:Nat):Bd X (Vh π l none) (st.forget l) a w:=by
 have m:Move X w w π (Vh π l none) st.heap (st.forget l).heap (Cb l):=
  Move.forget (Ar _) (λ_ _ _=>rfl) (λr c hr=>by cases hr) (λm hm=>St.fO st l m hm) (λ_ _ _ _ _ _=>rfl)
 refine ⟨h.1.drop l m (St.mo st l) λk e=>St.fO st l k e,?_⟩
 have hh:pA X w (Vh π l none) {tmps:=st.tmps.map (·.map (Cb l)),heap:=(st.forget l).heap} a:=m.ET rfl h.2
 exact hh
theorem cellOf {w:World} {g:Nat} {cur:Array Value} {tid:TypeId} (h:w.heap[g]?=some (.cells cur tid (0,0))) (i:Nat):w.cell? ⟨g,i,none⟩=cur[i]?:=by
 simp [World.cell?,h]
theorem Nl {l off len:Nat} {v:Value} {fr tr:Bool} {e:Ty} {tid:TypeId} {xs:List e.den} (h:Gx X w π H (.own l off len) v) (hl:Aq H l=some (.arr fr tr e tid xs)):off+len<=xs.length/\He (π l) e.size off len v:=by
 obtain ⟨b,sz,n,h1,h0,h2,h3⟩:=h
 rw [hl] at h1;cases h1
 simp only [OB.row,Aa,Ae] at h0
 obtain ⟨rfl,rfl⟩:=h0
 exact ⟨h2,h3⟩
theorem aC {l off len:Nat} {v:Value} {e:Ty} {tid:TypeId} {xs:List e.den} (h:Gx X w π H (.own l off len) v) (hl:Aq H l=some (.Gl e tid xs)):off+len<=xs.length/\He (π l) e.size off len v:=by
 obtain ⟨b,sz,n,h1,h0,h2,h3⟩:=h
 rw [hl] at h1;cases h1
 simp only [OB.row,Aa,Ae] at h0
 obtain ⟨rfl,rfl⟩:=h0
 exact ⟨h2,h3⟩
theorem DQ {l off len:Nat} {v:Value} {fr tr:Bool} {e:Ty} {tid:TypeId} {xs:List e.den} (hl:Aq H l=some (.arr fr tr e tid xs)) (h1:off+len<=xs.length) (h2:He (π l) e.size off len v):Gx X w π H (.own l off len) v:=
 ⟨_,e.size,xs.length,hl,rfl,h1,h2⟩
theorem uN {r:Real} {off len:Nat} {v:Value} {e:Ty} {tid:TypeId} {xs:List e.den} {S:Nat->Prop} {cur:Array Value} (h2:w.heap[r.g]?=some (.cells cur tid (0,0)))
  (hlen:off+len<=xs.length) (hv:He (some r) e.size off len v) (hg: ¬S r.g)
  (hA: ∀(i:Nat) (x:e.den),xs[i]?=some x-> ∃es:List Value,es.length=e.size/\(∀j u,es[j]?=some u->cur[(r.o+i)*e.size+j]?=some u)/\Cells w S e es x):Cells w S (.slice e) [v] ((xs.drop off).take len):=by
 have UG:((xs.drop off).take len).length=len:=by simp;omega
 obtain ⟨ad,rfl,hc,ha⟩:=hv
 refine ⟨some ad,len,r.cap-off,rfl,UG.symm,by omega,?_⟩
 rcases Rz len with h0|h0
 ·left;subst h0;simp
 ·right
  refine ⟨r.g,(r.o+off)*e.size,by rw [ha (by omega)],Ft h2,hg,λi x hx=>?_⟩
  have hi:i<len:=by
   have:=(Aj.1 hx).1
   rw [UG] at this;exact this
  have hx':xs[off+i]?=some x:=by
   rw [Ck,Ab hi,Ct] at hx;exact hx
  obtain ⟨es,he,hj,vZ⟩:=hA (off+i) x hx'
  refine ⟨es,he,λj u hu=>?_,vZ⟩
  rw [cellOf h2]
  have:=hj j u hu
  rw [<-this]
  congr 1
  rw [<-Gh,Cx (r.o+off) i]
theorem mK {l off len:Nat} {v:Value} {fr tr:Bool} {e:Ty} {tid:TypeId} {xs:List e.den} {S:Nat->Prop} (h:Mh X w π H) (hl:Aq H l=some (.arr fr tr e tid xs))
  (hlen:off+len<=xs.length) (hv:He (π l) e.size off len v)
  (hS: ∀k,S k->(∃r,π l=some r/\r.Ci k)->False) (hA: ∀k,k<w.heap.size->S k->Cp X.w0.heap.size X.Sc π fr k):Cells w S (.slice e) [v] ((xs.drop off).take len):=by
 have hb:=(h.heap l).Qi hl
 simp only [Bw,Jj] at hb
 cases hp:π l with
 |none=>
  rw [hp] at hb hv
  obtain ⟨rfl,rfl,rfl⟩:=hv
  exact ⟨none,0,0,rfl,by simp,Ar _, .inl (by simp)⟩
 |some r=>
  rw [hp] at hb hv
  obtain ⟨h1,cur,_,h2,h3,h4,h5,h6,_⟩:=hb
  refine uN h2 hlen hv (λhs=>hS _ hs ⟨r,hp,h1.1⟩) λi x hx=>?_
  obtain ⟨es,he,hj,vZ⟩:=h6 i x hx
  exact ⟨es,he,hj,Cells.Gg (Ar _) (λ_ _ _=>rfl) hA e es x vZ⟩
theorem Rl.slice {D S:Nat->Prop} {R:Option Real} {e:Ty} {x:List e.den} {u:Value} (h:Rl w D R e x) (hv:He R e.size 0 (List.length x) u) (hD: ∀k,S k->D k) (hg: ∀q,R=some q-> ¬S q.g):Cells w S (.slice e) [u] x:=by
 cases R with
 |none=>
  have hx:x= []:=h
  subst hx
  obtain ⟨rfl,_,_⟩:=hv
  exact ⟨none,0,0,rfl,rfl,Ar _, .inl rfl⟩
 |some q=>
  obtain ⟨h1,cur,ti,h2,h3,h4,h5,h6⟩:=h
  obtain ⟨ad,rfl,g1,g2⟩:=hv
  refine ⟨some ad,List.length x,_,rfl,rfl,by omega,?_⟩
  rcases Rz (List.length x) with hx|hx
  ·exact .inl (De hx)
  ·have OW:=g2 (by omega)
   subst OW
   refine .inr ⟨q.g,(q.o+0)*e.size,rfl,Ft h2,hg q rfl,λi y hy=>?_⟩
   obtain ⟨es,k1,k2,k3⟩:=h6 i y hy
   refine ⟨es,k1,λj u hu=>?_,Cells.Gg (Ar _) (λ_ _ _=>rfl) (λk _ hk=>hD k hk) e es y k3⟩
   rw [cellOf h2,Ef,<-Cx]
   exact k2 j u hu
theorem lJ {l off len:Nat} {v:Value} {e:Ty} {te:TypeId} {rows:List (List e.den)} {out:Option Nat} {kp:Option (Nat×Nat)} (h:Gx X w π H (.own l off len) v) (hl:Aq H l=some (.Bm e te rows out kp)):off+len<=rows.length/\He (π l) 1 off len v:=by
 obtain ⟨b,sz,n,h1,h2,h3,h4⟩:=h
 rw [hl] at h1;cases h1
 simp only [OB.row,Aa,Ae] at h2
 obtain ⟨rfl,rfl⟩:=h2
 exact ⟨h3,h4⟩
theorem qi {l off len:Nat} {v:Value} {e:Ty} {te:TypeId} {rows:List (List e.den)} {kp:Option (Nat×Nat)} {S:Nat->Prop} (h:Mh X w π H) (hl:Aq H l=some (.Bm e te rows none kp))
  (hlen:off+len<=rows.length) (hv:He (π l) 1 off len v)
  (hS: ∀k,S k->(∃r,π l=some r/\r.Ci k)->False) (hA: ∀k,S k->Cp X.w0.heap.size X.Sc π false k):Cells w S (.slice (.slice e)) [v] ((rows.drop off).take len):=by
 have hb:=(h.heap l).Qi hl
 simp only [Bw] at hb
 have hb:=hb.1
 cases hp:π l with
 |none=>
  rw [hp] at hb hv
  have hb:rows= []:=hb
  obtain ⟨rfl,rfl,rfl⟩:=hv
  exact ⟨none,0,0,rfl,by simp,Ar _, .inl (by simp)⟩
 |some r=>
  rw [hp] at hb hv
  obtain ⟨h1,cur,ti,h2,h3,h4,h5,Rs,h6,h7,h8,h9⟩:=hb
  obtain ⟨ad,rfl,g1,g2⟩:=hv
  refine ⟨some ad,len,_,rfl,by simp;omega,by omega,?_⟩
  rcases Rz len with hx|hx
  ·subst hx;exact .inl (by simp)
  ·have OW:=g2 (by omega)
   subst OW
   refine .inr ⟨r.g,(r.o+off)*1,rfl,Ft h2,λhs=>hS _ hs ⟨r,hp,h1⟩,λi x hx=>?_⟩
   have hx:((rows.drop off).take len)[i]?=some x:=hx
   rw [Ck] at hx
   split at hx
   ·rw [Ct] at hx
    obtain ⟨u,R,k1,k2,k3,k4⟩:=h9 _ x hx (by simp)
    refine ⟨[u],rfl,λj u' eU=>?_,k4.slice k3 hA λq hq hs=>hS _ hs ⟨r,hp,(h7 _ q (by rw [k2,hq])).1⟩⟩
    rcases j with _|j
    ·simp only [Bn,Aa] at eU
     subst eU
     rw [cellOf h2,<-k1]
     congr 1
     simp only [Ty.size];omega
    ·simp at eU
   ·cases hx
theorem yO {l i c:Nat} {v:Value} {e:Ty} {te:TypeId} {rows:List (List e.den)} {out:Option Nat} {kp:Option (Nat×Nat)} (hv:Gx X w π H (.sub l i c) v) (hl:Aq H l=some (.Bm e te rows out kp)):rows[i]?=some (rows.getD i []):=by
 obtain ⟨r,b,sz,n,h1,h0,_,h3,_⟩:=hv
 rw [hl] at h1;cases h1
 simp only [OB.eu,Aa,Ae] at h0
 obtain ⟨rfl,rfl⟩:=h0
 rw [Ah,Ac h3];rfl
theorem lf {l i:Nat} {e:Ty} {te:TypeId} {rows:List (List e.den)} {out:Option Nat} {kp:Option (Nat×Nat)} {r:Real} (h:Mh X w π H) (hl:Aq H l=some (.Bm e te rows out kp)) (hp:π l=some r) (hi:i<rows.length) (ho:out≠some i):
  ∃u R,w.cell? ⟨r.g,r.o+i,none⟩=some u/\He R e.size 0 (rows.getD i []).length u/\Rl w (Cp X.w0.heap.size X.Sc π false) R e (rows.getD i []):=by
 have hb:=(h.heap l).Qi hl
 simp only [Bw] at hb
 have hb:=hb.1
 rw [hp] at hb
 obtain ⟨h1,cur,ti,h2,h3,h4',h5',Rs,h6,h7,h8,h9⟩:=hb
 have hx:rows[i]?=some (rows.getD i []):=by rw [Ah,Ac hi];rfl
 obtain ⟨u,R,k1,k2,k3,k4⟩:=h9 _ _ hx ho
 exact ⟨u,R,by rw [cellOf h2];exact k1,k3,k4⟩
theorem Zg {R:Option Real} {sz off len:Nat} {u:Value} (h:He R sz off len u): ∃a n m,u= .slice a n m:=by
 cases R with
 |none=>exact ⟨_,_,_,h.1⟩
 |some q=>obtain ⟨ad,rfl,_⟩:=h;exact ⟨_,_,_,rfl⟩
theorem qj {l i c:Nat} {v:Value} {e:Ty} {te:TypeId} {rows:List (List e.den)} {kp:Option (Nat×Nat)} {x:List e.den} {S:Nat->Prop} (h:Mh X w π H) (hl:Aq H l=some (.Bm e te rows none kp)) (hx:rows[i]?=some x)
  (hv:Gx X w π H (.sub l i c) v)
  (hS: ∀k,S k->(∃r,π l=some r/\r.Ci k)->False) (hA: ∀k,S k->Cp X.w0.heap.size X.Sc π false k):Cells w S (.slice e) [v] x:=by
 obtain ⟨r,b,sz,n,h1,h0,hp,h3,⟨h4,_⟩,h5⟩:=hv
 rw [hl] at h1;cases h1
 simp only [OB.eu,Aa,Ae] at h0
 obtain ⟨rfl,rfl⟩:=h0
 have hb:=(h.heap l).Qi hl
 simp only [Bw] at hb
 have hb:=hb.1
 rw [hp] at hb
 obtain ⟨h1,cur,ti,h2,h3,h4',h5',Rs,h6,h7,h8,h9⟩:=hb
 obtain ⟨u,R,k1,k2,k3,k4⟩:=h9 _ x hx (by simp)
 have:c=0:=by omega
 subst this
 rw [cellOf h2,Ex,Ef,k1] at h5
 have hv:=Ba h5
 subst hv
 exact k4.slice k3 hA λq hq hs=>hS _ hs ⟨r,hp,(h7 _ q (by rw [k2,hq])).1⟩
theorem kB {l off len:Nat} {v:Value} {e:Ty} {tid:TypeId} {xs:List e.den} {S:Nat->Prop} (h:Mh X w π H) (hl:Aq H l=some (.Gl e tid xs))
  (hlen:off+len<=xs.length) (hv:He (π l) e.size off len v)
  (hS: ∀k,S k->(∃r,π l=some r/\r.Ci k)->False):Cells w S (.slice e) [v] ((xs.drop off).take len):=by
 have hb:=(h.heap l).Qi hl
 simp only [Bw,Na] at hb
 cases hp:π l with
 |none=>
  rw [hp] at hb hv
  obtain ⟨rfl,rfl,rfl⟩:=hv
  exact ⟨none,0,0,rfl,by simp,Ar _, .inl (by simp)⟩
 |some r=>
  rw [hp] at hb hv
  obtain ⟨h1,cur,_,h2,h3,h4,h5,Fs,k1,k2,k3,k4⟩:=hb
  refine uN h2 hlen hv (λhs=>hS _ hs ⟨r,hp,h1⟩) λi x hx=>?_
  have hi:i<Fs.length:=by have:=(Aj.1 hx).1;omega
  obtain ⟨es,he,hj,vZ⟩:=k4 i x _ hx (Ac hi)
  exact ⟨es,he,hj,vZ.cells _ _ _ _ λb hb hs=>hS b hs ⟨r,hp,k3 b (Gw.2 ⟨_,Ak hi,hb⟩)⟩⟩
theorem St.Qo (st:St) (l m:Nat) (fr:Bool) (e:Ty) (xs:List e.den) (h:m≠l):Aq (st.freeze l fr e xs).heap m=(Aq st.heap m).map (OB.map (Co l fr e xs)):=by
 simp only [St.freeze,St.Kh]
 rw [Mu _ _ _ h,Nr]
theorem St.Ll (st:St) (l:Nat) (fr:Bool) (e:Ty) (xs:List e.den):Aq (st.freeze l fr e xs).heap l=none:=by
 simp only [St.freeze,St.Kh]
 exact Ls _ _
theorem pO {l:Nat} {B:Nat} {Sc:Nat->Prop} {fr:Bool} {k:Nat} (hA:Cp B Sc (Vh π l none) fr k):Cp B Sc π fr k:=by
 rcases hA with ⟨m,r,hm,hg⟩|h2
 ·by_cases fT:m=l
  ·subst fT;rw [Ga] at hm;cases hm
  ·rw [Fv π none fT] at hm
   exact .inl ⟨m,r,hm,hg⟩
 ·exact .inr h2
theorem Mh.let (h:Mh X w π H) {l:Nat} {fr:Bool} (yS:fr=true-> ∀r,π l=some r-> ∀b,r.Ci b->X.w0.heap.size<=b) {k:Nat} (hS:Cp X.w0.heap.size X.Sc (Vh π l none) fr k) (hk: ∃r,π l=some r/\r.Ci k):False:=by
 obtain ⟨r,hr,DA⟩:=hk
 rcases hS with ⟨m,r',hm,hg⟩|hS|⟨hf,hS⟩
 ·by_cases fT:m=l
  ·subst fT;rw [Ga] at hm;cases hm
  ·rw [Fv π none fT] at hm
   exact fT (h.apart hm hr hg DA)
 ·have h1:=h.sc k hS
  rcases (h.own ⟨l,r,hr,DA⟩).2 with h2|h2
  ·omega
  ·exact h1.2 h2
 ·have:=yS hf r hr k DA;omega
theorem Move.HF {l:Nat} {f:AC->AC} (hf: ∀c v,Gx X w π H c v->(∀k∈c.refs,k≠l)->f c=c)
  (hl: ∀c v,Gx X w π H c v->l∈c.refs->Gx X w (Vh π l none) H' (f c) v)
  (hH: ∀m,m≠l->Aq H' m=(Aq H m).map (OB.map f)):Move X w w π (Vh π l none) H H' f:=by
 have hc: ∀Um τ cs x,Cells w (Cp X.w0.heap.size X.Sc π Um) τ cs x->Cells w (Cp X.w0.heap.size X.Sc (Vh π l none) Um) τ cs x:=
  fun Um τ cs x hh=>Cells.Gg (Ar _) (λ_ _ _=>rfl) (λk _ hA=>pO hA) τ cs x hh
 refine ⟨λc v CS=>?_,hc⟩
 by_cases VD:l∈c.refs
 ·exact hl c v CS VD
 ·rw [hf c v CS λk hk e=>VD (e▸hk)]
  cases c with
  |data Um τ x=>obtain ⟨cs,h1,h2⟩:=CS;exact ⟨cs,hc _ _ _ _ h1,h2⟩
  |own k off len=>
   have Ra:k≠l:= λe=>VD (by simp [AC.refs,e])
   obtain ⟨b,sz,n,h1,h0,h2,h3⟩:=CS
   exact ⟨b.map f,sz,n,by rw [hH k Ra,h1];rfl,by cases b<;>exact h0,h2,by rw [Fv π none Ra];exact h3⟩
  |Gs k i=>
   have Ra:k≠l:= λe=>VD (by simp [AC.refs,e])
   obtain ⟨r,Tf,vs,h1,h2,h3⟩:=CS
   exact ⟨r,Tf,vs.map f,by rw [hH k Ra,h1];rfl,by rw [Fv π none Ra];exact h2,h3⟩
  |Jl k i=>
   have Ra:k≠l:= λe=>VD (by simp [AC.refs,e])
   obtain ⟨r,b,sz,n,h1,h0,h2,h3,h4⟩:=CS
   exact ⟨r,b.map f,sz,n,by rw [hH k Ra,h1];rfl,by cases b<;>exact h0,h2,by rw [Fv π none Ra];exact h3,h4⟩
  |sub k i c=>
   have Ra:k≠l:= λe=>VD (by simp [AC.refs,e])
   obtain ⟨r,b,sz,n,h1,h0,h2,h3⟩:=CS
   exact ⟨r,b.map f,sz,n,by rw [hH k Ra,h1];rfl,by cases b<;>exact h0,by rw [Fv π none Ra];exact h2,h3⟩
  |Ji k i c=>
   have Ra:k≠l:= λe=>VD (by simp [AC.refs,e])
   obtain ⟨r,b,n,sz,g,o,len,cap,h1,h0,h2,h3⟩:=CS
   exact ⟨r,b.map f,n,sz,g,o,len,cap,by rw [hH k Ra,h1];rfl,by cases b<;>exact h0,by rw [Fv π none Ra];exact h2,h3⟩
  |clo g Dy=>
   obtain ⟨us,h1,h2,h3⟩:=CS
   refine ⟨us,h1,h2,λj p hp=>?_⟩
   obtain ⟨r,tid,vs,h4,h5,h6⟩:=h3 j p hp
   have dh:p.1≠l:= λe=>VD (by simp only [AC.refs,Bo];exact ⟨p,Bx hp,e⟩)
   exact ⟨r,tid,vs.map f,by rw [hH _ dh,h4];rfl,by rw [Fv π none dh];exact h5,h6⟩
  |Jw k=>
   have Ra:k≠l:= λe=>VD (by simp [AC.refs,e])
   obtain ⟨r,vt,m,h1,h2,h3⟩:=CS
   exact ⟨r,vt,m,by rw [hH k Ra,h1];rfl,by rw [Fv π none Ra];exact h2,h3⟩
  |_=>exact CS
theorem fC {l:Nat} {ls:List Nat} (h: ∀k∈ls,k≠l):ls.contains l=false:=by
 cases hc:ls.contains l with
 |false=>rfl
 |true=>exact absurd rfl (h l (by simpa using hc))
theorem fP {l:Nat} {fr:Bool} {e:Ty} {xs:List e.den} {c:AC} (h: ∀k∈c.refs,k≠l):Co l fr e xs c=c:=by
 cases c<;>simp only [Co]<;>first|rfl|skip
 case clo f Dy=>rw [Al (by rw [fC (show ∀k∈Dy.map (·.1),k≠l from h)];simp)]
 all_goals rw [Al (h _ (by simp [AC.refs]))]
theorem qh {l:Nat} {v:Ty} {m:ByteArray->Option v.den} {c:AC} (h: ∀k∈c.refs,k≠l):Gq l v m c=c:=by
 cases c<;>simp only [Gq]<;>first|rfl|skip
 case clo f Dy=>rw [Al (by rw [fC (show ∀k∈Dy.map (·.1),k≠l from h)];simp)]
 all_goals rw [Al (h _ (by simp [AC.refs]))]
theorem Move.freeze {l:Nat} {fr:Bool} {e:Ty} {xs:List e.den}
  (Ae2: ∀off len v,Gx X w π H (.own l off len) v->Cells w (Cp X.w0.heap.size X.Sc (Vh π l none) fr) (.slice e) [v] ((xs.drop off).take len))
  (hH: ∀m,m≠l->Aq H' m=(Aq H m).map (OB.map (Co l fr e xs))):Move X w w π (Vh π l none) H H' (Co l fr e xs):=by
 refine Move.HF (λc v _ h=>fP h) (λc v CS hr=>?_) hH
 cases c with
 |own k off len=>
  have:k=l:=(Ad.1 hr).symm
  subst this
  simp only [Co,Ab]
  exact ⟨[v],Ae2 off len v CS,by simp [Bs,Ty.Am]⟩
 |Gs k i=>have:k=l:=(Ad.1 hr).symm
          subst this;simp only [Co,Ab];trivial
 |Jl k i=>have:k=l:=(Ad.1 hr).symm
          subst this;simp only [Co,Ab];trivial
 |sub k i c=>have:k=l:=(Ad.1 hr).symm
             subst this;simp only [Co,Ab];trivial
 |Ji k i c=>have:k=l:=(Ad.1 hr).symm
            subst this;simp only [Co,Ab];trivial
 |Jw k=>have:k=l:=(Ad.1 hr).symm
        subst this;simp only [Co,Ab];trivial
 |clo f Dy=>
  simp only [Co]
  rw [Ab (by simpa [AC.refs] using hr)];trivial
 |_=>simp [AC.refs] at hr
theorem Bd.freeze {st:St} {a:Act} (h:Bd X π st a w) {l:Nat} {fr:Bool} {e:Ty} {xs:List e.den}
  (hl:(∃tr tid,Aq st.heap l=some (.arr fr tr e tid xs))\/(fr=false/\ ∃tid,Aq st.heap l=some (.Gl e tid xs))):
  Bd X (Vh π l none) (st.freeze l fr e xs) a w/\Move X w w π (Vh π l none) st.heap (st.freeze l fr e xs).heap (Co l fr e xs):=by
 have m:Move X w w π (Vh π l none) st.heap (st.freeze l fr e xs).heap (Co l fr e xs):=by
  refine Move.freeze (λoff len v hv=>?_) (λm hm=>St.Qo st l m fr e xs hm)
  rcases hl with ⟨tr,tid,hl⟩|⟨rfl,tid,hl⟩
  ·obtain ⟨h2,h3⟩:=Nl hv hl
   refine mK h.1 hl h2 h3 (λk hk=>?_) λk _ hk=>pO hk
   intro ⟨r,hr,DA⟩
   have hb:=(h.1.heap l).Qi hl
   simp only [Bw,Jj,hr] at hb
   by_cases hkg:k=r.g
   ·subst hkg
    rcases hk with ⟨m,r',hm,hg⟩|hS|⟨hf,hS⟩
    ·by_cases fT:m=l
     ·subst fT;rw [Ga] at hm;cases hm
     ·rw [Fv π none fT] at hm
      exact fT (h.1.apart hm hr hg DA)
    ·have h1:=h.1.sc _ hS
     rcases (h.1.own ⟨l,r,hr,DA⟩).2 with h2|h2
     ·omega
     ·exact h1.2 h2
    ·have:=hb.1.2.2 hf;omega
   ·exact absurd (hb.1.2.1 k DA) hkg
  ·obtain ⟨h2,h3⟩:=aC hv hl
   exact kB h.1 hl h2 h3 λk hk hr=>h.1.let (λhf=>by cases hf) hk hr
 refine ⟨⟨h.1.drop l m (St.Ll st l fr e xs) λk e'=>St.Qo st l k fr e xs e',?_⟩,m⟩
 have hh:pA X w (Vh π l none) {tmps:=st.tmps.map (·.map (Co l fr e xs)),heap:=(st.freeze l fr e xs).heap} a:=m.ET rfl h.2
 exact hh
theorem St.Qb (st:St) (l k:Nat) (v:Ty) (m:ByteArray->Option v.den) (h:k≠l):Aq (st.Ie l v m).heap k=(Aq st.heap k).map (OB.map (Gq l v m)):=by
 simp only [St.Ie,St.Kh]
 rw [Mu _ _ _ h,Nr]
theorem St.Rp (st:St) (l:Nat) (v:Ty) (m:ByteArray->Option v.den):Aq (st.Ie l v m).heap l=none:=by
 simp only [St.Ie,St.Kh]
 exact Ls _ _
theorem uV {r:Option Real} {v:Ty} {m:ByteArray->Option v.den} {g:Nat} {S:Nat->Prop} (h:NY w r v m) (hg:r.map (·.g)=some g) (hS: ¬S g):Cells w S (.smap v) [.map (some g)] m:=by
 obtain ⟨r',h0,h1,h2,h3⟩:=h
 rw [h0] at hg
 simp only [Ai,Aa] at hg
 subst hg
 simp only [Cells] at h3⊢
 rcases h3 with ⟨h3,_⟩|⟨g,h3,hg,_,es,clock,h4,h5,h6,h7⟩
 ·simp at h3
 ·simp only [Gi,Value.map.injEq,Aa,eZ] at h3
  subst h3
  refine .inr ⟨r'.g,rfl,hg,hS,es,clock,h4,h5,h6,λs y hy=>?_⟩
  obtain ⟨u,h8,h9⟩:=h7 s y hy
  exact ⟨u,h8,Cells.flat v [u] y h2.1 h9⟩
theorem Bd.Ie {st:St} {a:Act} (h:Bd X π st a w) {l:Nat} {v:Ty} {m:ByteArray->Option v.den} (hl:Aq st.heap l=some (.Ub v m)):
  Bd X (Vh π l none) (st.Ie l v m) a w/\Move X w w π (Vh π l none) st.heap (st.Ie l v m).heap (Gq l v m):=by
 have mv:Move X w w π (Vh π l none) st.heap (st.Ie l v m).heap (Gq l v m):=by
  refine Move.HF (λc u _ h=>qh h) (λc u CS hr=>?_) (λk hk=>St.Qb st l k v m hk)
  cases c with
  |Jw k=>
   have:k=l:=(Ad.1 hr).symm
   subst this
   simp only [Gq,Ab]
   obtain ⟨r,vt,m',h1,h2,rfl⟩:=CS
   exact ⟨[_],uV ((h.1.heap k).Qi hl) (by rw [h2];rfl) λhS=>h.1.let (λhf=>by cases hf) hS ⟨r,h2,h.1.Ci h2⟩,by simp [Bs,Ty.Am]⟩
  |own k off len=>have:k=l:=(Ad.1 hr).symm
                  subst this;simp only [Gq,Ab];trivial
  |Gs k i=>have:k=l:=(Ad.1 hr).symm
           subst this;simp only [Gq,Ab];trivial
  |Jl k i=>have:k=l:=(Ad.1 hr).symm
           subst this;simp only [Gq,Ab];trivial
  |sub k i c=>have:k=l:=(Ad.1 hr).symm
              subst this;simp only [Gq,Ab];trivial
  |Ji k i c=>have:k=l:=(Ad.1 hr).symm
             subst this;simp only [Gq,Ab];trivial
  |clo f Dy=>
   simp only [Gq]
   rw [Ab (by simpa [AC.refs] using hr)];trivial
  |_=>simp [AC.refs] at hr
 refine ⟨⟨h.1.drop l mv (St.Rp st l v m) λk e'=>St.Qb st l k v m e',?_⟩,mv⟩
 have hh:pA X w (Vh π l none) {tmps:=st.tmps.map (·.map (Gq l v m)),heap:=(st.Ie l v m).heap} a:=mv.ET rfl h.2
 exact hh
def OB.fits:OB->OB->Prop
 | .arr _ _ e _ xs, .arr _ _ e' _ xs'=>e=e'/\xs.length<=xs'.length
 | .var _ _, .var _ _=>True
 | .Ub _ _, .Ub _ _=>True
 |_,_=>False
theorem Move.YT {tc:Nat->Prop} {π':Pi} (hs:w.heap.size<=w'.heap.size)
  (hk: ∀k,k<w.heap.size->(∀l r,tc l->π l=some r-> ¬r.Ci k)->w'.heap[k]?=w.heap[k]?)
  (hO: ∀b,b<w.heap.size->Ue π' b->Ue π b)
  (hH: ∀m,¬tc m->Aq H' m=Aq H m/\π' m=π m) (XI: ∀m,tc m->Zz (π m) (π' m)/\ ∀b0,Aq H m=some b0-> ∃b,Aq H' m=some b/\b0.fits b)
  (hx: ∀m r,¬tc m->π m=some r->(∃b,Aq H m=some b/\b.eu≠none)->r.g<w.heap.size->w'.heap[r.g]?=w.heap[r.g]?):Move X w w' π π' H H' (λc=>c):=by
 have hc: ∀fr τ cs x,Cells w (Cp X.w0.heap.size X.Sc π fr) τ cs x->Cells w' (Cp X.w0.heap.size X.Sc π' fr) τ cs x:=by
  intro fr τ cs x h
  exact Cells.Gg hs (λk qs hn=>hk k qs λl r _ h0 h1=>hn (.inl ⟨l,r,h0,h1⟩)) (λk Js hA=>hA.imp (hO k Js) id) τ cs x h
 have same: ∀m r,π m=some r-> ∃r',π' m=some r'/\r.g=r'.g/\r.o=r'.o/\r.cap=r'.cap:=by
  intro m r hm
  by_cases ht:tc m
  ·have:=(XI m ht).1
   rw [hm] at this
   cases hp:π' m with
   |none=>rw [hp] at this;exact this.elim
   |some r'=>rw [hp] at this;exact ⟨r',rfl,this.1,this.2.1,this.2.2.1⟩
  ·exact ⟨r,by rw [(hH m ht).2];exact hm,rfl,rfl,rfl⟩
 have fit: ∀m b,Aq H m=some b-> ∃b',Aq H' m=some b'/\(b'=b\/b.fits b'):=by
  intro m b hm
  by_cases ht:tc m
  ·obtain ⟨b',h1,h2⟩:=(XI m ht).2 b hm;exact ⟨b',h1, .inr h2⟩
  ·exact ⟨b,by rw [(hH m ht).1];exact hm, .inl rfl⟩
 refine ⟨λc v h=>?_,hc⟩
 cases c with
 |data fr τ x=>obtain ⟨cs,h1,h2⟩:=h;exact ⟨cs,hc _ _ _ _ h1,h2⟩
 |own k off len=>
  obtain ⟨b,sz,n,h1,h0,h2,h3⟩:=h
  have sm:He (π' k) sz off len v:=by
   cases hp:π k with
   |none=>
    rw [hp] at h3
    have:π' k=none:=by
     by_cases ht:tc k
     ·have:=(XI k ht).1
      rw [hp] at this
      cases HQ:π' k with
      |none=>rfl
      |some r'=>rw [HQ] at this;exact this.elim
     ·rw [(hH k ht).2];exact hp
    rw [this];exact h3
   |some r=>
    rw [hp] at h3
    obtain ⟨r',h4,h5,h6,h7⟩:=same k r hp
    rw [h4]
    unfold He at h3⊢
    simp only at h3⊢
    rw [<-h5,<-h6,<-h7]
    exact h3
  obtain ⟨b',h4,h5⟩:=fit k b h1
  rcases h5 with rfl|h5
  ·exact ⟨_,sz,n,h4,h0,h2,sm⟩
  ·cases b<;>cases b'<;>first|exact h5.elim|(simp [OB.row] at h0;done)|skip
   ·obtain ⟨rfl,hlen⟩:=h5
    simp only [OB.row,Aa,Ae] at h0
    obtain ⟨rfl,rfl⟩:=h0
    exact ⟨_,_,_,h4,rfl,by omega,sm⟩
 |Gs k i=>
  obtain ⟨r,tid,vs,h1,h2,h3⟩:=h
  obtain ⟨r',h4,h5,_⟩:=same k r h2
  obtain ⟨b',h6,h7⟩:=fit k _ h1
  rcases h7 with rfl|h7
  ·exact ⟨r',tid,vs,h6,h4,by rw [<-h5];exact h3⟩
  ·cases b'<;>first|exact h7.elim|exact ⟨r',_,_,h6,h4,by rw [<-h5];exact h3⟩
 |Jl k i=>
  obtain ⟨r,b,sz,n,h1,h0,h2,h3,h4⟩:=h
  obtain ⟨r',h5,h6,h7,_⟩:=same k r h3
  obtain ⟨b',h8,h9⟩:=fit k _ h1
  rcases h9 with rfl|h9
  ·exact ⟨r',_,sz,n,h8,h0,h2,h5,by rw [<-h6,<-h7];exact h4⟩
  ·cases b<;>cases b'<;>first|exact h9.elim|(simp [OB.row] at h0;done)|skip
   obtain ⟨rfl,hlen⟩:=h9
   simp only [OB.row,Aa,Ae] at h0
   obtain ⟨rfl,rfl⟩:=h0
   exact ⟨r',_,_,_,h8,rfl,by omega,h5,by rw [<-h6,<-h7];exact h4⟩
 |sub k i c=>
  obtain ⟨r,b,sz,n,h1,h0,h2,h3,h4,h5⟩:=h
  by_cases ht:tc k
  ·obtain ⟨b',h6,h7⟩:=(XI k ht).2 _ h1
   cases b<;>first|(cases h0;done)|skip
   all_goals (cases b'<;>exact h7.elim)
  ·exact ⟨r,b,sz,n,by rw [(hH k ht).1];exact h1,h0,by rw [(hH k ht).2];exact h2,h3,h4,by rw [World.cell?_of_block (hx k r ht h2 ⟨b,h1,by rw [h0];simp⟩ (aS h5))];exact h5⟩
 |Ji k i c=>
  obtain ⟨r,b,n,sz,g,o,len,cap,h1,h0,h2,h3,h4,h5,h6⟩:=h
  by_cases ht:tc k
  ·obtain ⟨b',h6,h7⟩:=(XI k ht).2 _ h1
   cases b<;>first|(cases h0;done)|skip
   all_goals (cases b'<;>exact h7.elim)
  ·exact ⟨r,b,n,sz,g,o,len,cap,by rw [(hH k ht).1];exact h1,h0,by rw [(hH k ht).2];exact h2,h3,h4,by rw [World.cell?_of_block (hx k r ht h2 ⟨b,h1,by cases b<;>first|(cases h0;done)|simp [OB.eu]⟩ (aS h5))];exact h5,h6⟩
 |clo f Dy=>
  obtain ⟨us,h1,h2,h3⟩:=h
  refine ⟨us,h1,h2,λj p hp=>?_⟩
  obtain ⟨r,tid,vs,h4,h5,h6⟩:=h3 j p hp
  obtain ⟨r',h7,h8,_⟩:=same _ r h5
  obtain ⟨b',h9,p9⟩:=fit _ _ h4
  rcases p9 with rfl|p9
  ·exact ⟨r',tid,vs,h9,h7,by rw [<-h8];exact h6⟩
  ·cases b'<;>first|exact p9.elim|exact ⟨r',_,_,h9,h7,by rw [<-h8];exact h6⟩
 |Jw k=>
  obtain ⟨r,vt,m,h1,h2,h3⟩:=h
  obtain ⟨r',h4,h5,_⟩:=same k r h2
  obtain ⟨b',h6,h7⟩:=fit k _ h1
  rcases h7 with rfl|h7
  ·exact ⟨r',vt,m,h6,h4,by rw [<-h5];exact h3⟩
  ·cases b'<;>first|exact h7.elim|exact ⟨r',_,_,h6,h4,by rw [<-h5];exact h3⟩
 |_=>exact h
def Real.plus (r:Real) (N:List Nat):Real:= {r with cl:= λc=>r.cl c\/c∈N}
theorem Bd.Ake {st:St} {a:Act} (h:Bd X π st a w) {l:Nat} {b0 b:OB} (hl:Aq st.heap l=some b0) (hf:b0.fits b) {r:Real} (hr:π l=some r) {N:List Nat}
  (hN: ∀c∈N,(X.w0.heap.size<=c\/X.gv c)/\c<w.heap.size/\ ∀m r0,m≠l->π m=some r0-> ¬r0.cl c) (hg:w.grownBy w' (some r.g))
  (hb:Move X w w' π (Vh π l (some (r.plus N))) st.heap (st.Jh l b).heap (λc=>c)->Bw X w' (Vh π l (some (r.plus N))) (st.Jh l b).heap (some (r.plus N)) b):Bd X (Vh π l (some (r.plus N))) (st.Jh l b) a w':=by
 have hk: ∀k,k<w.heap.size-> ¬r.Ci k->w'.heap[k]?=w.heap[k]?:= λk hk hn=>hg.block k hk (by
  intro e
  simp only [Aa] at e
  exact hn (e▸h.1.Ci hr))
 have sK: ∀k q,Vh π l (some (r.plus N)) k=some q-> ∃q0,π k=some q0/\(q=q0\/(k=l/\q0=r/\q=r.plus N)):= λk q hq=>by
  by_cases e:k=l
  ·subst e;rw [Ga] at hq;exact ⟨r,hr, .inr ⟨rfl,rfl,(Ba hq).symm⟩⟩
  ·rw [Fv π _ e] at hq;exact ⟨q,hq, .inl rfl⟩
 have cl': ∀k q q0 c,(q=q0\/(k=l/\q0=r/\q=r.plus N))->q.cl c->q0.cl c\/(k=l/\c∈N):= λk q q0 c h1 h2=>by
  rcases h1 with rfl|⟨rfl,rfl,rfl⟩
  ·exact .inl h2
  ·rcases h2 with h2|h2
   ·exact .inl h2
   ·exact .inr ⟨rfl,h2⟩
 have ft: ∀k q q0 c,(q=q0\/(k=l/\q0=r/\q=r.plus N))->(q.Ci c↔q0.Ci c):= λk q q0 c h1=>by
  rcases h1 with rfl|⟨rfl,rfl,rfl⟩<;>exact Iff.rfl
 have m:Move X w w' π (Vh π l (some (r.plus N))) st.heap (st.Jh l b).heap (λc=>c):=Move.YT (tc:= λk=>k=l) hg.size (λk Js hn=>hk k Js (hn l r rfl hr)) (λc _ ⟨k,q,h1,h2⟩=>by
   obtain ⟨q0,h3,h4⟩:=sK k q h1
   exact ⟨k,q0,h3,(ft k q q0 c h4).1 h2⟩)
  (λm hm=>⟨Dt _ _ _ _ hm,Fv π _ hm⟩) (λm hm=>by subst hm;exact ⟨by rw [hr,Ga];exact ⟨rfl,rfl,rfl,λ_=>Iff.rfl⟩,λb1 h1=>by rw [hl] at h1;cases h1;exact ⟨b,El _ _ _ _ hl,hf⟩⟩)
  (λm r' hm h1 _ Js=>hk _ Js λh3=>hm (h.1.apart h1 hr (h.1.Ci h1) h3))
 refine ⟨⟨?_,h.1.sc,λk q c h1 h2=>?_,λk q c h1 h2=>?_,λk k' q q' c h1 h2 h3 h4=>?_,λk hp Jg=>?_,λk=>?_⟩,?_⟩
 ·exact h.1.below.grown hg h.1.below.size λk hk=>by cases hk;exact (h.1.lt hr).2
 ·obtain ⟨q0,h3,h4⟩:=sK k q h1
  have:=h.1.sub k q0 c h3 ((ft k q q0 c h4).1 h2)
  rcases h4 with rfl|⟨rfl,rfl,rfl⟩
  ·exact this
  ·exact .inl this
 ·obtain ⟨q0,h3,h4⟩:=sK k q h1
  rcases cl' k q q0 c h4 h2 with h5|⟨_,h5⟩
  ·exact ⟨(h.1.place k q0 c h3 h5).1,Dz (h.1.place k q0 c h3 h5).2 hg.size⟩
  ·exact ⟨(hN c h5).1,Dz (hN c h5).2.1 hg.size⟩
 ·obtain ⟨q0,g1,g2⟩:=sK k q h1
  obtain ⟨q0',g3,g4⟩:=sK k' q' h2
  rcases cl' k q q0 c g2 h3 with h5|⟨h5,h6⟩<;>rcases cl' k' q' q0' c g4 h4 with h7|⟨h7,h8⟩
  ·exact h.1.inj k k' q0 q0' c g1 g3 h5 h7
  ·refine Cs λhn=>(hN c h8).2.2 k q0 (λe=>hn (e.trans h7.symm)) g1 h5
  ·refine Cs λhn=>(hN c h6).2.2 k' q0' (λe=>hn (h5.trans e.symm)) g3 h7
  ·rw [h5,h7]
 ·by_cases e:k=l
  ·subst e
   have:=h.1.fb k hp (by rw [hl];simp)
   rw [hr] at this
   rw [Ga]
   cases hx:X.fb k with
   |none=>rw [hx] at this;exact this.elim
   |some q=>rw [hx] at this;exact this
  ·rw [Fv π _ e]
   exact h.1.fb k hp λh0=>Jg (by rw [show Aq (st.Jh l b).heap k=Aq st.heap k from Dt _ _ _ _ e];exact h0)
 ·by_cases e:k=l
  ·subst e
   exact Fq.La (by rw [Ga];exact hb m) (El _ _ _ _ hl)
  ·have hn:Aq (st.Jh l b).heap k=Aq st.heap k:=Dt _ _ _ _ e
   have ho:=h.1.heap k
   cases lh:Aq st.heap k with
   |none=>rw [lh] at hn;exact Fq.Sr (by rw [Fv π _ e];exact ho.emp lh) hn
   |some c=>
    rw [lh] at hn
    refine Fq.La ?_ hn
    rw [Fv π _ e]
    have:=(ho.Qi lh).move m hg.size (λr0 c h0 h1=>h.1.sub _ r0 c h0 h1) λr0 c h0 h1 Js=>hk _ Js λh3=>e (h.1.inj _ _ r0 r c h0 hr h1 (h.1.sub _ _ _ hr h3))
    cases c with
    |var tid vs=>simpa [OB.map] using this
    |_=>exact this
 ·exact ⟨h.2.size,h.2.defers,λt=>by have:=m.av (h.2.tmps t);rwa [AC.map_id] at this⟩
theorem Bd.set {st:St} {a:Act} (h:Bd X π st a w) {l:Nat} {b0 b:OB} (hl:Aq st.heap l=some b0) (hf:b0.fits b)
  (hg:w.grownBy w' ((π l).map (·.g)))
  (hb:Move X w w' π π st.heap (st.Jh l b).heap (λc=>c)->Bw X w' π (st.Jh l b).heap (π l) b):Bd X π (st.Jh l b) a w':=by
 have hk: ∀k,k<w.heap.size->(∀r,π l=some r-> ¬r.Ci k)->w'.heap[k]?=w.heap[k]?:= λk hk hn=>hg.block k hk (by
  intro e
  cases hp:π l with
  |none=>rw [hp] at e;cases e
  |some r=>rw [hp] at e;simp only [Ai,Aa] at e;exact hn r hp (e▸h.1.Ci hp))
 have m:Move X w w' π π st.heap (st.Jh l b).heap (λc=>c):=Move.YT (tc:= λk=>k=l) hg.size (λk Js hn=>hk k Js λr hr=>hn l r rfl hr) (λ_ _ h=>h)
  (λm hm=>⟨Dt _ _ _ _ hm,rfl⟩) (λm hm=>by subst hm;exact ⟨Zz.rfl' _,λb1 h1=>by rw [hl] at h1;cases h1;exact ⟨b,El _ _ _ _ hl,hf⟩⟩)
  (λm r hm h1 _ Js=>hk _ Js λr1 h2 h3=>hm (h.1.apart h1 h2 (h.1.Ci h1) h3))
 refine ⟨⟨?_,h.1.sc,h.1.sub,λk r c h1 h2=>⟨(h.1.place k r c h1 h2).1,Dz (h.1.place k r c h1 h2).2 hg.size⟩,h.1.inj,λk hp Jg=>h.1.fb k hp λh0=>Jg ?_,λk=>?_⟩,?_⟩
 ·refine h.1.below.grown hg h.1.below.size λk hk=>?_
  cases hp:π l with
  |none=>rw [hp] at hk;cases hk
  |some r=>rw [hp] at hk;simp only [Ai,Aa] at hk;rw [<-hk];exact (h.1.lt hp).2
 ·have:k≠l:= λe=>by subst e;rw [hl] at h0;cases h0
  rw [show Aq (st.Jh l b).heap k=Aq st.heap k from Dt _ _ _ _ this];exact h0
 ·by_cases e:k=l
  ·subst e
   exact Fq.La (hb m) (El _ _ _ _ hl)
  ·have hn:Aq (st.Jh l b).heap k=Aq st.heap k:=Dt _ _ _ _ e
   have ho:=h.1.heap k
   cases lh:Aq st.heap k with
   |none=>rw [lh] at hn;exact Fq.Sr (ho.emp lh) hn
   |some c=>
    rw [lh] at hn
    refine Fq.La ?_ hn
    have:=(ho.Qi lh).move m hg.size (λr0 c h0 h1=>h.1.sub _ r0 c h0 h1) λr0 c h0 h1 Js=>hk _ Js λr1 h2 h3=>e (h.1.inj _ _ r0 r1 c h0 h2 h1 (h.1.sub _ _ _ h2 h3))
    cases c with
    |var tid vs=>simpa [OB.map] using this
    |_=>exact this
 ·exact ⟨h.2.size,h.2.defers,λt=>by have:=m.av (h.2.tmps t);rwa [AC.map_id] at this⟩
end
end Go.Proofs.Ytkkdpknjohcekaa
