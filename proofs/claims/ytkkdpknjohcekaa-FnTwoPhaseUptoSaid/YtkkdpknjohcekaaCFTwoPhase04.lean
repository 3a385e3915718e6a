/-
  Part 5 of the proof that the statement FnTwoPhase holds.
-/
import Derived.Test.YtkkdpknjohcekaaCFTwoPhase03
namespace Go.Proofs.Ytkkdpknjohcekaa
open Go.RowKit
def Xh (π:Pi) (l:Nat) (r:Option Real):Pi:= λk=>if k=l then r else π k
theorem Gt (π:Pi) (l:Nat) (r:Option Real):Xh π l r l=r:=by simp [Xh]
theorem Gq (π:Pi) {l m:Nat} (r:Option Real) (h:m≠l):Xh π l r m=π m:=by simp [Xh,h]
section
variable {X:Ctx} {w w':World} {π:Pi} {H H':List (Nat×OB)}
def Co (X:Ctx) (w:World) (π:Pi) (H:List (Nat×OB)) (r:Option Real):OB->Prop
 | .arr fr tr e tid xs=>Kn X w π r fr tr e tid xs
 | .Hc e tid xs=>Om w r e tid xs
 | .var tid vs=>Agd X w π H r tid vs
 | .Bu e _ rows out kp=>iu X w π r e rows out kp
 | .Wb v m=>YA w r v m
theorem Gm.Ru {l:Nat} {b:OB} (h:Gm X w π H l) (hb:Ay H l=some b):Co X w π H (π l) b:=by
 unfold Gm at h
 rw [hb] at h
 cases b<;>exact h
theorem Gm.Mf {l:Nat} {b:OB} (h:Co X w π H (π l) b) (hb:Ay H l=some b):Gm X w π H l:=by
 unfold Gm
 rw [hb]
 cases b<;>exact h
theorem Gm.Uu {l:Nat} (h:π l=none) (hb:Ay H l=none):Gm X w π H l:=by
 unfold Gm;rw [hb];exact h
theorem Gm.emp {l:Nat} (h:Gm X w π H l) (hb:Ay H l=none):π l=none:=by
 unfold Gm at h;rw [hb] at h;exact h
theorem Co.move {f:AC->AC} {π':Pi} (m:Move X w w' π π' H H' f) {r:Option Real} {b:OB} (h:Co X w π H r b) (hs:w.heap.size<=w'.heap.size)
  (Oe: ∀r' c,r=some r'->r'.Da c->r'.cl c) (hk: ∀r' c,r=some r'->r'.cl c->c<w.heap.size->w'.heap[c]?=w.heap[c]?):
  Co X w' π' H' r (b.map f):=by
 cases b with
 |arr fr tr e tid xs=>
  simp only [Co,Kn,OB.map] at h⊢
  cases hr:r with
  |none=>rw [hr] at h;exact h
  |some r=>
   rw [hr] at h
   obtain ⟨h1,cur,ti,h2,h3,h4,h5,h6,h7⟩:=h
   refine ⟨h1,cur,ti,(hk r _ hr (Oe r _ hr h1.1) (Gp h2)).trans h2,h3,h4,h5,λi x hx=>?_,λht=>(h7 ht).Fz hs (λc _ Lg hc=>hk r c hr hc Lg) λ_ hb=>hb⟩
   obtain ⟨es,he,hj,hc⟩:=h6 i x hx
   exact ⟨es,he,hj,m.cells _ _ _ _ hc⟩
 |Hc e tid xs=>
  simp only [Co,Om,OB.map] at h⊢
  cases hr:r with
  |none=>rw [hr] at h;exact h
  |some r=>
   rw [hr] at h
   obtain ⟨h1,cur,ti,h2,h3,h4,h5,h7⟩:=h
   exact ⟨h1,cur,ti,(hk r _ hr (Oe r _ hr h1) (Gp h2)).trans h2,h3,h4,h5,h7.Fz hs (λc _ Lg hc=>hk r c hr (Oe r c hr hc) Lg) λ_ hb=>hb⟩
 |var tid vs=>
  obtain ⟨r',h0,h1,cur,h2,h3⟩:=h
  exact ⟨r',h0,h1,cur,(hk r' _ h0 (Oe r' _ h0 h1) (Gp h2)).trans h2,m.acs h3⟩
 |Bu e te rows out kp=>exact iu.Fz h (λq b hq hf Lg=>hk q b hq (Oe q b hq hf) Lg) (λes x=>m.cells false e es x)
 |Wb v g=>
  obtain ⟨r',h0,h1,h2,h3⟩:=h
  refine ⟨r',h0,h1,h2,?_⟩
  simp only [Cells] at h3⊢
  rcases h3 with ⟨h3,_⟩|⟨g,h3,hg,_,es,clock,h4,h5,h6,h7⟩
  ·simp at h3
  ·simp only [Ha,Value.map.injEq,Aa,bm] at h3
   subst h3
   refine .inr ⟨r'.g,rfl,by omega,λh=>h,es,clock,(hk r' _ h0 (Oe r' _ h0 h1) hg).trans h4,h5,h6,λs y hy=>?_⟩
   obtain ⟨u,h8,h9⟩:=h7 s y hy
   exact ⟨u,h8,Cells.flat v [u] y h2.1 h9⟩
theorem Move.forget {l:Nat} {r':Option Real} (hs:w.heap.size<=w'.heap.size)
  (hk: ∀k,k<w.heap.size->(∀r,π l=some r-> ¬r.Da k)->w'.heap[k]?=w.heap[k]?)
  (hr: ∀r b,r'=some r->r.Da b->(∃r0,π l=some r0/\r0.Da b)\/w.heap.size<=b)
  (hH: ∀m,m≠l->Ay H' m=(Ay H m).map (OB.map (Cv l)))
  (hx: ∀m r,m≠l->π m=some r->(∃b,Ay H m=some b/\b.gJ≠none)->r.g<w.heap.size->w'.heap[r.g]?=w.heap[r.g]?):Move X w w' π (Xh π l r') H H' (Cv l):=by
 have hc: ∀fr τ cs x,Cells w (Df X.w0.heap.size X.Sc π fr) τ cs x->Cells w' (Df X.w0.heap.size X.Sc (Xh π l r') fr) τ cs x:=by
  intro fr τ cs x h
  refine Cells.Fz hs (λk mU hn=>hk k mU λr h0 h1=>hn (.inl ⟨l,r,h0,h1⟩)) (λk mU hA=>?_) τ cs x h
  rcases hA with ⟨m,r,hm,hg⟩|h2
  ·by_cases j0:m=l
   ·subst j0
    rw [Gt] at hm
    rcases hr r k hm hg with ⟨r0,h0,h1⟩|h1
    ·exact .inl ⟨m,r0,h0,h1⟩
    ·omega
   ·rw [Gq π r' j0] at hm
    exact .inl ⟨m,r,hm,hg⟩
  ·exact .inr h2
 refine ⟨λc v h=>?_,hc⟩
 cases c with
 |data fr τ x=>obtain ⟨cs,h1,h2⟩:=h;exact ⟨cs,hc _ _ _ _ h1,h2⟩
 |own k off len=>
  simp only [Cv]
  split
  ·trivial
  ·rename_i Nn
   obtain ⟨b,sz,n,h1,h0,h2,h3⟩:=h
   exact ⟨b.map (Cv l),sz,n,by rw [hH k Nn,h1];rfl,by cases b<;>exact h0,h2,by rw [Gq π r' Nn];exact h3⟩
 |Ho k i=>
  simp only [Cv]
  split
  ·trivial
  ·rename_i Nn
   obtain ⟨r,tid,vs,h1,h2,h3⟩:=h
   exact ⟨r,tid,vs.map (Cv l),by rw [hH k Nn,h1];rfl,by rw [Gq π r' Nn];exact h2,h3⟩
 |Kp k i=>
  simp only [Cv]
  split
  ·trivial
  ·rename_i Nn
   obtain ⟨r,b,sz,n,h1,h0,h2,h3,h4⟩:=h
   exact ⟨r,b.map (Cv l),sz,n,by rw [hH k Nn,h1];rfl,by cases b<;>exact h0,h2,by rw [Gq π r' Nn];exact h3,h4⟩
 |sub k i c=>
  simp only [Cv]
  split
  ·trivial
  ·rename_i Nn
   obtain ⟨r,b,sz,n,h1,h0,h2,h3,h4,h5⟩:=h
   exact ⟨r,b.map (Cv l),sz,n,by rw [hH k Nn,h1];rfl,by cases b<;>exact h0,by rw [Gq π r' Nn];exact h2,h3,h4,by rw [World.cell?_of_block (hx k r Nn h2 ⟨b,h1,by rw [h0];simp⟩ (cD h5))];exact h5⟩
 |Km k i c=>
  simp only [Cv]
  split
  ·trivial
  ·rename_i Nn
   obtain ⟨r,b,n,sz,g,o,len,cap,h1,h0,h2,h3,h4,h5,h6⟩:=h
   exact ⟨r,b.map (Cv l),n,sz,g,o,len,cap,by rw [hH k Nn,h1];rfl,by cases b<;>exact h0,by rw [Gq π r' Nn];exact h2,h3,h4,by rw [World.cell?_of_block (hx k r Nn h2 ⟨b,h1,by cases b<;>first|(cases h0;done)|simp [OB.gJ]⟩ (cD h5))];exact h5,h6⟩
 |clo f Ew=>
  simp only [Cv]
  split
  ·trivial
  ·rename_i Nn
   obtain ⟨us,h1,h2,h3⟩:=h
   refine ⟨us,h1,h2,λj p hp=>?_⟩
   obtain ⟨r,tid,vs,h4,h5,h6⟩:=h3 j p hp
   have lq:p.1≠l:= λe=>Nn (by simp only [Jz,Be];exact ⟨p,Cq hp,e⟩)
   exact ⟨r,tid,vs.map (Cv l),by rw [hH _ lq,h4];rfl,by rw [Gq π r' lq];exact h5,h6⟩
 |Ky k=>
  simp only [Cv]
  split
  ·trivial
  ·rename_i Nn
   obtain ⟨r,vt,m,h1,h2,h3⟩:=h
   exact ⟨r,vt,m,by rw [hH k Nn,h1];rfl,by rw [Gq π r' Nn];exact h2,h3⟩
 |_=>exact h
theorem St.a8 (st:St) (l m:Nat) (b:OB) (h:m≠l):Ay (st.new l b).heap m=(Ay st.heap m).map (OB.map (Cv l)):=by
 simp only [St.new,St.forget,St.Ln]
 rw [Ps _ _ _ _ h,Od _ _ _ h,Pk]
theorem St.Hf (st:St) (l:Nat) (b:OB):Ay (st.new l b).heap l=some b:=by
 simp only [St.new,St.forget,St.Ln]
 exact Qq _ _ _ (Mv _ _)
theorem St.iV (st:St) (l m:Nat) (h:m≠l):Ay (st.forget l).heap m=(Ay st.heap m).map (OB.map (Cv l)):=by
 simp only [St.forget,St.Ln]
 rw [Od _ _ _ h,Pk]
theorem St.pc (st:St) (l:Nat):Ay (st.forget l).heap l=none:=by
 simp only [St.forget,St.Ln]
 exact Mv _ _
theorem Bm.js {st:St} {a:Act} (h:Bm X π st a w) (l:Nat) (hl:l<Bq) (r':Option Real) (b:OB)
  (hg:w.grownBy w' ((π l).map (·.g)))
  (hf: ∀r b,r'=some r->r.Da b->r.cl b/\((∃r0,π l=some r0/\r0.Da b)\/w.heap.size<=b))
  (hr: ∀r b,r'=some r->r.cl b->(X.w0.heap.size<=b\/X.gv b)/\b<w'.heap.size/\ ∀m r0,m≠l->π m=some r0-> ¬r0.cl b)
  (hb:Move X w w' π (Xh π l r') st.heap (st.new l b).heap (Cv l)->Co X w' (Xh π l r') (st.new l b).heap r' b):Bm X (Xh π l r') (st.new l b) a w':=by
 have hk: ∀k,k<w.heap.size->(∀r,π l=some r-> ¬r.Da k)->w'.heap[k]?=w.heap[k]?:= λk hk hn=>hg.block k hk (by
  intro e
  cases hp:π l with
  |none=>rw [hp] at e;cases e
  |some r=>rw [hp] at e;simp only [An,Aa] at e;exact hn r hp (e▸h.1.Da hp))
 have m:Move X w w' π (Xh π l r') st.heap (st.new l b).heap (Cv l):=Move.forget hg.size hk (λr c h1 h2=>(hf r c h1 h2).2) (λm hm=>St.a8 st l m b hm)
  (λm r hm h1 _ Lg=>hk _ Lg λr1 h2 h3=>hm (h.1.apart h1 h2 (h.1.Da h1) h3))
 refine ⟨⟨?_,h.1.sc,?_,?_,?_,?_,λk=>?_⟩,?_⟩
 ·refine h.1.below.grown hg h.1.below.size λk hk=>?_
  cases hp:π l with
  |none=>rw [hp] at hk;cases hk
  |some r=>rw [hp] at hk;simp only [An,Aa] at hk;rw [<-hk];exact (h.1.lt hp).2
 ·intro k r c h1 h2
  by_cases e1:k=l
  ·subst e1;rw [Gt] at h1;exact (hf r c h1 h2).1
  ·rw [Gq π r' e1] at h1;exact h.1.sub k r c h1 h2
 ·intro k r c h1 h2
  by_cases e1:k=l
  ·subst e1;rw [Gt] at h1;have:=hr r c h1 h2;exact ⟨this.1,this.2.1⟩
  ·rw [Gq π r' e1] at h1;have:=h.1.place k r c h1 h2;exact ⟨this.1,Ex this.2 hg.size⟩
 ·intro l1 l2 r1 r2 c h1 h2 h3 h4
  by_cases e1:l1=l<;>by_cases e2:l2=l
  ·rw [e1,e2]
  ·subst e1
   rw [Gt] at h1;rw [Gq π r' e2] at h2
   exact absurd h4 ((hr r1 c h1 h3).2.2 l2 r2 e2 h2)
  ·subst e2
   rw [Gt] at h2;rw [Gq π r' e1] at h1
   exact absurd h3 ((hr r2 c h2 h4).2.2 l1 r1 e1 h1)
  ·rw [Gq π r' e1] at h1;rw [Gq π r' e2] at h2
   exact h.1.inj _ _ r1 r2 c h1 h2 h3 h4
 ·intro k hpk Ip
  have e:k≠l:= λe=>by subst e;omega
  rw [St.a8 st l k b e] at Ip
  rw [Gq π r' e]
  exact h.1.im k hpk λh0=>Ip (by rw [h0];rfl)
 ·by_cases e:k=l
  ·subst e
   exact Gm.Mf (by rw [Gt];exact hb m) (St.Hf st k b)
  ·have hn:=St.a8 st l k b e
   have ho:=h.1.heap k
   cases kP:Ay st.heap k with
   |none=>rw [kP] at hn;exact Gm.Uu (by rw [Gq π r' e];exact ho.emp kP) hn
   |some c=>
    rw [kP] at hn
    refine Gm.Mf ?_ hn
    rw [Gq π r' e]
    exact (ho.Ru kP).move m hg.size (λr0 c h0 h1=>h.1.sub _ r0 c h0 h1) λr0 c h0 h1 Lg=>hk _ Lg λr1 h2 h3=>e (h.1.inj _ _ r0 r1 c h0 h2 h1 (h.1.sub _ _ _ h2 h3))
 ·have hh:sv X w' (Xh π l r') {tmps:=st.tmps.map (·.map (Cv l)),heap:=(st.new l b).heap} a:=m.NU rfl h.2
  exact hh
def Real.one (g o cap:Nat):Real:=⟨g,o,cap,λb=>b=g,λb=>b=g⟩
theorem Bm.replace {st:St} {a:Act} (h:Bm X π st a w) (l:Nat) (hl:l<Bq) (r':Option Real) (b:OB)
  (hg:w.grownBy w' ((π l).map (·.g)))
  (hr: ∀r,r'=some r->r=Real.one r.g r.o r.cap/\((∃r0,π l=some r0/\r0.g=r.g)\/w.heap.size<=r.g)/\r.g<w'.heap.size)
  (hb:Move X w w' π (Xh π l r') st.heap (st.new l b).heap (Cv l)->Co X w' (Xh π l r') (st.new l b).heap r' b):Bm X (Xh π l r') (st.new l b) a w':=by
 refine h.js l hl r' b hg (λr c h1 h2=>?_) (λr c h1 h2=>?_) hb
 ·obtain ⟨h3,h4,_⟩:=hr r h1
  have h2':c=r.g:=by rw [h3] at h2;exact h2
  subst h2'
  refine ⟨by rw [h3];rfl,h4.imp (λ⟨r0,h5,h6⟩=>⟨r0,h5,h6▸h.1.Da h5⟩) id⟩
 ·obtain ⟨h3,h4,h5⟩:=hr r h1
  have h2':c=r.g:=by rw [h3] at h2;exact h2
  subst h2'
  refine ⟨?_,h5,λm r0 hm h6 h7=>?_⟩
  ·rcases h4 with ⟨r0,h6,h7⟩|h6
   ·rw [<-h7];exact (h.1.lt h6).2
   ·exact .inl (Iq h.1.below.size h6)
  ·rcases h4 with ⟨r1,h8,h9⟩|h8
   ·exact hm (h.1.inj m l r0 r1 r.g h6 h8 h7 (h9▸h.1.sub l r1 _ h8 (h.1.Da h8)))
   ·have:=(h.1.place m r0 _ h6 h7).2;omega
theorem Nk.drop (h:Nk X w π H) {f:AC->AC} (l:Nat) (m:Move X w w π (Xh π l none) H H' f) (h0:Ay H' l=none) (hH: ∀k,k≠l->Ay H' k=(Ay H k).map (OB.map f)):Nk X w (Xh π l none) H':=by
 have un: ∀k r,Xh π l none k=some r->k≠l/\π k=some r:= λk r hk=>by
  by_cases e:k=l
  ·subst e;rw [Gt] at hk;cases hk
  ·rw [Gq π none e] at hk;exact ⟨e,hk⟩
 refine ⟨h.below,h.sc,λk r c h1 h2=>h.sub k r c (un k r h1).2 h2,λk r c h1 h2=>h.place k r c (un k r h1).2 h2,λl1 l2 r1 r2 c h1 h2 h3 h4=>h.inj _ _ r1 r2 c (un _ _ h1).2 (un _ _ h2).2 h3 h4,λk hp Ip=>?_,λk=>?_⟩
 ·have e:k≠l:= λe=>by subst e;exact Ip h0
  rw [hH k e] at Ip
  rw [Gq π none e]
  exact h.im k hp λh1=>Ip (by rw [h1];rfl)
 ·by_cases e:k=l
  ·subst e
   exact Gm.Uu (by rw [Gt]) h0
  ·have hn:=hH k e
   have ho:=h.heap k
   cases kP:Ay H k with
   |none=>rw [kP] at hn;exact Gm.Uu (by rw [Gq π none e];exact ho.emp kP) hn
   |some c=>
    rw [kP] at hn
    refine Gm.Mf ?_ hn
    rw [Gq π none e]
    exact (ho.Ru kP).move m (Aq _) (λr0 c h0 h1=>h.sub _ r0 c h0 h1) λr0 c h0 h1 Lg=>rfl
theorem Bm.forget {st:St} {a:Act} (h:Bm X π st a w) (l:Nat):Bm X (Xh π l none) (st.forget l) a w:=by
 have m:Move X w w π (Xh π l none) st.heap (st.forget l).heap (Cv l):=
  Move.forget (Aq _) (λ_ _ _=>rfl) (λr c hr=>by cases hr) (λm hm=>St.iV st l m hm) (λ_ _ _ _ _ _=>rfl)
 refine ⟨h.1.drop l m (St.pc st l) λk e=>St.iV st l k e,?_⟩
 have hh:sv X w (Xh π l none) {tmps:=st.tmps.map (·.map (Cv l)),heap:=(st.forget l).heap} a:=m.NU rfl h.2
 exact hh
theorem cellOf {w:World} {g:Nat} {cur:Array Value} {tid:TypeId} (h:w.heap[g]?=some (.cells cur tid (0,0))) (i:Nat):w.cell? ⟨g,i,none⟩=cur[i]?:=by
 simp [World.cell?,h]
theorem Pd {l off len:Nat} {v:Value} {fr tr:Bool} {e:Ty} {tid:TypeId} {xs:List e.den} (h:Hu X w π H (.own l off len) v) (hl:Ay H l=some (.arr fr tr e tid xs)):off+len<=xs.length/\Ig (π l) e.size off len v:=by
 obtain ⟨b,sz,n,h1,h0,h2,h3⟩:=h
 rw [hl] at h1;cases h1
 simp only [OB.row,Aa,Ag] at h0
 obtain ⟨rfl,rfl⟩:=h0
 exact ⟨h2,h3⟩
theorem cg {l off len:Nat} {v:Value} {e:Ty} {tid:TypeId} {xs:List e.den} (h:Hu X w π H (.own l off len) v) (hl:Ay H l=some (.Hc e tid xs)):off+len<=xs.length/\Ig (π l) e.size off len v:=by
 obtain ⟨b,sz,n,h1,h0,h2,h3⟩:=h
 rw [hl] at h1;cases h1
 simp only [OB.row,Aa,Ag] at h0
 obtain ⟨rfl,rfl⟩:=h0
 exact ⟨h2,h3⟩
theorem MP {l off len:Nat} {v:Value} {fr tr:Bool} {e:Ty} {tid:TypeId} {xs:List e.den} (hl:Ay H l=some (.arr fr tr e tid xs)) (h1:off+len<=xs.length) (h2:Ig (π l) e.size off len v):Hu X w π H (.own l off len) v:=
 ⟨_,e.size,xs.length,hl,rfl,h1,h2⟩
theorem ye {r:Real} {off len:Nat} {v:Value} {e:Ty} {tid:TypeId} {xs:List e.den} {S:Nat->Prop} {cur:Array Value} (h2:w.heap[r.g]?=some (.cells cur tid (0,0)))
  (hlen:off+len<=xs.length) (hv:Ig (some r) e.size off len v) (hg: ¬S r.g)
  (hA: ∀(i:Nat) (x:e.den),xs[i]?=some x-> ∃es:List Value,es.length=e.size/\(∀j u,es[j]?=some u->cur[(r.o+i)*e.size+j]?=some u)/\Cells w S e es x):Cells w S (.slice e) [v] ((xs.drop off).take len):=by
 have JV:((xs.drop off).take len).length=len:=by simp;omega
 obtain ⟨ad,rfl,hc,ha⟩:=hv
 refine ⟨some ad,len,r.cap-off,rfl,JV.symm,by omega,?_⟩
 rcases Tw len with h0|h0
 ·left;subst h0;simp
 ·right
  refine ⟨r.g,(r.o+off)*e.size,by rw [ha (by omega)],Gp h2,hg,λi x hx=>?_⟩
  have hi:i<len:=by
   have:=(Ap.1 hx).1
   rw [JV] at this;exact this
  have hx':xs[off+i]?=some x:=by
   rw [Db,Ab hi,Cs] at hx;exact hx
  obtain ⟨es,he,hj,zh⟩:=hA (off+i) x hx'
  refine ⟨es,he,λj u hu=>?_,zh⟩
  rw [cellOf h2]
  have:=hj j u hu
  rw [<-this]
  congr 1
  rw [<-Gx,Dq (r.o+off) i]
theorem pF {l off len:Nat} {v:Value} {fr tr:Bool} {e:Ty} {tid:TypeId} {xs:List e.den} {S:Nat->Prop} (h:Nk X w π H) (hl:Ay H l=some (.arr fr tr e tid xs))
  (hlen:off+len<=xs.length) (hv:Ig (π l) e.size off len v)
  (hS: ∀k,S k->(∃r,π l=some r/\r.Da k)->False) (hA: ∀k,k<w.heap.size->S k->Df X.w0.heap.size X.Sc π fr k):Cells w S (.slice e) [v] ((xs.drop off).take len):=by
 have hb:=(h.heap l).Ru hl
 simp only [Co,Kn] at hb
 cases hp:π l with
 |none=>
  rw [hp] at hb hv
  obtain ⟨rfl,rfl,rfl⟩:=hv
  exact ⟨none,0,0,rfl,by simp,Aq _, .inl (by simp)⟩
 |some r=>
  rw [hp] at hb hv
  obtain ⟨h1,cur,_,h2,h3,h4,h5,h6,_⟩:=hb
  refine ye h2 hlen hv (λhs=>hS _ hs ⟨r,hp,h1.1⟩) λi x hx=>?_
  obtain ⟨es,he,hj,zh⟩:=h6 i x hx
  exact ⟨es,he,hj,Cells.Fz (Aq _) (λ_ _ _=>rfl) hA e es x zh⟩
theorem Ti.slice {D S:Nat->Prop} {R:Option Real} {e:Ty} {x:List e.den} {u:Value} (h:Ti w D R e x) (hv:Ig R e.size 0 (List.length x) u) (hD: ∀k,S k->D k) (hg: ∀q,R=some q-> ¬S q.g):Cells w S (.slice e) [u] x:=by
 cases R with
 |none=>
  have hx:x= []:=h
  subst hx
  obtain ⟨rfl,_,_⟩:=hv
  exact ⟨none,0,0,rfl,rfl,Aq _, .inl rfl⟩
 |some q=>
  obtain ⟨h1,cur,ti,h2,h3,h4,h5,h6⟩:=h
  obtain ⟨ad,rfl,g1,g2⟩:=hv
  refine ⟨some ad,List.length x,_,rfl,rfl,by omega,?_⟩
  rcases Tw (List.length x) with hx|hx
  ·exact .inl (Cp hx)
  ·have ZD:=g2 (by omega)
   subst ZD
   refine .inr ⟨q.g,(q.o+0)*e.size,rfl,Gp h2,hg q rfl,λi y hy=>?_⟩
   obtain ⟨es,k1,k2,k3⟩:=h6 i y hy
   refine ⟨es,k1,λj u hu=>?_,Cells.Fz (Aq _) (λ_ _ _=>rfl) (λk _ hk=>hD k hk) e es y k3⟩
   rw [cellOf h2,Ed,<-Dq]
   exact k2 j u hu
theorem oo {l off len:Nat} {v:Value} {e:Ty} {te:TypeId} {rows:List (List e.den)} {out:Option Nat} {kp:Option (Nat×Nat)} (h:Hu X w π H (.own l off len) v) (hl:Ay H l=some (.Bu e te rows out kp)):off+len<=rows.length/\Ig (π l) 1 off len v:=by
 obtain ⟨b,sz,n,h1,h2,h3,h4⟩:=h
 rw [hl] at h1;cases h1
 simp only [OB.row,Aa,Ag] at h2
 obtain ⟨rfl,rfl⟩:=h2
 exact ⟨h3,h4⟩
theorem th {l off len:Nat} {v:Value} {e:Ty} {te:TypeId} {rows:List (List e.den)} {kp:Option (Nat×Nat)} {S:Nat->Prop} (h:Nk X w π H) (hl:Ay H l=some (.Bu e te rows none kp))
  (hlen:off+len<=rows.length) (hv:Ig (π l) 1 off len v)
  (hS: ∀k,S k->(∃r,π l=some r/\r.Da k)->False) (hA: ∀k,S k->Df X.w0.heap.size X.Sc π false k):Cells w S (.slice (.slice e)) [v] ((rows.drop off).take len):=by
 have hb:=(h.heap l).Ru hl
 simp only [Co] at hb
 have hb:=hb.1
 cases hp:π l with
 |none=>
  rw [hp] at hb hv
  have hb:rows= []:=hb
  obtain ⟨rfl,rfl,rfl⟩:=hv
  exact ⟨none,0,0,rfl,by simp,Aq _, .inl (by simp)⟩
 |some r=>
  rw [hp] at hb hv
  obtain ⟨h1,cur,ti,h2,h3,h4,h5,Rs,h6,h7,h8,h9⟩:=hb
  obtain ⟨ad,rfl,g1,g2⟩:=hv
  refine ⟨some ad,len,_,rfl,by simp;omega,by omega,?_⟩
  rcases Tw len with hx|hx
  ·subst hx;exact .inl (by simp)
  ·have ZD:=g2 (by omega)
   subst ZD
   refine .inr ⟨r.g,(r.o+off)*1,rfl,Gp h2,λhs=>hS _ hs ⟨r,hp,h1⟩,λi x hx=>?_⟩
   have hx:((rows.drop off).take len)[i]?=some x:=hx
   rw [Db] at hx
   split at hx
   ·rw [Cs] at hx
    obtain ⟨u,R,k1,k2,k3,k4⟩:=h9 _ x hx (by simp)
    refine ⟨[u],rfl,λj u' ic=>?_,k4.slice k3 hA λq hq hs=>hS _ hs ⟨r,hp,(h7 _ q (by rw [k2,hq])).1⟩⟩
    rcases j with _|j
    ·simp only [Bz,Aa] at ic
     subst ic
     rw [cellOf h2,<-k1]
     congr 1
     simp only [Ty.size];omega
    ·simp at ic
   ·cases hx
theorem FB {l i c:Nat} {v:Value} {e:Ty} {te:TypeId} {rows:List (List e.den)} {out:Option Nat} {kp:Option (Nat×Nat)} (hv:Hu X w π H (.sub l i c) v) (hl:Ay H l=some (.Bu e te rows out kp)):rows[i]?=some (rows.getD i []):=by
 obtain ⟨r,b,sz,n,h1,h0,_,h3,_⟩:=hv
 rw [hl] at h1;cases h1
 simp only [OB.gJ,Aa,Ag] at h0
 obtain ⟨rfl,rfl⟩:=h0
 rw [Al,Ad h3];rfl
theorem nP {l i:Nat} {e:Ty} {te:TypeId} {rows:List (List e.den)} {out:Option Nat} {kp:Option (Nat×Nat)} {r:Real} (h:Nk X w π H) (hl:Ay H l=some (.Bu e te rows out kp)) (hp:π l=some r) (hi:i<rows.length) (ho:out≠some i):
  ∃u R,w.cell? ⟨r.g,r.o+i,none⟩=some u/\Ig R e.size 0 (rows.getD i []).length u/\Ti w (Df X.w0.heap.size X.Sc π false) R e (rows.getD i []):=by
 have hb:=(h.heap l).Ru hl
 simp only [Co] at hb
 have hb:=hb.1
 rw [hp] at hb
 obtain ⟨h1,cur,ti,h2,h3,h4',h5',Rs,h6,h7,h8,h9⟩:=hb
 have hx:rows[i]?=some (rows.getD i []):=by rw [Al,Ad hi];rfl
 obtain ⟨u,R,k1,k2,k3,k4⟩:=h9 _ _ hx ho
 exact ⟨u,R,by rw [cellOf h2];exact k1,k3,k4⟩
theorem bb {R:Option Real} {sz off len:Nat} {u:Value} (h:Ig R sz off len u): ∃a n m,u= .slice a n m:=by
 cases R with
 |none=>exact ⟨_,_,_,h.1⟩
 |some q=>obtain ⟨ad,rfl,_⟩:=h;exact ⟨_,_,_,rfl⟩
theorem tj {l i c:Nat} {v:Value} {e:Ty} {te:TypeId} {rows:List (List e.den)} {kp:Option (Nat×Nat)} {x:List e.den} {S:Nat->Prop} (h:Nk X w π H) (hl:Ay H l=some (.Bu e te rows none kp)) (hx:rows[i]?=some x)
  (hv:Hu X w π H (.sub l i c) v)
  (hS: ∀k,S k->(∃r,π l=some r/\r.Da k)->False) (hA: ∀k,S k->Df X.w0.heap.size X.Sc π false k):Cells w S (.slice e) [v] x:=by
 obtain ⟨r,b,sz,n,h1,h0,hp,h3,⟨h4,_⟩,h5⟩:=hv
 rw [hl] at h1;cases h1
 simp only [OB.gJ,Aa,Ag] at h0
 obtain ⟨rfl,rfl⟩:=h0
 have hb:=(h.heap l).Ru hl
 simp only [Co] at hb
 have hb:=hb.1
 rw [hp] at hb
 obtain ⟨h1,cur,ti,h2,h3,h4',h5',Rs,h6,h7,h8,h9⟩:=hb
 obtain ⟨u,R,k1,k2,k3,k4⟩:=h9 _ x hx (by simp)
 have:c=0:=by omega
 subst this
 rw [cellOf h2,Fw,Ed,k1] at h5
 have hv:=Bd h5
 subst hv
 exact k4.slice k3 hA λq hq hs=>hS _ hs ⟨r,hp,(h7 _ q (by rw [k2,hq])).1⟩
theorem mQ {l off len:Nat} {v:Value} {e:Ty} {tid:TypeId} {xs:List e.den} {S:Nat->Prop} (h:Nk X w π H) (hl:Ay H l=some (.Hc e tid xs))
  (hlen:off+len<=xs.length) (hv:Ig (π l) e.size off len v)
  (hS: ∀k,S k->(∃r,π l=some r/\r.Da k)->False):Cells w S (.slice e) [v] ((xs.drop off).take len):=by
 have hb:=(h.heap l).Ru hl
 simp only [Co,Om] at hb
 cases hp:π l with
 |none=>
  rw [hp] at hb hv
  obtain ⟨rfl,rfl,rfl⟩:=hv
  exact ⟨none,0,0,rfl,by simp,Aq _, .inl (by simp)⟩
 |some r=>
  rw [hp] at hb hv
  obtain ⟨h1,cur,_,h2,h3,h4,h5,Fs,k1,k2,k3,k4⟩:=hb
  refine ye h2 hlen hv (λhs=>hS _ hs ⟨r,hp,h1⟩) λi x hx=>?_
  have hi:i<Fs.length:=by have:=(Ap.1 hx).1;omega
  obtain ⟨es,he,hj,zh⟩:=k4 i x _ hx (Ad hi)
  exact ⟨es,he,hj,zh.cells _ _ _ _ λb hb hs=>hS b hs ⟨r,hp,k3 b (Ht.2 ⟨_,Am hi,hb⟩)⟩⟩
theorem St.Sb (st:St) (l m:Nat) (fr:Bool) (e:Ty) (xs:List e.den) (h:m≠l):Ay (st.freeze l fr e xs).heap m=(Ay st.heap m).map (OB.map (De l fr e xs)):=by
 simp only [St.freeze,St.Ln]
 rw [Od _ _ _ h,Pk]
theorem St.Mp (st:St) (l:Nat) (fr:Bool) (e:Ty) (xs:List e.den):Ay (st.freeze l fr e xs).heap l=none:=by
 simp only [St.freeze,St.Ln]
 exact Mv _ _
theorem sK {l:Nat} {B:Nat} {Sc:Nat->Prop} {fr:Bool} {k:Nat} (hA:Df B Sc (Xh π l none) fr k):Df B Sc π fr k:=by
 rcases hA with ⟨m,r,hm,hg⟩|h2
 ·by_cases j0:m=l
  ·subst j0;rw [Gt] at hm;cases hm
  ·rw [Gq π none j0] at hm
   exact .inl ⟨m,r,hm,hg⟩
 ·exact .inr h2
theorem Nk.let (h:Nk X w π H) {l:Nat} {fr:Bool} (zi:fr=true-> ∀r,π l=some r-> ∀b,r.Da b->X.w0.heap.size<=b) {k:Nat} (hS:Df X.w0.heap.size X.Sc (Xh π l none) fr k) (hk: ∃r,π l=some r/\r.Da k):False:=by
 obtain ⟨r,hr,LX⟩:=hk
 rcases hS with ⟨m,r',hm,hg⟩|hS|⟨hf,hS⟩
 ·by_cases j0:m=l
  ·subst j0;rw [Gt] at hm;cases hm
  ·rw [Gq π none j0] at hm
   exact j0 (h.apart hm hr hg LX)
 ·have h1:=h.sc k hS
  rcases (h.own ⟨l,r,hr,LX⟩).2 with h2|h2
  ·omega
  ·exact h1.2 h2
 ·have:=zi hf r hr k LX;omega
theorem Move.QO {l:Nat} {f:AC->AC} (hf: ∀c v,Hu X w π H c v->(∀k∈c.refs,k≠l)->f c=c)
  (hl: ∀c v,Hu X w π H c v->l∈c.refs->Hu X w (Xh π l none) H' (f c) v)
  (hH: ∀m,m≠l->Ay H' m=(Ay H m).map (OB.map f)):Move X w w π (Xh π l none) H H' f:=by
 have hc: ∀Wm τ cs x,Cells w (Df X.w0.heap.size X.Sc π Wm) τ cs x->Cells w (Df X.w0.heap.size X.Sc (Xh π l none) Wm) τ cs x:=
  fun Wm τ cs x hh=>Cells.Fz (Aq _) (λ_ _ _=>rfl) (λk _ hA=>sK hA) τ cs x hh
 refine ⟨λc v LN=>?_,hc⟩
 by_cases hlr:l∈c.refs
 ·exact hl c v LN hlr
 ·rw [hf c v LN λk hk e=>hlr (e▸hk)]
  cases c with
  |data Wm τ x=>obtain ⟨cs,h1,h2⟩:=LN;exact ⟨cs,hc _ _ _ _ h1,h2⟩
  |own k off len=>
   have Nn:k≠l:= λe=>hlr (by simp [AC.refs,e])
   obtain ⟨b,sz,n,h1,h0,h2,h3⟩:=LN
   exact ⟨b.map f,sz,n,by rw [hH k Nn,h1];rfl,by cases b<;>exact h0,h2,by rw [Gq π none Nn];exact h3⟩
  |Ho k i=>
   have Nn:k≠l:= λe=>hlr (by simp [AC.refs,e])
   obtain ⟨r,Vh,vs,h1,h2,h3⟩:=LN
   exact ⟨r,Vh,vs.map f,by rw [hH k Nn,h1];rfl,by rw [Gq π none Nn];exact h2,h3⟩
  |Kp k i=>
   have Nn:k≠l:= λe=>hlr (by simp [AC.refs,e])
   obtain ⟨r,b,sz,n,h1,h0,h2,h3,h4⟩:=LN
   exact ⟨r,b.map f,sz,n,by rw [hH k Nn,h1];rfl,by cases b<;>exact h0,h2,by rw [Gq π none Nn];exact h3,h4⟩
  |sub k i c=>
   have Nn:k≠l:= λe=>hlr (by simp [AC.refs,e])
   obtain ⟨r,b,sz,n,h1,h0,h2,h3⟩:=LN
   exact ⟨r,b.map f,sz,n,by rw [hH k Nn,h1];rfl,by cases b<;>exact h0,by rw [Gq π none Nn];exact h2,h3⟩
  |Km k i c=>
   have Nn:k≠l:= λe=>hlr (by simp [AC.refs,e])
   obtain ⟨r,b,n,sz,g,o,len,cap,h1,h0,h2,h3⟩:=LN
   exact ⟨r,b.map f,n,sz,g,o,len,cap,by rw [hH k Nn,h1];rfl,by cases b<;>exact h0,by rw [Gq π none Nn];exact h2,h3⟩
  |clo g Ew=>
   obtain ⟨us,h1,h2,h3⟩:=LN
   refine ⟨us,h1,h2,λj p hp=>?_⟩
   obtain ⟨r,tid,vs,h4,h5,h6⟩:=h3 j p hp
   have lq:p.1≠l:= λe=>hlr (by simp only [AC.refs,Be];exact ⟨p,Cq hp,e⟩)
   exact ⟨r,tid,vs.map f,by rw [hH _ lq,h4];rfl,by rw [Gq π none lq];exact h5,h6⟩
  |Ky k=>
   have Nn:k≠l:= λe=>hlr (by simp [AC.refs,e])
   obtain ⟨r,vt,m,h1,h2,h3⟩:=LN
   exact ⟨r,vt,m,by rw [hH k Nn,h1];rfl,by rw [Gq π none Nn];exact h2,h3⟩
  |_=>exact LN
theorem iJ {l:Nat} {ls:List Nat} (h: ∀k∈ls,k≠l):ls.contains l=false:=by
 cases hc:ls.contains l with
 |false=>rfl
 |true=>exact absurd rfl (h l (by simpa using hc))
theorem iW {l:Nat} {fr:Bool} {e:Ty} {xs:List e.den} {c:AC} (h: ∀k∈c.refs,k≠l):De l fr e xs c=c:=by
 cases c<;>simp only [De]<;>first|rfl|skip
 case clo f Ew=>rw [Ai (by rw [iJ (show ∀k∈Ew.map (·.1),k≠l from h)];simp)]
 all_goals rw [Ai (h _ (by simp [AC.refs]))]
theorem td {l:Nat} {v:Ty} {m:ByteArray->Option v.den} {c:AC} (h: ∀k∈c.refs,k≠l):Hi l v m c=c:=by
 cases c<;>simp only [Hi]<;>first|rfl|skip
 case clo f Ew=>rw [Ai (by rw [iJ (show ∀k∈Ew.map (·.1),k≠l from h)];simp)]
 all_goals rw [Ai (h _ (by simp [AC.refs]))]
theorem Move.freeze {l:Nat} {fr:Bool} {e:Ty} {xs:List e.den}
  (Aod: ∀off len v,Hu X w π H (.own l off len) v->Cells w (Df X.w0.heap.size X.Sc (Xh π l none) fr) (.slice e) [v] ((xs.drop off).take len))
  (hH: ∀m,m≠l->Ay H' m=(Ay H m).map (OB.map (De l fr e xs))):Move X w w π (Xh π l none) H H' (De l fr e xs):=by
 refine Move.QO (λc v _ h=>iW h) (λc v LN hr=>?_) hH
 cases c with
 |own k off len=>
  have:k=l:=(Af.1 hr).symm
  subst this
  simp only [De,Ab]
  exact ⟨[v],Aod off len v LN,by simp [Ci,Ty.Ar]⟩
 |Ho k i=>have:k=l:=(Af.1 hr).symm
          subst this;simp only [De,Ab];trivial
 |Kp k i=>have:k=l:=(Af.1 hr).symm
          subst this;simp only [De,Ab];trivial
 |sub k i c=>have:k=l:=(Af.1 hr).symm
             subst this;simp only [De,Ab];trivial
 |Km k i c=>have:k=l:=(Af.1 hr).symm
            subst this;simp only [De,Ab];trivial
 |Ky k=>have:k=l:=(Af.1 hr).symm
        subst this;simp only [De,Ab];trivial
 |clo f Ew=>
  simp only [De]
  rw [Ab (by simpa [AC.refs] using hr)];trivial
 |_=>simp [AC.refs] at hr
theorem Bm.freeze {st:St} {a:Act} (h:Bm X π st a w) {l:Nat} {fr:Bool} {e:Ty} {xs:List e.den}
  (hl:(∃tr tid,Ay st.heap l=some (.arr fr tr e tid xs))\/(fr=false/\ ∃tid,Ay st.heap l=some (.Hc e tid xs))):
  Bm X (Xh π l none) (st.freeze l fr e xs) a w/\Move X w w π (Xh π l none) st.heap (st.freeze l fr e xs).heap (De l fr e xs):=by
 have m:Move X w w π (Xh π l none) st.heap (st.freeze l fr e xs).heap (De l fr e xs):=by
  refine Move.freeze (λoff len v hv=>?_) (λm hm=>St.Sb st l m fr e xs hm)
  rcases hl with ⟨tr,tid,hl⟩|⟨rfl,tid,hl⟩
  ·obtain ⟨h2,h3⟩:=Pd hv hl
   refine pF h.1 hl h2 h3 (λk hk=>?_) λk _ hk=>sK hk
   intro ⟨r,hr,LX⟩
   have hb:=(h.1.heap l).Ru hl
   simp only [Co,Kn,hr] at hb
   by_cases hkg:k=r.g
   ·subst hkg
    rcases hk with ⟨m,r',hm,hg⟩|hS|⟨hf,hS⟩
    ·by_cases j0:m=l
     ·subst j0;rw [Gt] at hm;cases hm
     ·rw [Gq π none j0] at hm
      exact j0 (h.1.apart hm hr hg LX)
    ·have h1:=h.1.sc _ hS
     rcases (h.1.own ⟨l,r,hr,LX⟩).2 with h2|h2
     ·omega
     ·exact h1.2 h2
    ·have:=hb.1.2.2 hf;omega
   ·exact absurd (hb.1.2.1 k LX) hkg
  ·obtain ⟨h2,h3⟩:=cg hv hl
   exact mQ h.1 hl h2 h3 λk hk hr=>h.1.let (λhf=>by cases hf) hk hr
 refine ⟨⟨h.1.drop l m (St.Mp st l fr e xs) λk e'=>St.Sb st l k fr e xs e',?_⟩,m⟩
 have hh:sv X w (Xh π l none) {tmps:=st.tmps.map (·.map (De l fr e xs)),heap:=(st.freeze l fr e xs).heap} a:=m.NU rfl h.2
 exact hh
theorem St.Rf (st:St) (l k:Nat) (v:Ty) (m:ByteArray->Option v.den) (h:k≠l):Ay (st.Jb l v m).heap k=(Ay st.heap k).map (OB.map (Hi l v m)):=by
 simp only [St.Jb,St.Ln]
 rw [Od _ _ _ h,Pk]
theorem St.Tl (st:St) (l:Nat) (v:Ty) (m:ByteArray->Option v.den):Ay (st.Jb l v m).heap l=none:=by
 simp only [St.Jb,St.Ln]
 exact Mv _ _
theorem yp {r:Option Real} {v:Ty} {m:ByteArray->Option v.den} {g:Nat} {S:Nat->Prop} (h:YA w r v m) (hg:r.map (·.g)=some g) (hS: ¬S g):Cells w S (.smap v) [.map (some g)] m:=by
 obtain ⟨r',h0,h1,h2,h3⟩:=h
 rw [h0] at hg
 simp only [An,Aa] at hg
 subst hg
 simp only [Cells] at h3⊢
 rcases h3 with ⟨h3,_⟩|⟨g,h3,hg,_,es,clock,h4,h5,h6,h7⟩
 ·simp at h3
 ·simp only [Ha,Value.map.injEq,Aa,bm] at h3
  subst h3
  refine .inr ⟨r'.g,rfl,hg,hS,es,clock,h4,h5,h6,λs y hy=>?_⟩
  obtain ⟨u,h8,h9⟩:=h7 s y hy
  exact ⟨u,h8,Cells.flat v [u] y h2.1 h9⟩
theorem Bm.Jb {st:St} {a:Act} (h:Bm X π st a w) {l:Nat} {v:Ty} {m:ByteArray->Option v.den} (hl:Ay st.heap l=some (.Wb v m)):
  Bm X (Xh π l none) (st.Jb l v m) a w/\Move X w w π (Xh π l none) st.heap (st.Jb l v m).heap (Hi l v m):=by
 have mv:Move X w w π (Xh π l none) st.heap (st.Jb l v m).heap (Hi l v m):=by
  refine Move.QO (λc u _ h=>td h) (λc u LN hr=>?_) (λk hk=>St.Rf st l k v m hk)
  cases c with
  |Ky k=>
   have:k=l:=(Af.1 hr).symm
   subst this
   simp only [Hi,Ab]
   obtain ⟨r,vt,m',h1,h2,rfl⟩:=LN
   exact ⟨[_],yp ((h.1.heap k).Ru hl) (by rw [h2];rfl) λhS=>h.1.let (λhf=>by cases hf) hS ⟨r,h2,h.1.Da h2⟩,by simp [Ci,Ty.Ar]⟩
  |own k off len=>have:k=l:=(Af.1 hr).symm
                  subst this;simp only [Hi,Ab];trivial
  |Ho k i=>have:k=l:=(Af.1 hr).symm
           subst this;simp only [Hi,Ab];trivial
  |Kp k i=>have:k=l:=(Af.1 hr).symm
           subst this;simp only [Hi,Ab];trivial
  |sub k i c=>have:k=l:=(Af.1 hr).symm
              subst this;simp only [Hi,Ab];trivial
  |Km k i c=>have:k=l:=(Af.1 hr).symm
             subst this;simp only [Hi,Ab];trivial
  |clo f Ew=>
   simp only [Hi]
   rw [Ab (by simpa [AC.refs] using hr)];trivial
  |_=>simp [AC.refs] at hr
 refine ⟨⟨h.1.drop l mv (St.Tl st l v m) λk e'=>St.Rf st l k v m e',?_⟩,mv⟩
 have hh:sv X w (Xh π l none) {tmps:=st.tmps.map (·.map (Hi l v m)),heap:=(st.Jb l v m).heap} a:=mv.NU rfl h.2
 exact hh
def OB.fits:OB->OB->Prop
 | .arr _ _ e _ xs, .arr _ _ e' _ xs'=>e=e'/\xs.length<=xs'.length
 | .var _ _, .var _ _=>True
 | .Wb _ _, .Wb _ _=>True
 |_,_=>False
theorem Move.Ai2 {tc:Nat->Prop} {π':Pi} (hs:w.heap.size<=w'.heap.size)
  (hk: ∀k,k<w.heap.size->(∀l r,tc l->π l=some r-> ¬r.Da k)->w'.heap[k]?=w.heap[k]?)
  (hO: ∀b,b<w.heap.size->Wf π' b->Wf π b)
  (hH: ∀m,¬tc m->Ay H' m=Ay H m/\π' m=π m) (hH': ∀m,tc m->bG (π m) (π' m)/\ ∀b0,Ay H m=some b0-> ∃b,Ay H' m=some b/\b0.fits b)
  (hx: ∀m r,¬tc m->π m=some r->(∃b,Ay H m=some b/\b.gJ≠none)->r.g<w.heap.size->w'.heap[r.g]?=w.heap[r.g]?):Move X w w' π π' H H' (λc=>c):=by
 have hc: ∀fr τ cs x,Cells w (Df X.w0.heap.size X.Sc π fr) τ cs x->Cells w' (Df X.w0.heap.size X.Sc π' fr) τ cs x:=by
  intro fr τ cs x h
  exact Cells.Fz hs (λk mU hn=>hk k mU λl r _ h0 h1=>hn (.inl ⟨l,r,h0,h1⟩)) (λk Lg hA=>hA.imp (hO k Lg) id) τ cs x h
 have same: ∀m r,π m=some r-> ∃r',π' m=some r'/\r.g=r'.g/\r.o=r'.o/\r.cap=r'.cap:=by
  intro m r hm
  by_cases ht:tc m
  ·have:=(hH' m ht).1
   rw [hm] at this
   cases hp:π' m with
   |none=>rw [hp] at this;exact this.elim
   |some r'=>rw [hp] at this;exact ⟨r',rfl,this.1,this.2.1,this.2.2.1⟩
  ·exact ⟨r,by rw [(hH m ht).2];exact hm,rfl,rfl,rfl⟩
 have fit: ∀m b,Ay H m=some b-> ∃b',Ay H' m=some b'/\(b'=b\/b.fits b'):=by
  intro m b hm
  by_cases ht:tc m
  ·obtain ⟨b',h1,h2⟩:=(hH' m ht).2 b hm;exact ⟨b',h1, .inr h2⟩
  ·exact ⟨b,by rw [(hH m ht).1];exact hm, .inl rfl⟩
 refine ⟨λc v h=>?_,hc⟩
 cases c with
 |data fr τ x=>obtain ⟨cs,h1,h2⟩:=h;exact ⟨cs,hc _ _ _ _ h1,h2⟩
 |own k off len=>
  obtain ⟨b,sz,n,h1,h0,h2,h3⟩:=h
  have vI:Ig (π' k) sz off len v:=by
   cases hp:π k with
   |none=>
    rw [hp] at h3
    have:π' k=none:=by
     by_cases ht:tc k
     ·have:=(hH' k ht).1
      rw [hp] at this
      cases FH:π' k with
      |none=>rfl
      |some r'=>rw [FH] at this;exact this.elim
     ·rw [(hH k ht).2];exact hp
    rw [this];exact h3
   |some r=>
    rw [hp] at h3
    obtain ⟨r',h4,h5,h6,h7⟩:=same k r hp
    rw [h4]
    unfold Ig at h3⊢
    simp only at h3⊢
    rw [<-h5,<-h6,<-h7]
    exact h3
  obtain ⟨b',h4,h5⟩:=fit k b h1
  rcases h5 with rfl|h5
  ·exact ⟨_,sz,n,h4,h0,h2,vI⟩
  ·cases b<;>cases b'<;>first|exact h5.elim|(simp [OB.row] at h0;done)|skip
   ·obtain ⟨rfl,hlen⟩:=h5
    simp only [OB.row,Aa,Ag] at h0
    obtain ⟨rfl,rfl⟩:=h0
    exact ⟨_,_,_,h4,rfl,by omega,vI⟩
 |Ho k i=>
  obtain ⟨r,tid,vs,h1,h2,h3⟩:=h
  obtain ⟨r',h4,h5,_⟩:=same k r h2
  obtain ⟨b',h6,h7⟩:=fit k _ h1
  rcases h7 with rfl|h7
  ·exact ⟨r',tid,vs,h6,h4,by rw [<-h5];exact h3⟩
  ·cases b'<;>first|exact h7.elim|exact ⟨r',_,_,h6,h4,by rw [<-h5];exact h3⟩
 |Kp k i=>
  obtain ⟨r,b,sz,n,h1,h0,h2,h3,h4⟩:=h
  obtain ⟨r',h5,h6,h7,_⟩:=same k r h3
  obtain ⟨b',h8,h9⟩:=fit k _ h1
  rcases h9 with rfl|h9
  ·exact ⟨r',_,sz,n,h8,h0,h2,h5,by rw [<-h6,<-h7];exact h4⟩
  ·cases b<;>cases b'<;>first|exact h9.elim|(simp [OB.row] at h0;done)|skip
   obtain ⟨rfl,hlen⟩:=h9
   simp only [OB.row,Aa,Ag] at h0
   obtain ⟨rfl,rfl⟩:=h0
   exact ⟨r',_,_,_,h8,rfl,by omega,h5,by rw [<-h6,<-h7];exact h4⟩
 |sub k i c=>
  obtain ⟨r,b,sz,n,h1,h0,h2,h3,h4,h5⟩:=h
  by_cases ht:tc k
  ·obtain ⟨b',h6,h7⟩:=(hH' k ht).2 _ h1
   cases b<;>first|(cases h0;done)|skip
   all_goals (cases b'<;>exact h7.elim)
  ·exact ⟨r,b,sz,n,by rw [(hH k ht).1];exact h1,h0,by rw [(hH k ht).2];exact h2,h3,h4,by rw [World.cell?_of_block (hx k r ht h2 ⟨b,h1,by rw [h0];simp⟩ (cD h5))];exact h5⟩
 |Km k i c=>
  obtain ⟨r,b,n,sz,g,o,len,cap,h1,h0,h2,h3,h4,h5,h6⟩:=h
  by_cases ht:tc k
  ·obtain ⟨b',h6,h7⟩:=(hH' k ht).2 _ h1
   cases b<;>first|(cases h0;done)|skip
   all_goals (cases b'<;>exact h7.elim)
  ·exact ⟨r,b,n,sz,g,o,len,cap,by rw [(hH k ht).1];exact h1,h0,by rw [(hH k ht).2];exact h2,h3,h4,by rw [World.cell?_of_block (hx k r ht h2 ⟨b,h1,by cases b<;>first|(cases h0;done)|simp [OB.gJ]⟩ (cD h5))];exact h5,h6⟩
 |clo f Ew=>
  obtain ⟨us,h1,h2,h3⟩:=h
  refine ⟨us,h1,h2,λj p hp=>?_⟩
  obtain ⟨r,tid,vs,h4,h5,h6⟩:=h3 j p hp
  obtain ⟨r',h7,h8,_⟩:=same _ r h5
  obtain ⟨b',h9,qt⟩:=fit _ _ h4
  rcases qt with rfl|qt
  ·exact ⟨r',tid,vs,h9,h7,by rw [<-h8];exact h6⟩
  ·cases b'<;>first|exact qt.elim|exact ⟨r',_,_,h9,h7,by rw [<-h8];exact h6⟩
 |Ky k=>
  obtain ⟨r,vt,m,h1,h2,h3⟩:=h
  obtain ⟨r',h4,h5,_⟩:=same k r h2
  obtain ⟨b',h6,h7⟩:=fit k _ h1
  rcases h7 with rfl|h7
  ·exact ⟨r',vt,m,h6,h4,by rw [<-h5];exact h3⟩
  ·cases b'<;>first|exact h7.elim|exact ⟨r',_,_,h6,h4,by rw [<-h5];exact h3⟩
 |_=>exact h
def Real.plus (r:Real) (N:List Nat):Real:= {r with cl:= λc=>r.cl c\/c∈N}
theorem Bm.Avj {st:St} {a:Act} (h:Bm X π st a w) {l:Nat} {b0 b:OB} (hl:Ay st.heap l=some b0) (hf:b0.fits b) {r:Real} (hr:π l=some r) {N:List Nat}
  (hN: ∀c∈N,(X.w0.heap.size<=c\/X.gv c)/\c<w.heap.size/\ ∀m r0,m≠l->π m=some r0-> ¬r0.cl c) (hg:w.grownBy w' (some r.g))
  (hb:Move X w w' π (Xh π l (some (r.plus N))) st.heap (st.Kl l b).heap (λc=>c)->Co X w' (Xh π l (some (r.plus N))) (st.Kl l b).heap (some (r.plus N)) b):Bm X (Xh π l (some (r.plus N))) (st.Kl l b) a w':=by
 have hk: ∀k,k<w.heap.size-> ¬r.Da k->w'.heap[k]?=w.heap[k]?:= λk hk hn=>hg.block k hk (by
  intro e
  simp only [Aa] at e
  exact hn (e▸h.1.Da hr))
 have vK: ∀k q,Xh π l (some (r.plus N)) k=some q-> ∃q0,π k=some q0/\(q=q0\/(k=l/\q0=r/\q=r.plus N)):= λk q hq=>by
  by_cases e:k=l
  ·subst e;rw [Gt] at hq;exact ⟨r,hr, .inr ⟨rfl,rfl,(Bd hq).symm⟩⟩
  ·rw [Gq π _ e] at hq;exact ⟨q,hq, .inl rfl⟩
 have cl': ∀k q q0 c,(q=q0\/(k=l/\q0=r/\q=r.plus N))->q.cl c->q0.cl c\/(k=l/\c∈N):= λk q q0 c h1 h2=>by
  rcases h1 with rfl|⟨rfl,rfl,rfl⟩
  ·exact .inl h2
  ·rcases h2 with h2|h2
   ·exact .inl h2
   ·exact .inr ⟨rfl,h2⟩
 have ft: ∀k q q0 c,(q=q0\/(k=l/\q0=r/\q=r.plus N))->(q.Da c↔q0.Da c):= λk q q0 c h1=>by
  rcases h1 with rfl|⟨rfl,rfl,rfl⟩<;>exact Iff.rfl
 have m:Move X w w' π (Xh π l (some (r.plus N))) st.heap (st.Kl l b).heap (λc=>c):=Move.Ai2 (tc:= λk=>k=l) hg.size (λk Lg hn=>hk k Lg (hn l r rfl hr)) (λc _ ⟨k,q,h1,h2⟩=>by
   obtain ⟨q0,h3,h4⟩:=vK k q h1
   exact ⟨k,q0,h3,(ft k q q0 c h4).1 h2⟩)
  (λm hm=>⟨Er _ _ _ _ hm,Gq π _ hm⟩) (λm hm=>by subst hm;exact ⟨by rw [hr,Gt];exact ⟨rfl,rfl,rfl,λ_=>Iff.rfl⟩,λb1 h1=>by rw [hl] at h1;cases h1;exact ⟨b,Fk _ _ _ _ hl,hf⟩⟩)
  (λm r' hm h1 _ Lg=>hk _ Lg λh3=>hm (h.1.apart h1 hr (h.1.Da h1) h3))
 refine ⟨⟨?_,h.1.sc,λk q c h1 h2=>?_,λk q c h1 h2=>?_,λk k' q q' c h1 h2 h3 h4=>?_,λk hp Ip=>?_,λk=>?_⟩,?_⟩
 ·exact h.1.below.grown hg h.1.below.size λk hk=>by cases hk;exact (h.1.lt hr).2
 ·obtain ⟨q0,h3,h4⟩:=vK k q h1
  have:=h.1.sub k q0 c h3 ((ft k q q0 c h4).1 h2)
  rcases h4 with rfl|⟨rfl,rfl,rfl⟩
  ·exact this
  ·exact .inl this
 ·obtain ⟨q0,h3,h4⟩:=vK k q h1
  rcases cl' k q q0 c h4 h2 with h5|⟨_,h5⟩
  ·exact ⟨(h.1.place k q0 c h3 h5).1,Ex (h.1.place k q0 c h3 h5).2 hg.size⟩
  ·exact ⟨(hN c h5).1,Ex (hN c h5).2.1 hg.size⟩
 ·obtain ⟨q0,g1,g2⟩:=vK k q h1
  obtain ⟨q0',g3,g4⟩:=vK k' q' h2
  rcases cl' k q q0 c g2 h3 with h5|⟨h5,h6⟩<;>rcases cl' k' q' q0' c g4 h4 with h7|⟨h7,h8⟩
  ·exact h.1.inj k k' q0 q0' c g1 g3 h5 h7
  ·refine Bs λhn=>(hN c h8).2.2 k q0 (λe=>hn (e.trans h7.symm)) g1 h5
  ·refine Bs λhn=>(hN c h6).2.2 k' q0' (λe=>hn (h5.trans e.symm)) g3 h7
  ·rw [h5,h7]
 ·by_cases e:k=l
  ·subst e
   have:=h.1.im k hp (by rw [hl];simp)
   rw [hr] at this
   rw [Gt]
   cases hx:X.im k with
   |none=>rw [hx] at this;exact this.elim
   |some q=>rw [hx] at this;exact this
  ·rw [Gq π _ e]
   exact h.1.im k hp λh0=>Ip (by rw [show Ay (st.Kl l b).heap k=Ay st.heap k from Er _ _ _ _ e];exact h0)
 ·by_cases e:k=l
  ·subst e
   exact Gm.Mf (by rw [Gt];exact hb m) (Fk _ _ _ _ hl)
  ·have hn:Ay (st.Kl l b).heap k=Ay st.heap k:=Er _ _ _ _ e
   have ho:=h.1.heap k
   cases kP:Ay st.heap k with
   |none=>rw [kP] at hn;exact Gm.Uu (by rw [Gq π _ e];exact ho.emp kP) hn
   |some c=>
    rw [kP] at hn
    refine Gm.Mf ?_ hn
    rw [Gq π _ e]
    have:=(ho.Ru kP).move m hg.size (λr0 c h0 h1=>h.1.sub _ r0 c h0 h1) λr0 c h0 h1 Lg=>hk _ Lg λh3=>e (h.1.inj _ _ r0 r c h0 hr h1 (h.1.sub _ _ _ hr h3))
    cases c with
    |var tid vs=>simpa [OB.map] using this
    |_=>exact this
 ·exact ⟨h.2.size,h.2.defers,λt=>by have:=m.av (h.2.tmps t);rwa [AC.map_id] at this⟩
theorem Bm.set {st:St} {a:Act} (h:Bm X π st a w) {l:Nat} {b0 b:OB} (hl:Ay st.heap l=some b0) (hf:b0.fits b)
  (hg:w.grownBy w' ((π l).map (·.g)))
  (hb:Move X w w' π π st.heap (st.Kl l b).heap (λc=>c)->Co X w' π (st.Kl l b).heap (π l) b):Bm X π (st.Kl l b) a w':=by
 have hk: ∀k,k<w.heap.size->(∀r,π l=some r-> ¬r.Da k)->w'.heap[k]?=w.heap[k]?:= λk hk hn=>hg.block k hk (by
  intro e
  cases hp:π l with
  |none=>rw [hp] at e;cases e
  |some r=>rw [hp] at e;simp only [An,Aa] at e;exact hn r hp (e▸h.1.Da hp))
 have m:Move X w w' π π st.heap (st.Kl l b).heap (λc=>c):=Move.Ai2 (tc:= λk=>k=l) hg.size (λk Lg hn=>hk k Lg λr hr=>hn l r rfl hr) (λ_ _ h=>h)
  (λm hm=>⟨Er _ _ _ _ hm,rfl⟩) (λm hm=>by subst hm;exact ⟨bG.rfl' _,λb1 h1=>by rw [hl] at h1;cases h1;exact ⟨b,Fk _ _ _ _ hl,hf⟩⟩)
  (λm r hm h1 _ Lg=>hk _ Lg λr1 h2 h3=>hm (h.1.apart h1 h2 (h.1.Da h1) h3))
 refine ⟨⟨?_,h.1.sc,h.1.sub,λk r c h1 h2=>⟨(h.1.place k r c h1 h2).1,Ex (h.1.place k r c h1 h2).2 hg.size⟩,h.1.inj,λk hp Ip=>h.1.im k hp λh0=>Ip ?_,λk=>?_⟩,?_⟩
 ·refine h.1.below.grown hg h.1.below.size λk hk=>?_
  cases hp:π l with
  |none=>rw [hp] at hk;cases hk
  |some r=>rw [hp] at hk;simp only [An,Aa] at hk;rw [<-hk];exact (h.1.lt hp).2
 ·have:k≠l:= λe=>by subst e;rw [hl] at h0;cases h0
  rw [show Ay (st.Kl l b).heap k=Ay st.heap k from Er _ _ _ _ this];exact h0
 ·by_cases e:k=l
  ·subst e
   exact Gm.Mf (hb m) (Fk _ _ _ _ hl)
  ·have hn:Ay (st.Kl l b).heap k=Ay st.heap k:=Er _ _ _ _ e
   have ho:=h.1.heap k
   cases kP:Ay st.heap k with
   |none=>rw [kP] at hn;exact Gm.Uu (ho.emp kP) hn
   |some c=>
    rw [kP] at hn
    refine Gm.Mf ?_ hn
    have:=(ho.Ru kP).move m hg.size (λr0 c h0 h1=>h.1.sub _ r0 c h0 h1) λr0 c h0 h1 Lg=>hk _ Lg λr1 h2 h3=>e (h.1.inj _ _ r0 r1 c h0 h2 h1 (h.1.sub _ _ _ h2 h3))
    cases c with
    |var tid vs=>simpa [OB.map] using this
    |_=>exact this
 ·exact ⟨h.2.size,h.2.defers,λt=>by have:=m.av (h.2.tmps t);rwa [AC.map_id] at this⟩
end
end Go.Proofs.Ytkkdpknjohcekaa
