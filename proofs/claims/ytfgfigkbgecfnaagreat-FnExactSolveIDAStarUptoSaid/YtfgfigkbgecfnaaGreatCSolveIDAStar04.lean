/-
  Part 5 of the proof that the statement FnExactSolveIDAStar holds.
-/
import Derived.Test.YtfgfigkbgecfnaaGreatCSolveIDAStar03
namespace Go.Proofs.YtfgfigkbgecfnaaGreat
open Go.RowKit
def Xt (π:Pi) (l:Nat) (r:Option Real):Pi:= λk=>if k=l then r else π k
theorem Gr (π:Pi) (l:Nat) (r:Option Real):Xt π l r l=r:=by simp [Xt]
theorem Gp (π:Pi) {l m:Nat} (r:Option Real) (h:m≠l):Xt π l r m=π m:=by simp [Xt,h]
section
variable {X:Ctx} {w w':World} {π:Pi} {H H':List (Nat×OB)}
def Cm (X:Ctx) (w:World) (π:Pi) (H:List (Nat×OB)) (r:Option Real):OB->Prop
 | .arr fr tr e tid xs=>Ke X w π r fr tr e tid xs
 | .Gz e tid xs=>Of w r e tid xs
 | .var tid vs=>Aj7 X w π H r tid vs
 | .Bp e _ rows out kp=>j5 X w π r e rows out kp
 | .Wo v m=>Abj w r v m
theorem Gk.Qs {l:Nat} {b:OB} (h:Gk X w π H l) (hb:Au H l=some b):Cm X w π H (π l) b:=by
 unfold Gk at h
 rw [hb] at h
 cases b<;>exact h
theorem Gk.Lu {l:Nat} {b:OB} (h:Cm X w π H (π l) b) (hb:Au H l=some b):Gk X w π H l:=by
 unfold Gk
 rw [hb]
 cases b<;>exact h
theorem Gk.Vc {l:Nat} (h:π l=none) (hb:Au H l=none):Gk X w π H l:=by
 unfold Gk;rw [hb];exact h
theorem Gk.emp {l:Nat} (h:Gk X w π H l) (hb:Au H l=none):π l=none:=by
 unfold Gk at h;rw [hb] at h;exact h
theorem Cm.move {f:AC->AC} {π':Pi} (m:Move X w w' π π' H H' f) {r:Option Real} {b:OB} (h:Cm X w π H r b) (hs:w.heap.size<=w'.heap.size)
  (Qh: ∀r' c,r=some r'->r'.Cx c->r'.cl c) (hk: ∀r' c,r=some r'->r'.cl c->c<w.heap.size->w'.heap[c]?=w.heap[c]?):
  Cm X w' π' H' r (b.map f):=by
 cases b with
 |arr fr tr e tid xs=>
  simp only [Cm,Ke,OB.map] at h⊢
  cases hr:r with
  |none=>rw [hr] at h;exact h
  |some r=>
   rw [hr] at h
   obtain ⟨h1,cur,ti,h2,h3,h4,h5,h6,h7⟩:=h
   refine ⟨h1,cur,ti,(hk r _ hr (Qh r _ hr h1.1) (Fw h2)).trans h2,h3,h4,h5,λi x hx=>?_,λht=>(h7 ht).Fg hs (λc _ Iz hc=>hk r c hr hc Iz) λ_ hb=>hb⟩
   obtain ⟨es,he,hj,hc⟩:=h6 i x hx
   exact ⟨es,he,hj,m.cells _ _ _ _ hc⟩
 |Gz e tid xs=>
  simp only [Cm,Of,OB.map] at h⊢
  cases hr:r with
  |none=>rw [hr] at h;exact h
  |some r=>
   rw [hr] at h
   obtain ⟨h1,cur,ti,h2,h3,h4,h5,h7⟩:=h
   exact ⟨h1,cur,ti,(hk r _ hr (Qh r _ hr h1) (Fw h2)).trans h2,h3,h4,h5,h7.Fg hs (λc _ Iz hc=>hk r c hr (Qh r c hr hc) Iz) λ_ hb=>hb⟩
 |var tid vs=>
  obtain ⟨r',h0,h1,cur,h2,h3⟩:=h
  exact ⟨r',h0,h1,cur,(hk r' _ h0 (Qh r' _ h0 h1) (Fw h2)).trans h2,m.acs h3⟩
 |Bp e te rows out kp=>exact j5.Fg h (λq b hq hf Iz=>hk q b hq (Qh q b hq hf) Iz) (λes x=>m.cells false e es x)
 |Wo v g=>
  obtain ⟨r',h0,h1,h2,h3⟩:=h
  refine ⟨r',h0,h1,h2,?_⟩
  simp only [Cells] at h3⊢
  rcases h3 with ⟨h3,_⟩|⟨g,h3,hg,_,es,clock,h4,h5,h6,h7⟩
  ·simp at h3
  ·simp only [Gj,Value.map.injEq,Aa,Ow] at h3
   subst h3
   refine .inr ⟨r'.g,rfl,by omega,λh=>h,es,clock,(hk r' _ h0 (Qh r' _ h0 h1) hg).trans h4,h5,h6,λs y hy=>?_⟩
   obtain ⟨u,h8,h9⟩:=h7 s y hy
   exact ⟨u,h8,Cells.flat v [u] y h2.1 h9⟩
theorem Move.forget {l:Nat} {r':Option Real} (hs:w.heap.size<=w'.heap.size)
  (hk: ∀k,k<w.heap.size->(∀r,π l=some r-> ¬r.Cx k)->w'.heap[k]?=w.heap[k]?)
  (hr: ∀r b,r'=some r->r.Cx b->(∃r0,π l=some r0/\r0.Cx b)\/w.heap.size<=b)
  (hH: ∀m,m≠l->Au H' m=(Au H m).map (OB.map (Cs l)))
  (hx: ∀m r,m≠l->π m=some r->(∃b,Au H m=some b/\b.iu≠none)->r.g<w.heap.size->w'.heap[r.g]?=w.heap[r.g]?):Move X w w' π (Xt π l r') H H' (Cs l):=by
 have hc: ∀fr τ cs x,Cells w (Dd X.w0.heap.size X.Sc π fr) τ cs x->Cells w' (Dd X.w0.heap.size X.Sc (Xt π l r') fr) τ cs x:=by
  intro fr τ cs x h
  refine Cells.Fg hs (λk oE hn=>hk k oE λr h0 h1=>hn (.inl ⟨l,r,h0,h1⟩)) (λk oE hA=>?_) τ cs x h
  rcases hA with ⟨m,r,hm,hg⟩|h2
  ·by_cases lG:m=l
   ·subst lG
    rw [Gr] at hm
    rcases hr r k hm hg with ⟨r0,h0,h1⟩|h1
    ·exact .inl ⟨m,r0,h0,h1⟩
    ·omega
   ·rw [Gp π r' lG] at hm
    exact .inl ⟨m,r,hm,hg⟩
  ·exact .inr h2
 refine ⟨λc v h=>?_,hc⟩
 cases c with
 |data fr τ x=>obtain ⟨cs,h1,h2⟩:=h;exact ⟨cs,hc _ _ _ _ h1,h2⟩
 |own k off len=>
  simp only [Cs]
  split
  ·trivial
  ·rename_i Rz
   obtain ⟨b,sz,n,h1,h0,h2,h3⟩:=h
   exact ⟨b.map (Cs l),sz,n,by rw [hH k Rz,h1];rfl,by cases b<;>exact h0,h2,by rw [Gp π r' Rz];exact h3⟩
 |Gy k i=>
  simp only [Cs]
  split
  ·trivial
  ·rename_i Rz
   obtain ⟨r,tid,vs,h1,h2,h3⟩:=h
   exact ⟨r,tid,vs.map (Cs l),by rw [hH k Rz,h1];rfl,by rw [Gp π r' Rz];exact h2,h3⟩
 |Kh k i=>
  simp only [Cs]
  split
  ·trivial
  ·rename_i Rz
   obtain ⟨r,b,sz,n,h1,h0,h2,h3,h4⟩:=h
   exact ⟨r,b.map (Cs l),sz,n,by rw [hH k Rz,h1];rfl,by cases b<;>exact h0,h2,by rw [Gp π r' Rz];exact h3,h4⟩
 |sub k i c=>
  simp only [Cs]
  split
  ·trivial
  ·rename_i Rz
   obtain ⟨r,b,sz,n,h1,h0,h2,h3,h4,h5⟩:=h
   exact ⟨r,b.map (Cs l),sz,n,by rw [hH k Rz,h1];rfl,by cases b<;>exact h0,by rw [Gp π r' Rz];exact h2,h3,h4,by rw [World.cell?_of_block (hx k r Rz h2 ⟨b,h1,by rw [h0];simp⟩ (dm h5))];exact h5⟩
 |Kd k i c=>
  simp only [Cs]
  split
  ·trivial
  ·rename_i Rz
   obtain ⟨r,b,n,sz,g,o,len,cap,h1,h0,h2,h3,h4,h5,h6⟩:=h
   exact ⟨r,b.map (Cs l),n,sz,g,o,len,cap,by rw [hH k Rz,h1];rfl,by cases b<;>exact h0,by rw [Gp π r' Rz];exact h2,h3,h4,by rw [World.cell?_of_block (hx k r Rz h2 ⟨b,h1,by cases b<;>first|(cases h0;done)|simp [OB.iu]⟩ (dm h5))];exact h5,h6⟩
 |clo f Eg=>
  simp only [Cs]
  split
  ·trivial
  ·rename_i Rz
   obtain ⟨us,h1,h2,h3⟩:=h
   refine ⟨us,h1,h2,λj p hp=>?_⟩
   obtain ⟨r,tid,vs,h4,h5,h6⟩:=h3 j p hp
   have l7:p.1≠l:= λe=>Rz (by simp only [Jq,Bi];exact ⟨p,Bv hp,e⟩)
   exact ⟨r,tid,vs.map (Cs l),by rw [hH _ l7,h4];rfl,by rw [Gp π r' l7];exact h5,h6⟩
 |Kr k=>
  simp only [Cs]
  split
  ·trivial
  ·rename_i Rz
   obtain ⟨r,vt,m,h1,h2,h3⟩:=h
   exact ⟨r,vt,m,by rw [hH k Rz,h1];rfl,by rw [Gp π r' Rz];exact h2,h3⟩
 |_=>exact h
theorem St.aI (st:St) (l m:Nat) (b:OB) (h:m≠l):Au (st.new l b).heap m=(Au st.heap m).map (OB.map (Cs l)):=by
 simp only [St.new,St.forget,St.Lb]
 rw [Pu _ _ _ _ h,Nz _ _ _ h,Pg]
theorem St.Hc (st:St) (l:Nat) (b:OB):Au (st.new l b).heap l=some b:=by
 simp only [St.new,St.forget,St.Lb]
 exact Rc _ _ _ (Ms _ _)
theorem St.jy (st:St) (l m:Nat) (h:m≠l):Au (st.forget l).heap m=(Au st.heap m).map (OB.map (Cs l)):=by
 simp only [St.forget,St.Lb]
 rw [Nz _ _ _ h,Pg]
theorem St.qp (st:St) (l:Nat):Au (st.forget l).heap l=none:=by
 simp only [St.forget,St.Lb]
 exact Ms _ _
theorem Bk.kf {st:St} {a:Act} (h:Bk X π st a w) (l:Nat) (hl:l<Bn) (r':Option Real) (b:OB)
  (hg:w.grownBy w' ((π l).map (·.g)))
  (hf: ∀r b,r'=some r->r.Cx b->r.cl b/\((∃r0,π l=some r0/\r0.Cx b)\/w.heap.size<=b))
  (hr: ∀r b,r'=some r->r.cl b->(X.w0.heap.size<=b\/X.gv b)/\b<w'.heap.size/\ ∀m r0,m≠l->π m=some r0-> ¬r0.cl b)
  (hb:Move X w w' π (Xt π l r') st.heap (st.new l b).heap (Cs l)->Cm X w' (Xt π l r') (st.new l b).heap r' b):Bk X (Xt π l r') (st.new l b) a w':=by
 have hk: ∀k,k<w.heap.size->(∀r,π l=some r-> ¬r.Cx k)->w'.heap[k]?=w.heap[k]?:= λk hk hn=>hg.block k hk (by
  intro e
  cases hp:π l with
  |none=>rw [hp] at e;cases e
  |some r=>rw [hp] at e;simp only [Am,Aa] at e;exact hn r hp (e▸h.1.Cx hp))
 have m:Move X w w' π (Xt π l r') st.heap (st.new l b).heap (Cs l):=Move.forget hg.size hk (λr c h1 h2=>(hf r c h1 h2).2) (λm hm=>St.aI st l m b hm)
  (λm r hm h1 _ Iz=>hk _ Iz λr1 h2 h3=>hm (h.1.apart h1 h2 (h.1.Cx h1) h3))
 refine ⟨⟨?_,h.1.sc,?_,?_,?_,?_,λk=>?_⟩,?_⟩
 ·refine h.1.below.grown hg h.1.below.size λk hk=>?_
  cases hp:π l with
  |none=>rw [hp] at hk;cases hk
  |some r=>rw [hp] at hk;simp only [Am,Aa] at hk;rw [<-hk];exact (h.1.lt hp).2
 ·intro k r c h1 h2
  by_cases e1:k=l
  ·subst e1;rw [Gr] at h1;exact (hf r c h1 h2).1
  ·rw [Gp π r' e1] at h1;exact h.1.sub k r c h1 h2
 ·intro k r c h1 h2
  by_cases e1:k=l
  ·subst e1;rw [Gr] at h1;have:=hr r c h1 h2;exact ⟨this.1,this.2.1⟩
  ·rw [Gp π r' e1] at h1;have:=h.1.place k r c h1 h2;exact ⟨this.1,Dk this.2 hg.size⟩
 ·intro l1 l2 r1 r2 c h1 h2 h3 h4
  by_cases e1:l1=l<;>by_cases e2:l2=l
  ·rw [e1,e2]
  ·subst e1
   rw [Gr] at h1;rw [Gp π r' e2] at h2
   exact absurd h4 ((hr r1 c h1 h3).2.2 l2 r2 e2 h2)
  ·subst e2
   rw [Gr] at h2;rw [Gp π r' e1] at h1
   exact absurd h3 ((hr r2 c h2 h4).2.2 l1 r1 e1 h1)
  ·rw [Gp π r' e1] at h1;rw [Gp π r' e2] at h2
   exact h.1.inj _ _ r1 r2 c h1 h2 h3 h4
 ·intro k hpk Ih
  have e:k≠l:= λe=>by subst e;omega
  rw [St.aI st l k b e] at Ih
  rw [Gp π r' e]
  exact h.1.iY k hpk λh0=>Ih (by rw [h0];rfl)
 ·by_cases e:k=l
  ·subst e
   exact Gk.Lu (by rw [Gr];exact hb m) (St.Hc st k b)
  ·have hn:=St.aI st l k b e
   have ho:=h.1.heap k
   cases l5:Au st.heap k with
   |none=>rw [l5] at hn;exact Gk.Vc (by rw [Gp π r' e];exact ho.emp l5) hn
   |some c=>
    rw [l5] at hn
    refine Gk.Lu ?_ hn
    rw [Gp π r' e]
    exact (ho.Qs l5).move m hg.size (λr0 c h0 h1=>h.1.sub _ r0 c h0 h1) λr0 c h0 h1 Iz=>hk _ Iz λr1 h2 h3=>e (h.1.inj _ _ r0 r1 c h0 h2 h1 (h.1.sub _ _ _ h2 h3))
 ·have hh:um X w' (Xt π l r') {tmps:=st.tmps.map (·.map (Cs l)),heap:=(st.new l b).heap} a:=m.SG rfl h.2
  exact hh
def Real.one (g o cap:Nat):Real:=⟨g,o,cap,λb=>b=g,λb=>b=g⟩
theorem Bk.replace {st:St} {a:Act} (h:Bk X π st a w) (l:Nat) (hl:l<Bn) (r':Option Real) (b:OB)
  (hg:w.grownBy w' ((π l).map (·.g)))
  (hr: ∀r,r'=some r->r=Real.one r.g r.o r.cap/\((∃r0,π l=some r0/\r0.g=r.g)\/w.heap.size<=r.g)/\r.g<w'.heap.size)
  (hb:Move X w w' π (Xt π l r') st.heap (st.new l b).heap (Cs l)->Cm X w' (Xt π l r') (st.new l b).heap r' b):Bk X (Xt π l r') (st.new l b) a w':=by
 refine h.kf l hl r' b hg (λr c h1 h2=>?_) (λr c h1 h2=>?_) hb
 ·obtain ⟨h3,h4,_⟩:=hr r h1
  have h2':c=r.g:=by rw [h3] at h2;exact h2
  subst h2'
  refine ⟨by rw [h3];rfl,h4.imp (λ⟨r0,h5,h6⟩=>⟨r0,h5,h6▸h.1.Cx h5⟩) id⟩
 ·obtain ⟨h3,h4,h5⟩:=hr r h1
  have h2':c=r.g:=by rw [h3] at h2;exact h2
  subst h2'
  refine ⟨?_,h5,λm r0 hm h6 h7=>?_⟩
  ·rcases h4 with ⟨r0,h6,h7⟩|h6
   ·rw [<-h7];exact (h.1.lt h6).2
   ·exact .inl (Jd h.1.below.size h6)
  ·rcases h4 with ⟨r1,h8,h9⟩|h8
   ·exact hm (h.1.inj m l r0 r1 r.g h6 h8 h7 (h9▸h.1.sub l r1 _ h8 (h.1.Cx h8)))
   ·have:=(h.1.place m r0 _ h6 h7).2;omega
theorem Nf.drop (h:Nf X w π H) {f:AC->AC} (l:Nat) (m:Move X w w π (Xt π l none) H H' f) (h0:Au H' l=none) (hH: ∀k,k≠l->Au H' k=(Au H k).map (OB.map f)):Nf X w (Xt π l none) H':=by
 have un: ∀k r,Xt π l none k=some r->k≠l/\π k=some r:= λk r hk=>by
  by_cases e:k=l
  ·subst e;rw [Gr] at hk;cases hk
  ·rw [Gp π none e] at hk;exact ⟨e,hk⟩
 refine ⟨h.below,h.sc,λk r c h1 h2=>h.sub k r c (un k r h1).2 h2,λk r c h1 h2=>h.place k r c (un k r h1).2 h2,λl1 l2 r1 r2 c h1 h2 h3 h4=>h.inj _ _ r1 r2 c (un _ _ h1).2 (un _ _ h2).2 h3 h4,λk hp Ih=>?_,λk=>?_⟩
 ·have e:k≠l:= λe=>by subst e;exact Ih h0
  rw [hH k e] at Ih
  rw [Gp π none e]
  exact h.iY k hp λh1=>Ih (by rw [h1];rfl)
 ·by_cases e:k=l
  ·subst e
   exact Gk.Vc (by rw [Gr]) h0
  ·have hn:=hH k e
   have ho:=h.heap k
   cases l5:Au H k with
   |none=>rw [l5] at hn;exact Gk.Vc (by rw [Gp π none e];exact ho.emp l5) hn
   |some c=>
    rw [l5] at hn
    refine Gk.Lu ?_ hn
    rw [Gp π none e]
    exact (ho.Qs l5).move m (Ao _) (λr0 c h0 h1=>h.sub _ r0 c h0 h1) λr0 c h0 h1 Iz=>rfl
theorem Bk.forget {st:St} {a:Act} (h:Bk X π st a w) (l:Nat):Bk X (Xt π l none) (st.forget l) a w:=by
 have m:Move X w w π (Xt π l none) st.heap (st.forget l).heap (Cs l):=
  Move.forget (Ao _) (λ_ _ _=>rfl) (λr c hr=>by cases hr) (λm hm=>St.jy st l m hm) (λ_ _ _ _ _ _=>rfl)
 refine ⟨h.1.drop l m (St.qp st l) λk e=>St.jy st l k e,?_⟩
 have hh:um X w (Xt π l none) {tmps:=st.tmps.map (·.map (Cs l)),heap:=(st.forget l).heap} a:=m.SG rfl h.2
 exact hh
theorem cellOf {w:World} {g:Nat} {cur:Array Value} {tid:TypeId} (h:w.heap[g]?=some (.cells cur tid (0,0))) (i:Nat):w.cell? ⟨g,i,none⟩=cur[i]?:=by
 simp [World.cell?,h]
theorem Oy {l off len:Nat} {v:Value} {fr tr:Bool} {e:Ty} {tid:TypeId} {xs:List e.den} (h:Hk X w π H (.own l off len) v) (hl:Au H l=some (.arr fr tr e tid xs)):off+len<=xs.length/\Ib (π l) e.size off len v:=by
 obtain ⟨b,sz,n,h1,h0,h2,h3⟩:=h
 rw [hl] at h1;cases h1
 simp only [OB.row,Aa,Ae] at h0
 obtain ⟨rfl,rfl⟩:=h0
 exact ⟨h2,h3⟩
theorem cN {l off len:Nat} {v:Value} {e:Ty} {tid:TypeId} {xs:List e.den} (h:Hk X w π H (.own l off len) v) (hl:Au H l=some (.Gz e tid xs)):off+len<=xs.length/\Ib (π l) e.size off len v:=by
 obtain ⟨b,sz,n,h1,h0,h2,h3⟩:=h
 rw [hl] at h1;cases h1
 simp only [OB.row,Aa,Ae] at h0
 obtain ⟨rfl,rfl⟩:=h0
 exact ⟨h2,h3⟩
theorem QY {l off len:Nat} {v:Value} {fr tr:Bool} {e:Ty} {tid:TypeId} {xs:List e.den} (hl:Au H l=some (.arr fr tr e tid xs)) (h1:off+len<=xs.length) (h2:Ib (π l) e.size off len v):Hk X w π H (.own l off len) v:=
 ⟨_,e.size,xs.length,hl,rfl,h1,h2⟩
theorem AB {r:Real} {off len:Nat} {v:Value} {e:Ty} {tid:TypeId} {xs:List e.den} {S:Nat->Prop} {cur:Array Value} (h2:w.heap[r.g]?=some (.cells cur tid (0,0)))
  (hlen:off+len<=xs.length) (hv:Ib (some r) e.size off len v) (hg: ¬S r.g)
  (hA: ∀(i:Nat) (x:e.den),xs[i]?=some x-> ∃es:List Value,es.length=e.size/\(∀j u,es[j]?=some u->cur[(r.o+i)*e.size+j]?=some u)/\Cells w S e es x):Cells w S (.slice e) [v] ((xs.drop off).take len):=by
 have hll:((xs.drop off).take len).length=len:=by simp;omega
 obtain ⟨ad,rfl,hc,ha⟩:=hv
 refine ⟨some ad,len,r.cap-off,rfl,hll.symm,by omega,?_⟩
 rcases bh len with h0|h0
 ·left;subst h0;simp
 ·right
  refine ⟨r.g,(r.o+off)*e.size,by rw [ha (by omega)],Fw h2,hg,λi x hx=>?_⟩
  have hi:i<len:=by
   have:=(An.1 hx).1
   rw [hll] at this;exact this
  have hx':xs[off+i]?=some x:=by
   rw [Da,Ab hi,Cz] at hx;exact hx
  obtain ⟨es,he,hj,sW⟩:=hA (off+i) x hx'
  refine ⟨es,he,λj u hu=>?_,sW⟩
  rw [cellOf h2]
  have:=hj j u hu
  rw [<-this]
  congr 1
  rw [<-Gv,Df (r.o+off) i]
theorem qL {l off len:Nat} {v:Value} {fr tr:Bool} {e:Ty} {tid:TypeId} {xs:List e.den} {S:Nat->Prop} (h:Nf X w π H) (hl:Au H l=some (.arr fr tr e tid xs))
  (hlen:off+len<=xs.length) (hv:Ib (π l) e.size off len v)
  (hS: ∀k,S k->(∃r,π l=some r/\r.Cx k)->False) (hA: ∀k,k<w.heap.size->S k->Dd X.w0.heap.size X.Sc π fr k):Cells w S (.slice e) [v] ((xs.drop off).take len):=by
 have hb:=(h.heap l).Qs hl
 simp only [Cm,Ke] at hb
 cases hp:π l with
 |none=>
  rw [hp] at hb hv
  obtain ⟨rfl,rfl,rfl⟩:=hv
  exact ⟨none,0,0,rfl,by simp,Ao _, .inl (by simp)⟩
 |some r=>
  rw [hp] at hb hv
  obtain ⟨h1,cur,_,h2,h3,h4,h5,h6,_⟩:=hb
  refine AB h2 hlen hv (λhs=>hS _ hs ⟨r,hp,h1.1⟩) λi x hx=>?_
  obtain ⟨es,he,hj,sW⟩:=h6 i x hx
  exact ⟨es,he,hj,Cells.Fg (Ao _) (λ_ _ _=>rfl) hA e es x sW⟩
theorem Ts.slice {D S:Nat->Prop} {R:Option Real} {e:Ty} {x:List e.den} {u:Value} (h:Ts w D R e x) (hv:Ib R e.size 0 (List.length x) u) (hD: ∀k,S k->D k) (hg: ∀q,R=some q-> ¬S q.g):Cells w S (.slice e) [u] x:=by
 cases R with
 |none=>
  have hx:x= []:=h
  subst hx
  obtain ⟨rfl,_,_⟩:=hv
  exact ⟨none,0,0,rfl,rfl,Ao _, .inl rfl⟩
 |some q=>
  obtain ⟨h1,cur,ti,h2,h3,h4,h5,h6⟩:=h
  obtain ⟨ad,rfl,g1,g2⟩:=hv
  refine ⟨some ad,List.length x,_,rfl,rfl,by omega,?_⟩
  rcases bh (List.length x) with hx|hx
  ·exact .inl (Cn hx)
  ·have PS:=g2 (by omega)
   subst PS
   refine .inr ⟨q.g,(q.o+0)*e.size,rfl,Fw h2,hg q rfl,λi y hy=>?_⟩
   obtain ⟨es,k1,k2,k3⟩:=h6 i y hy
   refine ⟨es,k1,λj u hu=>?_,Cells.Fg (Ao _) (λ_ _ _=>rfl) (λk _ hk=>hD k hk) e es y k3⟩
   rw [cellOf h2,Fk,<-Df]
   exact k2 j u hu
theorem pf {l off len:Nat} {v:Value} {e:Ty} {te:TypeId} {rows:List (List e.den)} {out:Option Nat} {kp:Option (Nat×Nat)} (h:Hk X w π H (.own l off len) v) (hl:Au H l=some (.Bp e te rows out kp)):off+len<=rows.length/\Ib (π l) 1 off len v:=by
 obtain ⟨b,sz,n,h1,h2,h3,h4⟩:=h
 rw [hl] at h1;cases h1
 simp only [OB.row,Aa,Ae] at h2
 obtain ⟨rfl,rfl⟩:=h2
 exact ⟨h3,h4⟩
theorem vo {l off len:Nat} {v:Value} {e:Ty} {te:TypeId} {rows:List (List e.den)} {kp:Option (Nat×Nat)} {S:Nat->Prop} (h:Nf X w π H) (hl:Au H l=some (.Bp e te rows none kp))
  (hlen:off+len<=rows.length) (hv:Ib (π l) 1 off len v)
  (hS: ∀k,S k->(∃r,π l=some r/\r.Cx k)->False) (hA: ∀k,S k->Dd X.w0.heap.size X.Sc π false k):Cells w S (.slice (.slice e)) [v] ((rows.drop off).take len):=by
 have hb:=(h.heap l).Qs hl
 simp only [Cm] at hb
 have hb:=hb.1
 cases hp:π l with
 |none=>
  rw [hp] at hb hv
  have hb:rows= []:=hb
  obtain ⟨rfl,rfl,rfl⟩:=hv
  exact ⟨none,0,0,rfl,by simp,Ao _, .inl (by simp)⟩
 |some r=>
  rw [hp] at hb hv
  obtain ⟨h1,cur,ti,h2,h3,h4,h5,Rs,h6,h7,h8,h9⟩:=hb
  obtain ⟨ad,rfl,g1,g2⟩:=hv
  refine ⟨some ad,len,_,rfl,by simp;omega,by omega,?_⟩
  rcases bh len with hx|hx
  ·subst hx;exact .inl (by simp)
  ·have PS:=g2 (by omega)
   subst PS
   refine .inr ⟨r.g,(r.o+off)*1,rfl,Fw h2,λhs=>hS _ hs ⟨r,hp,h1⟩,λi x hx=>?_⟩
   have hx:((rows.drop off).take len)[i]?=some x:=hx
   rw [Da] at hx
   split at hx
   ·rw [Cz] at hx
    obtain ⟨u,R,k1,k2,k3,k4⟩:=h9 _ x hx (by simp)
    refine ⟨[u],rfl,λj u' ga=>?_,k4.slice k3 hA λq hq hs=>hS _ hs ⟨r,hp,(h7 _ q (by rw [k2,hq])).1⟩⟩
    rcases j with _|j
    ·simp only [Ca,Aa] at ga
     subst ga
     rw [cellOf h2,<-k1]
     congr 1
     simp only [Ty.size];omega
    ·simp at ga
   ·cases hx
theorem ID {l i c:Nat} {v:Value} {e:Ty} {te:TypeId} {rows:List (List e.den)} {out:Option Nat} {kp:Option (Nat×Nat)} (hv:Hk X w π H (.sub l i c) v) (hl:Au H l=some (.Bp e te rows out kp)):rows[i]?=some (rows.getD i []):=by
 obtain ⟨r,b,sz,n,h1,h0,_,h3,_⟩:=hv
 rw [hl] at h1;cases h1
 simp only [OB.iu,Aa,Ae] at h0
 obtain ⟨rfl,rfl⟩:=h0
 rw [Aj,Ac h3];rfl
theorem oA {l i:Nat} {e:Ty} {te:TypeId} {rows:List (List e.den)} {out:Option Nat} {kp:Option (Nat×Nat)} {r:Real} (h:Nf X w π H) (hl:Au H l=some (.Bp e te rows out kp)) (hp:π l=some r) (hi:i<rows.length) (ho:out≠some i):
  ∃u R,w.cell? ⟨r.g,r.o+i,none⟩=some u/\Ib R e.size 0 (rows.getD i []).length u/\Ts w (Dd X.w0.heap.size X.Sc π false) R e (rows.getD i []):=by
 have hb:=(h.heap l).Qs hl
 simp only [Cm] at hb
 have hb:=hb.1
 rw [hp] at hb
 obtain ⟨h1,cur,ti,h2,h3,h4',h5',Rs,h6,h7,h8,h9⟩:=hb
 have hx:rows[i]?=some (rows.getD i []):=by rw [Aj,Ac hi];rfl
 obtain ⟨u,R,k1,k2,k3,k4⟩:=h9 _ _ hx ho
 exact ⟨u,R,by rw [cellOf h2];exact k1,k3,k4⟩
theorem bJ {R:Option Real} {sz off len:Nat} {u:Value} (h:Ib R sz off len u): ∃a n m,u= .slice a n m:=by
 cases R with
 |none=>exact ⟨_,_,_,h.1⟩
 |some q=>obtain ⟨ad,rfl,_⟩:=h;exact ⟨_,_,_,rfl⟩
theorem vq {l i c:Nat} {v:Value} {e:Ty} {te:TypeId} {rows:List (List e.den)} {kp:Option (Nat×Nat)} {x:List e.den} {S:Nat->Prop} (h:Nf X w π H) (hl:Au H l=some (.Bp e te rows none kp)) (hx:rows[i]?=some x)
  (hv:Hk X w π H (.sub l i c) v)
  (hS: ∀k,S k->(∃r,π l=some r/\r.Cx k)->False) (hA: ∀k,S k->Dd X.w0.heap.size X.Sc π false k):Cells w S (.slice e) [v] x:=by
 obtain ⟨r,b,sz,n,h1,h0,hp,h3,⟨h4,_⟩,h5⟩:=hv
 rw [hl] at h1;cases h1
 simp only [OB.iu,Aa,Ae] at h0
 obtain ⟨rfl,rfl⟩:=h0
 have hb:=(h.heap l).Qs hl
 simp only [Cm] at hb
 have hb:=hb.1
 rw [hp] at hb
 obtain ⟨h1,cur,ti,h2,h3,h4',h5',Rs,h6,h7,h8,h9⟩:=hb
 obtain ⟨u,R,k1,k2,k3,k4⟩:=h9 _ x hx (by simp)
 have:c=0:=by omega
 subst this
 rw [cellOf h2,Gd,Fk,k1] at h5
 have hv:=Ba h5
 subst hv
 exact k4.slice k3 hA λq hq hs=>hS _ hs ⟨r,hp,(h7 _ q (by rw [k2,hq])).1⟩
theorem nN {l off len:Nat} {v:Value} {e:Ty} {tid:TypeId} {xs:List e.den} {S:Nat->Prop} (h:Nf X w π H) (hl:Au H l=some (.Gz e tid xs))
  (hlen:off+len<=xs.length) (hv:Ib (π l) e.size off len v)
  (hS: ∀k,S k->(∃r,π l=some r/\r.Cx k)->False):Cells w S (.slice e) [v] ((xs.drop off).take len):=by
 have hb:=(h.heap l).Qs hl
 simp only [Cm,Of] at hb
 cases hp:π l with
 |none=>
  rw [hp] at hb hv
  obtain ⟨rfl,rfl,rfl⟩:=hv
  exact ⟨none,0,0,rfl,by simp,Ao _, .inl (by simp)⟩
 |some r=>
  rw [hp] at hb hv
  obtain ⟨h1,cur,_,h2,h3,h4,h5,Fs,k1,k2,k3,k4⟩:=hb
  refine AB h2 hlen hv (λhs=>hS _ hs ⟨r,hp,h1⟩) λi x hx=>?_
  have hi:i<Fs.length:=by have:=(An.1 hx).1;omega
  obtain ⟨es,he,hj,sW⟩:=k4 i x _ hx (Ac hi)
  exact ⟨es,he,hj,sW.cells _ _ _ _ λb hb hs=>hS b hs ⟨r,hp,k3 b (Fq.2 ⟨_,Ak hi,hb⟩)⟩⟩
theorem St.Sh (st:St) (l m:Nat) (fr:Bool) (e:Ty) (xs:List e.den) (h:m≠l):Au (st.freeze l fr e xs).heap m=(Au st.heap m).map (OB.map (Dc l fr e xs)):=by
 simp only [St.freeze,St.Lb]
 rw [Nz _ _ _ h,Pg]
theorem St.Mk (st:St) (l:Nat) (fr:Bool) (e:Ty) (xs:List e.den):Au (st.freeze l fr e xs).heap l=none:=by
 simp only [St.freeze,St.Lb]
 exact Ms _ _
theorem uG {l:Nat} {B:Nat} {Sc:Nat->Prop} {fr:Bool} {k:Nat} (hA:Dd B Sc (Xt π l none) fr k):Dd B Sc π fr k:=by
 rcases hA with ⟨m,r,hm,hg⟩|h2
 ·by_cases lG:m=l
  ·subst lG;rw [Gr] at hm;cases hm
  ·rw [Gp π none lG] at hm
   exact .inl ⟨m,r,hm,hg⟩
 ·exact .inr h2
theorem Nf.let (h:Nf X w π H) {l:Nat} {fr:Bool} (IN:fr=true-> ∀r,π l=some r-> ∀b,r.Cx b->X.w0.heap.size<=b) {k:Nat} (hS:Dd X.w0.heap.size X.Sc (Xt π l none) fr k) (hk: ∃r,π l=some r/\r.Cx k):False:=by
 obtain ⟨r,hr,QB⟩:=hk
 rcases hS with ⟨m,r',hm,hg⟩|hS|⟨hf,hS⟩
 ·by_cases lG:m=l
  ·subst lG;rw [Gr] at hm;cases hm
  ·rw [Gp π none lG] at hm
   exact lG (h.apart hm hr hg QB)
 ·have h1:=h.sc k hS
  rcases (h.own ⟨l,r,hr,QB⟩).2 with h2|h2
  ·omega
  ·exact h1.2 h2
 ·have:=IN hf r hr k QB;omega
theorem Move.UW {l:Nat} {f:AC->AC} (hf: ∀c v,Hk X w π H c v->(∀k∈c.refs,k≠l)->f c=c)
  (hl: ∀c v,Hk X w π H c v->l∈c.refs->Hk X w (Xt π l none) H' (f c) v)
  (hH: ∀m,m≠l->Au H' m=(Au H m).map (OB.map f)):Move X w w π (Xt π l none) H H' f:=by
 have hc: ∀Ww τ cs x,Cells w (Dd X.w0.heap.size X.Sc π Ww) τ cs x->Cells w (Dd X.w0.heap.size X.Sc (Xt π l none) Ww) τ cs x:=
  fun Ww τ cs x hh=>Cells.Fg (Ao _) (λ_ _ _=>rfl) (λk _ hA=>uG hA) τ cs x hh
 refine ⟨λc v IK=>?_,hc⟩
 by_cases hlr:l∈c.refs
 ·exact hl c v IK hlr
 ·rw [hf c v IK λk hk e=>hlr (e▸hk)]
  cases c with
  |data Ww τ x=>obtain ⟨cs,h1,h2⟩:=IK;exact ⟨cs,hc _ _ _ _ h1,h2⟩
  |own k off len=>
   have Rz:k≠l:= λe=>hlr (by simp [AC.refs,e])
   obtain ⟨b,sz,n,h1,h0,h2,h3⟩:=IK
   exact ⟨b.map f,sz,n,by rw [hH k Rz,h1];rfl,by cases b<;>exact h0,h2,by rw [Gp π none Rz];exact h3⟩
  |Gy k i=>
   have Rz:k≠l:= λe=>hlr (by simp [AC.refs,e])
   obtain ⟨r,Tm,vs,h1,h2,h3⟩:=IK
   exact ⟨r,Tm,vs.map f,by rw [hH k Rz,h1];rfl,by rw [Gp π none Rz];exact h2,h3⟩
  |Kh k i=>
   have Rz:k≠l:= λe=>hlr (by simp [AC.refs,e])
   obtain ⟨r,b,sz,n,h1,h0,h2,h3,h4⟩:=IK
   exact ⟨r,b.map f,sz,n,by rw [hH k Rz,h1];rfl,by cases b<;>exact h0,h2,by rw [Gp π none Rz];exact h3,h4⟩
  |sub k i c=>
   have Rz:k≠l:= λe=>hlr (by simp [AC.refs,e])
   obtain ⟨r,b,sz,n,h1,h0,h2,h3⟩:=IK
   exact ⟨r,b.map f,sz,n,by rw [hH k Rz,h1];rfl,by cases b<;>exact h0,by rw [Gp π none Rz];exact h2,h3⟩
  |Kd k i c=>
   have Rz:k≠l:= λe=>hlr (by simp [AC.refs,e])
   obtain ⟨r,b,n,sz,g,o,len,cap,h1,h0,h2,h3⟩:=IK
   exact ⟨r,b.map f,n,sz,g,o,len,cap,by rw [hH k Rz,h1];rfl,by cases b<;>exact h0,by rw [Gp π none Rz];exact h2,h3⟩
  |clo g Eg=>
   obtain ⟨us,h1,h2,h3⟩:=IK
   refine ⟨us,h1,h2,λj p hp=>?_⟩
   obtain ⟨r,tid,vs,h4,h5,h6⟩:=h3 j p hp
   have l7:p.1≠l:= λe=>hlr (by simp only [AC.refs,Bi];exact ⟨p,Bv hp,e⟩)
   exact ⟨r,tid,vs.map f,by rw [hH _ l7,h4];rfl,by rw [Gp π none l7];exact h5,h6⟩
  |Kr k=>
   have Rz:k≠l:= λe=>hlr (by simp [AC.refs,e])
   obtain ⟨r,vt,m,h1,h2,h3⟩:=IK
   exact ⟨r,vt,m,by rw [hH k Rz,h1];rfl,by rw [Gp π none Rz];exact h2,h3⟩
  |_=>exact IK
theorem ji {l:Nat} {ls:List Nat} (h: ∀k∈ls,k≠l):ls.contains l=false:=by
 cases hc:ls.contains l with
 |false=>rfl
 |true=>exact absurd rfl (h l (by simpa using hc))
theorem jz {l:Nat} {fr:Bool} {e:Ty} {xs:List e.den} {c:AC} (h: ∀k∈c.refs,k≠l):Dc l fr e xs c=c:=by
 cases c<;>simp only [Dc]<;>first|rfl|skip
 case clo f Eg=>rw [Ag (by rw [ji (show ∀k∈Eg.map (·.1),k≠l from h)];simp)]
 all_goals rw [Ag (h _ (by simp [AC.refs]))]
theorem vh {l:Nat} {v:Ty} {m:ByteArray->Option v.den} {c:AC} (h: ∀k∈c.refs,k≠l):Hi l v m c=c:=by
 cases c<;>simp only [Hi]<;>first|rfl|skip
 case clo f Eg=>rw [Ag (by rw [ji (show ∀k∈Eg.map (·.1),k≠l from h)];simp)]
 all_goals rw [Ag (h _ (by simp [AC.refs]))]
theorem Move.freeze {l:Nat} {fr:Bool} {e:Ty} {xs:List e.den}
  (Aqv: ∀off len v,Hk X w π H (.own l off len) v->Cells w (Dd X.w0.heap.size X.Sc (Xt π l none) fr) (.slice e) [v] ((xs.drop off).take len))
  (hH: ∀m,m≠l->Au H' m=(Au H m).map (OB.map (Dc l fr e xs))):Move X w w π (Xt π l none) H H' (Dc l fr e xs):=by
 refine Move.UW (λc v _ h=>jz h) (λc v IK hr=>?_) hH
 cases c with
 |own k off len=>
  have:k=l:=(Ad.1 hr).symm
  subst this
  simp only [Dc,Ab]
  exact ⟨[v],Aqv off len v IK,by simp [Cf,Ty.Aq]⟩
 |Gy k i=>have:k=l:=(Ad.1 hr).symm
          subst this;simp only [Dc,Ab];trivial
 |Kh k i=>have:k=l:=(Ad.1 hr).symm
          subst this;simp only [Dc,Ab];trivial
 |sub k i c=>have:k=l:=(Ad.1 hr).symm
             subst this;simp only [Dc,Ab];trivial
 |Kd k i c=>have:k=l:=(Ad.1 hr).symm
            subst this;simp only [Dc,Ab];trivial
 |Kr k=>have:k=l:=(Ad.1 hr).symm
        subst this;simp only [Dc,Ab];trivial
 |clo f Eg=>
  simp only [Dc]
  rw [Ab (by simpa [AC.refs] using hr)];trivial
 |_=>simp [AC.refs] at hr
theorem Bk.freeze {st:St} {a:Act} (h:Bk X π st a w) {l:Nat} {fr:Bool} {e:Ty} {xs:List e.den}
  (hl:(∃tr tid,Au st.heap l=some (.arr fr tr e tid xs))\/(fr=false/\ ∃tid,Au st.heap l=some (.Gz e tid xs))):
  Bk X (Xt π l none) (st.freeze l fr e xs) a w/\Move X w w π (Xt π l none) st.heap (st.freeze l fr e xs).heap (Dc l fr e xs):=by
 have m:Move X w w π (Xt π l none) st.heap (st.freeze l fr e xs).heap (Dc l fr e xs):=by
  refine Move.freeze (λoff len v hv=>?_) (λm hm=>St.Sh st l m fr e xs hm)
  rcases hl with ⟨tr,tid,hl⟩|⟨rfl,tid,hl⟩
  ·obtain ⟨h2,h3⟩:=Oy hv hl
   refine qL h.1 hl h2 h3 (λk hk=>?_) λk _ hk=>uG hk
   intro ⟨r,hr,QB⟩
   have hb:=(h.1.heap l).Qs hl
   simp only [Cm,Ke,hr] at hb
   by_cases hkg:k=r.g
   ·subst hkg
    rcases hk with ⟨m,r',hm,hg⟩|hS|⟨hf,hS⟩
    ·by_cases lG:m=l
     ·subst lG;rw [Gr] at hm;cases hm
     ·rw [Gp π none lG] at hm
      exact lG (h.1.apart hm hr hg QB)
    ·have h1:=h.1.sc _ hS
     rcases (h.1.own ⟨l,r,hr,QB⟩).2 with h2|h2
     ·omega
     ·exact h1.2 h2
    ·have:=hb.1.2.2 hf;omega
   ·exact absurd (hb.1.2.1 k QB) hkg
  ·obtain ⟨h2,h3⟩:=cN hv hl
   exact nN h.1 hl h2 h3 λk hk hr=>h.1.let (λhf=>by cases hf) hk hr
 refine ⟨⟨h.1.drop l m (St.Mk st l fr e xs) λk e'=>St.Sh st l k fr e xs e',?_⟩,m⟩
 have hh:um X w (Xt π l none) {tmps:=st.tmps.map (·.map (Dc l fr e xs)),heap:=(st.freeze l fr e xs).heap} a:=m.SG rfl h.2
 exact hh
theorem St.Rn (st:St) (l k:Nat) (v:Ty) (m:ByteArray->Option v.den) (h:k≠l):Au (st.Ix l v m).heap k=(Au st.heap k).map (OB.map (Hi l v m)):=by
 simp only [St.Ix,St.Lb]
 rw [Nz _ _ _ h,Pg]
theorem St.Tv (st:St) (l:Nat) (v:Ty) (m:ByteArray->Option v.den):Au (st.Ix l v m).heap l=none:=by
 simp only [St.Ix,St.Lb]
 exact Ms _ _
theorem AN {r:Option Real} {v:Ty} {m:ByteArray->Option v.den} {g:Nat} {S:Nat->Prop} (h:Abj w r v m) (hg:r.map (·.g)=some g) (hS: ¬S g):Cells w S (.smap v) [.map (some g)] m:=by
 obtain ⟨r',h0,h1,h2,h3⟩:=h
 rw [h0] at hg
 simp only [Am,Aa] at hg
 subst hg
 simp only [Cells] at h3⊢
 rcases h3 with ⟨h3,_⟩|⟨g,h3,hg,_,es,clock,h4,h5,h6,h7⟩
 ·simp at h3
 ·simp only [Gj,Value.map.injEq,Aa,Ow] at h3
  subst h3
  refine .inr ⟨r'.g,rfl,hg,hS,es,clock,h4,h5,h6,λs y hy=>?_⟩
  obtain ⟨u,h8,h9⟩:=h7 s y hy
  exact ⟨u,h8,Cells.flat v [u] y h2.1 h9⟩
theorem Bk.Ix {st:St} {a:Act} (h:Bk X π st a w) {l:Nat} {v:Ty} {m:ByteArray->Option v.den} (hl:Au st.heap l=some (.Wo v m)):
  Bk X (Xt π l none) (st.Ix l v m) a w/\Move X w w π (Xt π l none) st.heap (st.Ix l v m).heap (Hi l v m):=by
 have mv:Move X w w π (Xt π l none) st.heap (st.Ix l v m).heap (Hi l v m):=by
  refine Move.UW (λc u _ h=>vh h) (λc u IK hr=>?_) (λk hk=>St.Rn st l k v m hk)
  cases c with
  |Kr k=>
   have:k=l:=(Ad.1 hr).symm
   subst this
   simp only [Hi,Ab]
   obtain ⟨r,vt,m',h1,h2,rfl⟩:=IK
   exact ⟨[_],AN ((h.1.heap k).Qs hl) (by rw [h2];rfl) λhS=>h.1.let (λhf=>by cases hf) hS ⟨r,h2,h.1.Cx h2⟩,by simp [Cf,Ty.Aq]⟩
  |own k off len=>have:k=l:=(Ad.1 hr).symm
                  subst this;simp only [Hi,Ab];trivial
  |Gy k i=>have:k=l:=(Ad.1 hr).symm
           subst this;simp only [Hi,Ab];trivial
  |Kh k i=>have:k=l:=(Ad.1 hr).symm
           subst this;simp only [Hi,Ab];trivial
  |sub k i c=>have:k=l:=(Ad.1 hr).symm
              subst this;simp only [Hi,Ab];trivial
  |Kd k i c=>have:k=l:=(Ad.1 hr).symm
             subst this;simp only [Hi,Ab];trivial
  |clo f Eg=>
   simp only [Hi]
   rw [Ab (by simpa [AC.refs] using hr)];trivial
  |_=>simp [AC.refs] at hr
 refine ⟨⟨h.1.drop l mv (St.Tv st l v m) λk e'=>St.Rn st l k v m e',?_⟩,mv⟩
 have hh:um X w (Xt π l none) {tmps:=st.tmps.map (·.map (Hi l v m)),heap:=(st.Ix l v m).heap} a:=mv.SG rfl h.2
 exact hh
def OB.fits:OB->OB->Prop
 | .arr _ _ e _ xs, .arr _ _ e' _ xs'=>e=e'/\xs.length<=xs'.length
 | .var _ _, .var _ _=>True
 | .Wo _ _, .Wo _ _=>True
 |_,_=>False
theorem Move.Aku {tc:Nat->Prop} {π':Pi} (hs:w.heap.size<=w'.heap.size)
  (hk: ∀k,k<w.heap.size->(∀l r,tc l->π l=some r-> ¬r.Cx k)->w'.heap[k]?=w.heap[k]?)
  (hO: ∀b,b<w.heap.size->Ux π' b->Ux π b)
  (hH: ∀m,¬tc m->Au H' m=Au H m/\π' m=π m) (hH': ∀m,tc m->ck (π m) (π' m)/\ ∀b0,Au H m=some b0-> ∃b,Au H' m=some b/\b0.fits b)
  (hx: ∀m r,¬tc m->π m=some r->(∃b,Au H m=some b/\b.iu≠none)->r.g<w.heap.size->w'.heap[r.g]?=w.heap[r.g]?):Move X w w' π π' H H' (λc=>c):=by
 have hc: ∀fr τ cs x,Cells w (Dd X.w0.heap.size X.Sc π fr) τ cs x->Cells w' (Dd X.w0.heap.size X.Sc π' fr) τ cs x:=by
  intro fr τ cs x h
  exact Cells.Fg hs (λk oE hn=>hk k oE λl r _ h0 h1=>hn (.inl ⟨l,r,h0,h1⟩)) (λk Iz hA=>hA.imp (hO k Iz) id) τ cs x h
 have same: ∀m r,π m=some r-> ∃r',π' m=some r'/\r.g=r'.g/\r.o=r'.o/\r.cap=r'.cap:=by
  intro m r hm
  by_cases ht:tc m
  ·have:=(hH' m ht).1
   rw [hm] at this
   cases hp:π' m with
   |none=>rw [hp] at this;exact this.elim
   |some r'=>rw [hp] at this;exact ⟨r',rfl,this.1,this.2.1,this.2.2.1⟩
  ·exact ⟨r,by rw [(hH m ht).2];exact hm,rfl,rfl,rfl⟩
 have fit: ∀m b,Au H m=some b-> ∃b',Au H' m=some b'/\(b'=b\/b.fits b'):=by
  intro m b hm
  by_cases ht:tc m
  ·obtain ⟨b',h1,h2⟩:=(hH' m ht).2 b hm;exact ⟨b',h1, .inr h2⟩
  ·exact ⟨b,by rw [(hH m ht).1];exact hm, .inl rfl⟩
 refine ⟨λc v h=>?_,hc⟩
 cases c with
 |data fr τ x=>obtain ⟨cs,h1,h2⟩:=h;exact ⟨cs,hc _ _ _ _ h1,h2⟩
 |own k off len=>
  obtain ⟨b,sz,n,h1,h0,h2,h3⟩:=h
  have xC:Ib (π' k) sz off len v:=by
   cases hp:π k with
   |none=>
    rw [hp] at h3
    have:π' k=none:=by
     by_cases ht:tc k
     ·have:=(hH' k ht).1
      rw [hp] at this
      cases oG:π' k with
      |none=>rfl
      |some r'=>rw [oG] at this;exact this.elim
     ·rw [(hH k ht).2];exact hp
    rw [this];exact h3
   |some r=>
    rw [hp] at h3
    obtain ⟨r',h4,h5,h6,h7⟩:=same k r hp
    rw [h4]
    unfold Ib at h3⊢
    simp only at h3⊢
    rw [<-h5,<-h6,<-h7]
    exact h3
  obtain ⟨b',h4,h5⟩:=fit k b h1
  rcases h5 with rfl|h5
  ·exact ⟨_,sz,n,h4,h0,h2,xC⟩
  ·cases b<;>cases b'<;>first|exact h5.elim|(simp [OB.row] at h0;done)|skip
   ·obtain ⟨rfl,hlen⟩:=h5
    simp only [OB.row,Aa,Ae] at h0
    obtain ⟨rfl,rfl⟩:=h0
    exact ⟨_,_,_,h4,rfl,by omega,xC⟩
 |Gy k i=>
  obtain ⟨r,tid,vs,h1,h2,h3⟩:=h
  obtain ⟨r',h4,h5,_⟩:=same k r h2
  obtain ⟨b',h6,h7⟩:=fit k _ h1
  rcases h7 with rfl|h7
  ·exact ⟨r',tid,vs,h6,h4,by rw [<-h5];exact h3⟩
  ·cases b'<;>first|exact h7.elim|exact ⟨r',_,_,h6,h4,by rw [<-h5];exact h3⟩
 |Kh k i=>
  obtain ⟨r,b,sz,n,h1,h0,h2,h3,h4⟩:=h
  obtain ⟨r',h5,h6,h7,_⟩:=same k r h3
  obtain ⟨b',h8,h9⟩:=fit k _ h1
  rcases h9 with rfl|h9
  ·exact ⟨r',_,sz,n,h8,h0,h2,h5,by rw [<-h6,<-h7];exact h4⟩
  ·cases b<;>cases b'<;>first|exact h9.elim|(simp [OB.row] at h0;done)|skip
   obtain ⟨rfl,hlen⟩:=h9
   simp only [OB.row,Aa,Ae] at h0
   obtain ⟨rfl,rfl⟩:=h0
   exact ⟨r',_,_,_,h8,rfl,by omega,h5,by rw [<-h6,<-h7];exact h4⟩
 |sub k i c=>
  obtain ⟨r,b,sz,n,h1,h0,h2,h3,h4,h5⟩:=h
  by_cases ht:tc k
  ·obtain ⟨b',h6,h7⟩:=(hH' k ht).2 _ h1
   cases b<;>first|(cases h0;done)|skip
   all_goals (cases b'<;>exact h7.elim)
  ·exact ⟨r,b,sz,n,by rw [(hH k ht).1];exact h1,h0,by rw [(hH k ht).2];exact h2,h3,h4,by rw [World.cell?_of_block (hx k r ht h2 ⟨b,h1,by rw [h0];simp⟩ (dm h5))];exact h5⟩
 |Kd k i c=>
  obtain ⟨r,b,n,sz,g,o,len,cap,h1,h0,h2,h3,h4,h5,h6⟩:=h
  by_cases ht:tc k
  ·obtain ⟨b',h6,h7⟩:=(hH' k ht).2 _ h1
   cases b<;>first|(cases h0;done)|skip
   all_goals (cases b'<;>exact h7.elim)
  ·exact ⟨r,b,n,sz,g,o,len,cap,by rw [(hH k ht).1];exact h1,h0,by rw [(hH k ht).2];exact h2,h3,h4,by rw [World.cell?_of_block (hx k r ht h2 ⟨b,h1,by cases b<;>first|(cases h0;done)|simp [OB.iu]⟩ (dm h5))];exact h5,h6⟩
 |clo f Eg=>
  obtain ⟨us,h1,h2,h3⟩:=h
  refine ⟨us,h1,h2,λj p hp=>?_⟩
  obtain ⟨r,tid,vs,h4,h5,h6⟩:=h3 j p hp
  obtain ⟨r',h7,h8,_⟩:=same _ r h5
  obtain ⟨b',h9,pW⟩:=fit _ _ h4
  rcases pW with rfl|pW
  ·exact ⟨r',tid,vs,h9,h7,by rw [<-h8];exact h6⟩
  ·cases b'<;>first|exact pW.elim|exact ⟨r',_,_,h9,h7,by rw [<-h8];exact h6⟩
 |Kr k=>
  obtain ⟨r,vt,m,h1,h2,h3⟩:=h
  obtain ⟨r',h4,h5,_⟩:=same k r h2
  obtain ⟨b',h6,h7⟩:=fit k _ h1
  rcases h7 with rfl|h7
  ·exact ⟨r',vt,m,h6,h4,by rw [<-h5];exact h3⟩
  ·cases b'<;>first|exact h7.elim|exact ⟨r',_,_,h6,h4,by rw [<-h5];exact h3⟩
 |_=>exact h
def Real.plus (r:Real) (N:List Nat):Real:= {r with cl:= λc=>r.cl c\/c∈N}
theorem Bk.Axn {st:St} {a:Act} (h:Bk X π st a w) {l:Nat} {b0 b:OB} (hl:Au st.heap l=some b0) (hf:b0.fits b) {r:Real} (hr:π l=some r) {N:List Nat}
  (hN: ∀c∈N,(X.w0.heap.size<=c\/X.gv c)/\c<w.heap.size/\ ∀m r0,m≠l->π m=some r0-> ¬r0.cl c) (hg:w.grownBy w' (some r.g))
  (hb:Move X w w' π (Xt π l (some (r.plus N))) st.heap (st.Kc l b).heap (λc=>c)->Cm X w' (Xt π l (some (r.plus N))) (st.Kc l b).heap (some (r.plus N)) b):Bk X (Xt π l (some (r.plus N))) (st.Kc l b) a w':=by
 have hk: ∀k,k<w.heap.size-> ¬r.Cx k->w'.heap[k]?=w.heap[k]?:= λk hk hn=>hg.block k hk (by
  intro e
  simp only [Aa] at e
  exact hn (e▸h.1.Cx hr))
 have xE: ∀k q,Xt π l (some (r.plus N)) k=some q-> ∃q0,π k=some q0/\(q=q0\/(k=l/\q0=r/\q=r.plus N)):= λk q hq=>by
  by_cases e:k=l
  ·subst e;rw [Gr] at hq;exact ⟨r,hr, .inr ⟨rfl,rfl,(Ba hq).symm⟩⟩
  ·rw [Gp π _ e] at hq;exact ⟨q,hq, .inl rfl⟩
 have cl': ∀k q q0 c,(q=q0\/(k=l/\q0=r/\q=r.plus N))->q.cl c->q0.cl c\/(k=l/\c∈N):= λk q q0 c h1 h2=>by
  rcases h1 with rfl|⟨rfl,rfl,rfl⟩
  ·exact .inl h2
  ·rcases h2 with h2|h2
   ·exact .inl h2
   ·exact .inr ⟨rfl,h2⟩
 have ft: ∀k q q0 c,(q=q0\/(k=l/\q0=r/\q=r.plus N))->(q.Cx c↔q0.Cx c):= λk q q0 c h1=>by
  rcases h1 with rfl|⟨rfl,rfl,rfl⟩<;>exact Iff.rfl
 have m:Move X w w' π (Xt π l (some (r.plus N))) st.heap (st.Kc l b).heap (λc=>c):=Move.Aku (tc:= λk=>k=l) hg.size (λk Iz hn=>hk k Iz (hn l r rfl hr)) (λc _ ⟨k,q,h1,h2⟩=>by
   obtain ⟨q0,h3,h4⟩:=xE k q h1
   exact ⟨k,q0,h3,(ft k q q0 c h4).1 h2⟩)
  (λm hm=>⟨Ee _ _ _ _ hm,Gp π _ hm⟩) (λm hm=>by subst hm;exact ⟨by rw [hr,Gr];exact ⟨rfl,rfl,rfl,λ_=>Iff.rfl⟩,λb1 h1=>by rw [hl] at h1;cases h1;exact ⟨b,Ew _ _ _ _ hl,hf⟩⟩)
  (λm r' hm h1 _ Iz=>hk _ Iz λh3=>hm (h.1.apart h1 hr (h.1.Cx h1) h3))
 refine ⟨⟨?_,h.1.sc,λk q c h1 h2=>?_,λk q c h1 h2=>?_,λk k' q q' c h1 h2 h3 h4=>?_,λk hp Ih=>?_,λk=>?_⟩,?_⟩
 ·exact h.1.below.grown hg h.1.below.size λk hk=>by cases hk;exact (h.1.lt hr).2
 ·obtain ⟨q0,h3,h4⟩:=xE k q h1
  have:=h.1.sub k q0 c h3 ((ft k q q0 c h4).1 h2)
  rcases h4 with rfl|⟨rfl,rfl,rfl⟩
  ·exact this
  ·exact .inl this
 ·obtain ⟨q0,h3,h4⟩:=xE k q h1
  rcases cl' k q q0 c h4 h2 with h5|⟨_,h5⟩
  ·exact ⟨(h.1.place k q0 c h3 h5).1,Dk (h.1.place k q0 c h3 h5).2 hg.size⟩
  ·exact ⟨(hN c h5).1,Dk (hN c h5).2.1 hg.size⟩
 ·obtain ⟨q0,g1,g2⟩:=xE k q h1
  obtain ⟨q0',g3,g4⟩:=xE k' q' h2
  rcases cl' k q q0 c g2 h3 with h5|⟨h5,h6⟩<;>rcases cl' k' q' q0' c g4 h4 with h7|⟨h7,h8⟩
  ·exact h.1.inj k k' q0 q0' c g1 g3 h5 h7
  ·refine Bw λhn=>(hN c h8).2.2 k q0 (λe=>hn (e.trans h7.symm)) g1 h5
  ·refine Bw λhn=>(hN c h6).2.2 k' q0' (λe=>hn (h5.trans e.symm)) g3 h7
  ·rw [h5,h7]
 ·by_cases e:k=l
  ·subst e
   have:=h.1.iY k hp (by rw [hl];simp)
   rw [hr] at this
   rw [Gr]
   cases hx:X.iY k with
   |none=>rw [hx] at this;exact this.elim
   |some q=>rw [hx] at this;exact this
  ·rw [Gp π _ e]
   exact h.1.iY k hp λh0=>Ih (by rw [show Au (st.Kc l b).heap k=Au st.heap k from Ee _ _ _ _ e];exact h0)
 ·by_cases e:k=l
  ·subst e
   exact Gk.Lu (by rw [Gr];exact hb m) (Ew _ _ _ _ hl)
  ·have hn:Au (st.Kc l b).heap k=Au st.heap k:=Ee _ _ _ _ e
   have ho:=h.1.heap k
   cases l5:Au st.heap k with
   |none=>rw [l5] at hn;exact Gk.Vc (by rw [Gp π _ e];exact ho.emp l5) hn
   |some c=>
    rw [l5] at hn
    refine Gk.Lu ?_ hn
    rw [Gp π _ e]
    have:=(ho.Qs l5).move m hg.size (λr0 c h0 h1=>h.1.sub _ r0 c h0 h1) λr0 c h0 h1 Iz=>hk _ Iz λh3=>e (h.1.inj _ _ r0 r c h0 hr h1 (h.1.sub _ _ _ hr h3))
    cases c with
    |var tid vs=>simpa [OB.map] using this
    |_=>exact this
 ·exact ⟨h.2.size,h.2.defers,λt=>by have:=m.av (h.2.tmps t);rwa [AC.map_id] at this⟩
theorem Bk.set {st:St} {a:Act} (h:Bk X π st a w) {l:Nat} {b0 b:OB} (hl:Au st.heap l=some b0) (hf:b0.fits b)
  (hg:w.grownBy w' ((π l).map (·.g)))
  (hb:Move X w w' π π st.heap (st.Kc l b).heap (λc=>c)->Cm X w' π (st.Kc l b).heap (π l) b):Bk X π (st.Kc l b) a w':=by
 have hk: ∀k,k<w.heap.size->(∀r,π l=some r-> ¬r.Cx k)->w'.heap[k]?=w.heap[k]?:= λk hk hn=>hg.block k hk (by
  intro e
  cases hp:π l with
  |none=>rw [hp] at e;cases e
  |some r=>rw [hp] at e;simp only [Am,Aa] at e;exact hn r hp (e▸h.1.Cx hp))
 have m:Move X w w' π π st.heap (st.Kc l b).heap (λc=>c):=Move.Aku (tc:= λk=>k=l) hg.size (λk Iz hn=>hk k Iz λr hr=>hn l r rfl hr) (λ_ _ h=>h)
  (λm hm=>⟨Ee _ _ _ _ hm,rfl⟩) (λm hm=>by subst hm;exact ⟨ck.rfl' _,λb1 h1=>by rw [hl] at h1;cases h1;exact ⟨b,Ew _ _ _ _ hl,hf⟩⟩)
  (λm r hm h1 _ Iz=>hk _ Iz λr1 h2 h3=>hm (h.1.apart h1 h2 (h.1.Cx h1) h3))
 refine ⟨⟨?_,h.1.sc,h.1.sub,λk r c h1 h2=>⟨(h.1.place k r c h1 h2).1,Dk (h.1.place k r c h1 h2).2 hg.size⟩,h.1.inj,λk hp Ih=>h.1.iY k hp λh0=>Ih ?_,λk=>?_⟩,?_⟩
 ·refine h.1.below.grown hg h.1.below.size λk hk=>?_
  cases hp:π l with
  |none=>rw [hp] at hk;cases hk
  |some r=>rw [hp] at hk;simp only [Am,Aa] at hk;rw [<-hk];exact (h.1.lt hp).2
 ·have:k≠l:= λe=>by subst e;rw [hl] at h0;cases h0
  rw [show Au (st.Kc l b).heap k=Au st.heap k from Ee _ _ _ _ this];exact h0
 ·by_cases e:k=l
  ·subst e
   exact Gk.Lu (hb m) (Ew _ _ _ _ hl)
  ·have hn:Au (st.Kc l b).heap k=Au st.heap k:=Ee _ _ _ _ e
   have ho:=h.1.heap k
   cases l5:Au st.heap k with
   |none=>rw [l5] at hn;exact Gk.Vc (ho.emp l5) hn
   |some c=>
    rw [l5] at hn
    refine Gk.Lu ?_ hn
    have:=(ho.Qs l5).move m hg.size (λr0 c h0 h1=>h.1.sub _ r0 c h0 h1) λr0 c h0 h1 Iz=>hk _ Iz λr1 h2 h3=>e (h.1.inj _ _ r0 r1 c h0 h2 h1 (h.1.sub _ _ _ h2 h3))
    cases c with
    |var tid vs=>simpa [OB.map] using this
    |_=>exact this
 ·exact ⟨h.2.size,h.2.defers,λt=>by have:=m.av (h.2.tmps t);rwa [AC.map_id] at this⟩
end
end Go.Proofs.YtfgfigkbgecfnaaGreat
