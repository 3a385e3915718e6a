/-
  Part 5 of the proof that the statement FnIterativeDeepening holds.
-/
import Derived.Test.YtkkdpknjohcekaaGreatCFIterativeDeepening03
namespace Go.Proofs.YtkkdpknjohcekaaGreat
open Go.RowKit
def Xc (π:Pi) (l:Nat) (r:Option Real):Pi:= λk=>if k=l then r else π k
theorem Gt (π:Pi) (l:Nat) (r:Option Real):Xc π l r l=r:=by simp [Xc]
theorem Gl (π:Pi) {l m:Nat} (r:Option Real) (h:m≠l):Xc π l r m=π m:=by simp [Xc,h]
section
variable {X:Ctx} {w w':World} {π:Pi} {H H':List (Nat×OB)}
def Cg (X:Ctx) (w:World) (π:Pi) (H:List (Nat×OB)) (r:Option Real):OB->Prop
 | .arr fr tr e tid xs=>Ks X w π r fr tr e tid xs
 | .Hf e tid xs=>Oh w r e tid xs
 | .var tid vs=>Aev X w π H r tid vs
 | .Bn e _ rows out kp=>ia X w π r e rows out kp
 | .Vx v m=>WQ w r v m
theorem Gj.Rz {l:Nat} {b:OB} (h:Gj X w π H l) (hb:Av H l=some b):Cg X w π H (π l) b:=by
 unfold Gj at h
 rw [hb] at h
 cases b<;>exact h
theorem Gj.Mf {l:Nat} {b:OB} (h:Cg X w π H (π l) b) (hb:Av H l=some b):Gj X w π H l:=by
 unfold Gj
 rw [hb]
 cases b<;>exact h
theorem Gj.Uq {l:Nat} (h:π l=none) (hb:Av H l=none):Gj X w π H l:=by
 unfold Gj;rw [hb];exact h
theorem Gj.emp {l:Nat} (h:Gj X w π H l) (hb:Av H l=none):π l=none:=by
 unfold Gj at h;rw [hb] at h;exact h
theorem Cg.move {f:AC->AC} {π':Pi} (m:Move X w w' π π' H H' f) {r:Option Real} {b:OB} (h:Cg X w π H r b) (hs:w.heap.size<=w'.heap.size)
  (Yf: ∀r' c,r=some r'->r'.Cq c->r'.cl c) (hk: ∀r' c,r=some r'->r'.cl c->c<w.heap.size->w'.heap[c]?=w.heap[c]?):
  Cg X w' π' H' r (b.map f):=by
 cases b with
 |arr fr tr e tid xs=>
  simp only [Cg,Ks,OB.map] at h⊢
  cases hr:r with
  |none=>rw [hr] at h;exact h
  |some r=>
   rw [hr] at h
   obtain ⟨h1,cur,ti,h2,h3,h4,h5,h6,h7⟩:=h
   refine ⟨h1,cur,ti,(hk r _ hr (Yf r _ hr h1.1) (Gk h2)).trans h2,h3,h4,h5,λi x hx=>?_,λht=>(h7 ht).Ft hs (λc _ Lr hc=>hk r c hr hc Lr) λ_ hb=>hb⟩
   obtain ⟨es,he,hj,hc⟩:=h6 i x hx
   exact ⟨es,he,hj,m.cells _ _ _ _ hc⟩
 |Hf e tid xs=>
  simp only [Cg,Oh,OB.map] at h⊢
  cases hr:r with
  |none=>rw [hr] at h;exact h
  |some r=>
   rw [hr] at h
   obtain ⟨h1,cur,ti,h2,h3,h4,h5,h7⟩:=h
   exact ⟨h1,cur,ti,(hk r _ hr (Yf r _ hr h1) (Gk h2)).trans h2,h3,h4,h5,h7.Ft hs (λc _ Lr hc=>hk r c hr (Yf r c hr hc) Lr) λ_ hb=>hb⟩
 |var tid vs=>
  obtain ⟨r',h0,h1,cur,h2,h3⟩:=h
  exact ⟨r',h0,h1,cur,(hk r' _ h0 (Yf r' _ h0 h1) (Gk h2)).trans h2,m.acs h3⟩
 |Bn e te rows out kp=>exact ia.Ft h (λq b hq hf Lr=>hk q b hq (Yf q b hq hf) Lr) (λes x=>m.cells false e es x)
 |Vx v g=>
  obtain ⟨r',h0,h1,h2,h3⟩:=h
  refine ⟨r',h0,h1,h2,?_⟩
  simp only [Cells] at h3⊢
  rcases h3 with ⟨h3,_⟩|⟨g,h3,hg,_,es,clock,h4,h5,h6,h7⟩
  ·simp at h3
  ·simp only [Hb,Value.map.injEq,Aa,bg] at h3
   subst h3
   refine .inr ⟨r'.g,rfl,by omega,λh=>h,es,clock,(hk r' _ h0 (Yf r' _ h0 h1) hg).trans h4,h5,h6,λs y hy=>?_⟩
   obtain ⟨u,h8,h9⟩:=h7 s y hy
   exact ⟨u,h8,Cells.flat v [u] y h2.1 h9⟩
theorem Move.forget {l:Nat} {r':Option Real} (hs:w.heap.size<=w'.heap.size)
  (hk: ∀k,k<w.heap.size->(∀r,π l=some r-> ¬r.Cq k)->w'.heap[k]?=w.heap[k]?)
  (hr: ∀r b,r'=some r->r.Cq b->(∃r0,π l=some r0/\r0.Cq b)\/w.heap.size<=b)
  (hH: ∀m,m≠l->Av H' m=(Av H m).map (OB.map (Ck l)))
  (hx: ∀m r,m≠l->π m=some r->(∃b,Av H m=some b/\b.gz≠none)->r.g<w.heap.size->w'.heap[r.g]?=w.heap[r.g]?):Move X w w' π (Xc π l r') H H' (Ck l):=by
 have hc: ∀fr τ cs x,Cells w (Cx X.w0.heap.size X.Sc π fr) τ cs x->Cells w' (Cx X.w0.heap.size X.Sc (Xc π l r') fr) τ cs x:=by
  intro fr τ cs x h
  refine Cells.Ft hs (λk qg hn=>hk k qg λr h0 h1=>hn (.inl ⟨l,r,h0,h1⟩)) (λk qg hA=>?_) τ cs x h
  rcases hA with ⟨m,r,hm,hg⟩|h2
  ·by_cases iQ:m=l
   ·subst iQ
    rw [Gt] at hm
    rcases hr r k hm hg with ⟨r0,h0,h1⟩|h1
    ·exact .inl ⟨m,r0,h0,h1⟩
    ·omega
   ·rw [Gl π r' iQ] at hm
    exact .inl ⟨m,r,hm,hg⟩
  ·exact .inr h2
 refine ⟨λc v h=>?_,hc⟩
 cases c with
 |data fr τ x=>obtain ⟨cs,h1,h2⟩:=h;exact ⟨cs,hc _ _ _ _ h1,h2⟩
 |own k off len=>
  simp only [Ck]
  split
  ·trivial
  ·rename_i Tc
   obtain ⟨b,sz,n,h1,h0,h2,h3⟩:=h
   exact ⟨b.map (Ck l),sz,n,by rw [hH k Tc,h1];rfl,by cases b<;>exact h0,h2,by rw [Gl π r' Tc];exact h3⟩
 |Hs k i=>
  simp only [Ck]
  split
  ·trivial
  ·rename_i Tc
   obtain ⟨r,tid,vs,h1,h2,h3⟩:=h
   exact ⟨r,tid,vs.map (Ck l),by rw [hH k Tc,h1];rfl,by rw [Gl π r' Tc];exact h2,h3⟩
 |Ku k i=>
  simp only [Ck]
  split
  ·trivial
  ·rename_i Tc
   obtain ⟨r,b,sz,n,h1,h0,h2,h3,h4⟩:=h
   exact ⟨r,b.map (Ck l),sz,n,by rw [hH k Tc,h1];rfl,by cases b<;>exact h0,h2,by rw [Gl π r' Tc];exact h3,h4⟩
 |sub k i c=>
  simp only [Ck]
  split
  ·trivial
  ·rename_i Tc
   obtain ⟨r,b,sz,n,h1,h0,h2,h3,h4,h5⟩:=h
   exact ⟨r,b.map (Ck l),sz,n,by rw [hH k Tc,h1];rfl,by cases b<;>exact h0,by rw [Gl π r' Tc];exact h2,h3,h4,by rw [World.cell?_of_block (hx k r Tc h2 ⟨b,h1,by rw [h0];simp⟩ (cC h5))];exact h5⟩
 |Kr k i c=>
  simp only [Ck]
  split
  ·trivial
  ·rename_i Tc
   obtain ⟨r,b,n,sz,g,o,len,cap,h1,h0,h2,h3,h4,h5,h6⟩:=h
   exact ⟨r,b.map (Ck l),n,sz,g,o,len,cap,by rw [hH k Tc,h1];rfl,by cases b<;>exact h0,by rw [Gl π r' Tc];exact h2,h3,h4,by rw [World.cell?_of_block (hx k r Tc h2 ⟨b,h1,by cases b<;>first|(cases h0;done)|simp [OB.gz]⟩ (cC h5))];exact h5,h6⟩
 |clo f Ec=>
  simp only [Ck]
  split
  ·trivial
  ·rename_i Tc
   obtain ⟨us,h1,h2,h3⟩:=h
   refine ⟨us,h1,h2,λj p hp=>?_⟩
   obtain ⟨r,tid,vs,h4,h5,h6⟩:=h3 j p hp
   have kv:p.1≠l:= λe=>Tc (by simp only [Ke,Bj];exact ⟨p,Cd hp,e⟩)
   exact ⟨r,tid,vs.map (Ck l),by rw [hH _ kv,h4];rfl,by rw [Gl π r' kv];exact h5,h6⟩
 |Lb k=>
  simp only [Ck]
  split
  ·trivial
  ·rename_i Tc
   obtain ⟨r,vt,m,h1,h2,h3⟩:=h
   exact ⟨r,vt,m,by rw [hH k Tc,h1];rfl,by rw [Gl π r' Tc];exact h2,h3⟩
 |_=>exact h
theorem St.Zy (st:St) (l m:Nat) (b:OB) (h:m≠l):Av (st.new l b).heap m=(Av st.heap m).map (OB.map (Ck l)):=by
 simp only [St.new,St.forget,St.Ln]
 rw [Px _ _ _ _ h,Oa _ _ _ h,Ph]
theorem St.Hg (st:St) (l:Nat) (b:OB):Av (st.new l b).heap l=some b:=by
 simp only [St.new,St.forget,St.Ln]
 exact Ra _ _ _ (My _ _)
theorem St.iL (st:St) (l m:Nat) (h:m≠l):Av (st.forget l).heap m=(Av st.heap m).map (OB.map (Ck l)):=by
 simp only [St.forget,St.Ln]
 rw [Oa _ _ _ h,Ph]
theorem St.oX (st:St) (l:Nat):Av (st.forget l).heap l=none:=by
 simp only [St.forget,St.Ln]
 exact My _ _
theorem Bh.jg {st:St} {a:Act} (h:Bh X π st a w) (l:Nat) (hl:l<Bl) (r':Option Real) (b:OB)
  (hg:w.grownBy w' ((π l).map (·.g)))
  (hf: ∀r b,r'=some r->r.Cq b->r.cl b/\((∃r0,π l=some r0/\r0.Cq b)\/w.heap.size<=b))
  (hr: ∀r b,r'=some r->r.cl b->(X.w0.heap.size<=b\/X.gv b)/\b<w'.heap.size/\ ∀m r0,m≠l->π m=some r0-> ¬r0.cl b)
  (hb:Move X w w' π (Xc π l r') st.heap (st.new l b).heap (Ck l)->Cg X w' (Xc π l r') (st.new l b).heap r' b):Bh X (Xc π l r') (st.new l b) a w':=by
 have hk: ∀k,k<w.heap.size->(∀r,π l=some r-> ¬r.Cq k)->w'.heap[k]?=w.heap[k]?:= λk hk hn=>hg.block k hk (by
  intro e
  cases hp:π l with
  |none=>rw [hp] at e;cases e
  |some r=>rw [hp] at e;simp only [Ak,Aa] at e;exact hn r hp (e▸h.1.Cq hp))
 have m:Move X w w' π (Xc π l r') st.heap (st.new l b).heap (Ck l):=Move.forget hg.size hk (λr c h1 h2=>(hf r c h1 h2).2) (λm hm=>St.Zy st l m b hm)
  (λm r hm h1 _ Lr=>hk _ Lr λr1 h2 h3=>hm (h.1.apart h1 h2 (h.1.Cq h1) h3))
 refine ⟨⟨?_,h.1.sc,?_,?_,?_,?_,λk=>?_⟩,?_⟩
 ·refine h.1.below.grown hg h.1.below.size λk hk=>?_
  cases hp:π l with
  |none=>rw [hp] at hk;cases hk
  |some r=>rw [hp] at hk;simp only [Ak,Aa] at hk;rw [<-hk];exact (h.1.lt hp).2
 ·intro k r c h1 h2
  by_cases e1:k=l
  ·subst e1;rw [Gt] at h1;exact (hf r c h1 h2).1
  ·rw [Gl π r' e1] at h1;exact h.1.sub k r c h1 h2
 ·intro k r c h1 h2
  by_cases e1:k=l
  ·subst e1;rw [Gt] at h1;have:=hr r c h1 h2;exact ⟨this.1,this.2.1⟩
  ·rw [Gl π r' e1] at h1;have:=h.1.place k r c h1 h2;exact ⟨this.1,Ef this.2 hg.size⟩
 ·intro l1 l2 r1 r2 c h1 h2 h3 h4
  by_cases e1:l1=l<;>by_cases e2:l2=l
  ·rw [e1,e2]
  ·subst e1
   rw [Gt] at h1;rw [Gl π r' e2] at h2
   exact absurd h4 ((hr r1 c h1 h3).2.2 l2 r2 e2 h2)
  ·subst e2
   rw [Gt] at h2;rw [Gl π r' e1] at h1
   exact absurd h3 ((hr r2 c h2 h4).2.2 l1 r1 e1 h1)
  ·rw [Gl π r' e1] at h1;rw [Gl π r' e2] at h2
   exact h.1.inj _ _ r1 r2 c h1 h2 h3 h4
 ·intro k hpk Jl
  have e:k≠l:= λe=>by subst e;omega
  rw [St.Zy st l k b e] at Jl
  rw [Gl π r' e]
  exact h.1.gZ k hpk λh0=>Jl (by rw [h0];rfl)
 ·by_cases e:k=l
  ·subst e
   exact Gj.Mf (by rw [Gt];exact hb m) (St.Hg st k b)
  ·have hn:=St.Zy st l k b e
   have ho:=h.1.heap k
   cases nw:Av st.heap k with
   |none=>rw [nw] at hn;exact Gj.Uq (by rw [Gl π r' e];exact ho.emp nw) hn
   |some c=>
    rw [nw] at hn
    refine Gj.Mf ?_ hn
    rw [Gl π r' e]
    exact (ho.Rz nw).move m hg.size (λr0 c h0 h1=>h.1.sub _ r0 c h0 h1) λr0 c h0 h1 Lr=>hk _ Lr λr1 h2 h3=>e (h.1.inj _ _ r0 r1 c h0 h2 h1 (h.1.sub _ _ _ h2 h3))
 ·have hh:sl X w' (Xc π l r') {tmps:=st.tmps.map (·.map (Ck l)),heap:=(st.new l b).heap} a:=m.LZ rfl h.2
  exact hh
def Real.one (g o cap:Nat):Real:=⟨g,o,cap,λb=>b=g,λb=>b=g⟩
theorem Bh.replace {st:St} {a:Act} (h:Bh X π st a w) (l:Nat) (hl:l<Bl) (r':Option Real) (b:OB)
  (hg:w.grownBy w' ((π l).map (·.g)))
  (hr: ∀r,r'=some r->r=Real.one r.g r.o r.cap/\((∃r0,π l=some r0/\r0.g=r.g)\/w.heap.size<=r.g)/\r.g<w'.heap.size)
  (hb:Move X w w' π (Xc π l r') st.heap (st.new l b).heap (Ck l)->Cg X w' (Xc π l r') (st.new l b).heap r' b):Bh X (Xc π l r') (st.new l b) a w':=by
 refine h.jg l hl r' b hg (λr c h1 h2=>?_) (λr c h1 h2=>?_) hb
 ·obtain ⟨h3,h4,_⟩:=hr r h1
  have h2':c=r.g:=by rw [h3] at h2;exact h2
  subst h2'
  refine ⟨by rw [h3];rfl,h4.imp (λ⟨r0,h5,h6⟩=>⟨r0,h5,h6▸h.1.Cq h5⟩) id⟩
 ·obtain ⟨h3,h4,h5⟩:=hr r h1
  have h2':c=r.g:=by rw [h3] at h2;exact h2
  subst h2'
  refine ⟨?_,h5,λm r0 hm h6 h7=>?_⟩
  ·rcases h4 with ⟨r0,h6,h7⟩|h6
   ·rw [<-h7];exact (h.1.lt h6).2
   ·exact .inl (Lg h.1.below.size h6)
  ·rcases h4 with ⟨r1,h8,h9⟩|h8
   ·exact hm (h.1.inj m l r0 r1 r.g h6 h8 h7 (h9▸h.1.sub l r1 _ h8 (h.1.Cq h8)))
   ·have:=(h.1.place m r0 _ h6 h7).2;omega
theorem Nj.drop (h:Nj X w π H) {f:AC->AC} (l:Nat) (m:Move X w w π (Xc π l none) H H' f) (h0:Av H' l=none) (hH: ∀k,k≠l->Av H' k=(Av H k).map (OB.map f)):Nj X w (Xc π l none) H':=by
 have un: ∀k r,Xc π l none k=some r->k≠l/\π k=some r:= λk r hk=>by
  by_cases e:k=l
  ·subst e;rw [Gt] at hk;cases hk
  ·rw [Gl π none e] at hk;exact ⟨e,hk⟩
 refine ⟨h.below,h.sc,λk r c h1 h2=>h.sub k r c (un k r h1).2 h2,λk r c h1 h2=>h.place k r c (un k r h1).2 h2,λl1 l2 r1 r2 c h1 h2 h3 h4=>h.inj _ _ r1 r2 c (un _ _ h1).2 (un _ _ h2).2 h3 h4,λk hp Jl=>?_,λk=>?_⟩
 ·have e:k≠l:= λe=>by subst e;exact Jl h0
  rw [hH k e] at Jl
  rw [Gl π none e]
  exact h.gZ k hp λh1=>Jl (by rw [h1];rfl)
 ·by_cases e:k=l
  ·subst e
   exact Gj.Uq (by rw [Gt]) h0
  ·have hn:=hH k e
   have ho:=h.heap k
   cases nw:Av H k with
   |none=>rw [nw] at hn;exact Gj.Uq (by rw [Gl π none e];exact ho.emp nw) hn
   |some c=>
    rw [nw] at hn
    refine Gj.Mf ?_ hn
    rw [Gl π none e]
    exact (ho.Rz nw).move m (Ap _) (λr0 c h0 h1=>h.sub _ r0 c h0 h1) λr0 c h0 h1 Lr=>rfl
theorem Bh.forget {st:St} {a:Act} (h:Bh X π st a w) (l:Nat):Bh X (Xc π l none) (st.forget l) a w:=by
 have m:Move X w w π (Xc π l none) st.heap (st.forget l).heap (Ck l):=
  Move.forget (Ap _) (λ_ _ _=>rfl) (λr c hr=>by cases hr) (λm hm=>St.iL st l m hm) (λ_ _ _ _ _ _=>rfl)
 refine ⟨h.1.drop l m (St.oX st l) λk e=>St.iL st l k e,?_⟩
 have hh:sl X w (Xc π l none) {tmps:=st.tmps.map (·.map (Ck l)),heap:=(st.forget l).heap} a:=m.LZ rfl h.2
 exact hh
theorem cellOf {w:World} {g:Nat} {cur:Array Value} {tid:TypeId} (h:w.heap[g]?=some (.cells cur tid (0,0))) (i:Nat):w.cell? ⟨g,i,none⟩=cur[i]?:=by
 simp [World.cell?,h]
theorem Oy {l off len:Nat} {v:Value} {fr tr:Bool} {e:Ty} {tid:TypeId} {xs:List e.den} (h:Ia X w π H (.own l off len) v) (hl:Av H l=some (.arr fr tr e tid xs)):off+len<=xs.length/\Ip (π l) e.size off len v:=by
 obtain ⟨b,sz,n,h1,h0,h2,h3⟩:=h
 rw [hl] at h1;cases h1
 simp only [OB.row,Aa,Ae] at h0
 obtain ⟨rfl,rfl⟩:=h0
 exact ⟨h2,h3⟩
theorem c5 {l off len:Nat} {v:Value} {e:Ty} {tid:TypeId} {xs:List e.den} (h:Ia X w π H (.own l off len) v) (hl:Av H l=some (.Hf e tid xs)):off+len<=xs.length/\Ip (π l) e.size off len v:=by
 obtain ⟨b,sz,n,h1,h0,h2,h3⟩:=h
 rw [hl] at h1;cases h1
 simp only [OB.row,Aa,Ae] at h0
 obtain ⟨rfl,rfl⟩:=h0
 exact ⟨h2,h3⟩
theorem KP {l off len:Nat} {v:Value} {fr tr:Bool} {e:Ty} {tid:TypeId} {xs:List e.den} (hl:Av H l=some (.arr fr tr e tid xs)) (h1:off+len<=xs.length) (h2:Ip (π l) e.size off len v):Ia X w π H (.own l off len) v:=
 ⟨_,e.size,xs.length,hl,rfl,h1,h2⟩
theorem xK {r:Real} {off len:Nat} {v:Value} {e:Ty} {tid:TypeId} {xs:List e.den} {S:Nat->Prop} {cur:Array Value} (h2:w.heap[r.g]?=some (.cells cur tid (0,0)))
  (hlen:off+len<=xs.length) (hv:Ip (some r) e.size off len v) (hg: ¬S r.g)
  (hA: ∀(i:Nat) (x:e.den),xs[i]?=some x-> ∃es:List Value,es.length=e.size/\(∀j u,es[j]?=some u->cur[(r.o+i)*e.size+j]?=some u)/\Cells w S e es x):Cells w S (.slice e) [v] ((xs.drop off).take len):=by
 have hll:((xs.drop off).take len).length=len:=by simp;omega
 obtain ⟨ad,rfl,hc,ha⟩:=hv
 refine ⟨some ad,len,r.cap-off,rfl,hll.symm,by omega,?_⟩
 rcases Ua len with h0|h0
 ·left;subst h0;simp
 ·right
  refine ⟨r.g,(r.o+off)*e.size,by rw [ha (by omega)],Gk h2,hg,λi x hx=>?_⟩
  have hi:i<len:=by
   have:=(An.1 hx).1
   rw [hll] at this;exact this
  have hx':xs[off+i]?=some x:=by
   rw [Cs,Ab hi,Da] at hx;exact hx
  obtain ⟨es,he,hj,yK⟩:=hA (off+i) x hx'
  refine ⟨es,he,λj u hu=>?_,yK⟩
  rw [cellOf h2]
  have:=hj j u hu
  rw [<-this]
  congr 1
  rw [<-Gy,De (r.o+off) i]
theorem pt {l off len:Nat} {v:Value} {fr tr:Bool} {e:Ty} {tid:TypeId} {xs:List e.den} {S:Nat->Prop} (h:Nj X w π H) (hl:Av H l=some (.arr fr tr e tid xs))
  (hlen:off+len<=xs.length) (hv:Ip (π l) e.size off len v)
  (hS: ∀k,S k->(∃r,π l=some r/\r.Cq k)->False) (hA: ∀k,k<w.heap.size->S k->Cx X.w0.heap.size X.Sc π fr k):Cells w S (.slice e) [v] ((xs.drop off).take len):=by
 have hb:=(h.heap l).Rz hl
 simp only [Cg,Ks] at hb
 cases hp:π l with
 |none=>
  rw [hp] at hb hv
  obtain ⟨rfl,rfl,rfl⟩:=hv
  exact ⟨none,0,0,rfl,by simp,Ap _, .inl (by simp)⟩
 |some r=>
  rw [hp] at hb hv
  obtain ⟨h1,cur,_,h2,h3,h4,h5,h6,_⟩:=hb
  refine xK h2 hlen hv (λhs=>hS _ hs ⟨r,hp,h1.1⟩) λi x hx=>?_
  obtain ⟨es,he,hj,yK⟩:=h6 i x hx
  exact ⟨es,he,hj,Cells.Ft (Ap _) (λ_ _ _=>rfl) hA e es x yK⟩
theorem Tl.slice {D S:Nat->Prop} {R:Option Real} {e:Ty} {x:List e.den} {u:Value} (h:Tl w D R e x) (hv:Ip R e.size 0 (List.length x) u) (hD: ∀k,S k->D k) (hg: ∀q,R=some q-> ¬S q.g):Cells w S (.slice e) [u] x:=by
 cases R with
 |none=>
  have hx:x= []:=h
  subst hx
  obtain ⟨rfl,_,_⟩:=hv
  exact ⟨none,0,0,rfl,rfl,Ap _, .inl rfl⟩
 |some q=>
  obtain ⟨h1,cur,ti,h2,h3,h4,h5,h6⟩:=h
  obtain ⟨ad,rfl,g1,g2⟩:=hv
  refine ⟨some ad,List.length x,_,rfl,rfl,by omega,?_⟩
  rcases Ua (List.length x) with hx|hx
  ·exact .inl (Ch hx)
  ·have XM:=g2 (by omega)
   subst XM
   refine .inr ⟨q.g,(q.o+0)*e.size,rfl,Gk h2,hg q rfl,λi y hy=>?_⟩
   obtain ⟨es,k1,k2,k3⟩:=h6 i y hy
   refine ⟨es,k1,λj u hu=>?_,Cells.Ft (Ap _) (λ_ _ _=>rfl) (λk _ hk=>hD k hk) e es y k3⟩
   rw [cellOf h2,En,<-De]
   exact k2 j u hu
theorem nV {l off len:Nat} {v:Value} {e:Ty} {te:TypeId} {rows:List (List e.den)} {out:Option Nat} {kp:Option (Nat×Nat)} (h:Ia X w π H (.own l off len) v) (hl:Av H l=some (.Bn e te rows out kp)):off+len<=rows.length/\Ip (π l) 1 off len v:=by
 obtain ⟨b,sz,n,h1,h2,h3,h4⟩:=h
 rw [hl] at h1;cases h1
 simp only [OB.row,Aa,Ae] at h2
 obtain ⟨rfl,rfl⟩:=h2
 exact ⟨h3,h4⟩
theorem sT {l off len:Nat} {v:Value} {e:Ty} {te:TypeId} {rows:List (List e.den)} {kp:Option (Nat×Nat)} {S:Nat->Prop} (h:Nj X w π H) (hl:Av H l=some (.Bn e te rows none kp))
  (hlen:off+len<=rows.length) (hv:Ip (π l) 1 off len v)
  (hS: ∀k,S k->(∃r,π l=some r/\r.Cq k)->False) (hA: ∀k,S k->Cx X.w0.heap.size X.Sc π false k):Cells w S (.slice (.slice e)) [v] ((rows.drop off).take len):=by
 have hb:=(h.heap l).Rz hl
 simp only [Cg] at hb
 have hb:=hb.1
 cases hp:π l with
 |none=>
  rw [hp] at hb hv
  have hb:rows= []:=hb
  obtain ⟨rfl,rfl,rfl⟩:=hv
  exact ⟨none,0,0,rfl,by simp,Ap _, .inl (by simp)⟩
 |some r=>
  rw [hp] at hb hv
  obtain ⟨h1,cur,ti,h2,h3,h4,h5,Rs,h6,h7,h8,h9⟩:=hb
  obtain ⟨ad,rfl,g1,g2⟩:=hv
  refine ⟨some ad,len,_,rfl,by simp;omega,by omega,?_⟩
  rcases Ua len with hx|hx
  ·subst hx;exact .inl (by simp)
  ·have XM:=g2 (by omega)
   subst XM
   refine .inr ⟨r.g,(r.o+off)*1,rfl,Gk h2,λhs=>hS _ hs ⟨r,hp,h1⟩,λi x hx=>?_⟩
   have hx:((rows.drop off).take len)[i]?=some x:=hx
   rw [Cs] at hx
   split at hx
   ·rw [Da] at hx
    obtain ⟨u,R,k1,k2,k3,k4⟩:=h9 _ x hx (by simp)
    refine ⟨[u],rfl,λj u' fm=>?_,k4.slice k3 hA λq hq hs=>hS _ hs ⟨r,hp,(h7 _ q (by rw [k2,hq])).1⟩⟩
    rcases j with _|j
    ·simp only [Bq,Aa] at fm
     subst fm
     rw [cellOf h2,<-k1]
     congr 1
     simp only [Ty.size];omega
    ·simp at fm
   ·cases hx
theorem DK {l i c:Nat} {v:Value} {e:Ty} {te:TypeId} {rows:List (List e.den)} {out:Option Nat} {kp:Option (Nat×Nat)} (hv:Ia X w π H (.sub l i c) v) (hl:Av H l=some (.Bn e te rows out kp)):rows[i]?=some (rows.getD i []):=by
 obtain ⟨r,b,sz,n,h1,h0,_,h3,_⟩:=hv
 rw [hl] at h1;cases h1
 simp only [OB.gz,Aa,Ae] at h0
 obtain ⟨rfl,rfl⟩:=h0
 rw [Aj,Ac h3];rfl
theorem nt {l i:Nat} {e:Ty} {te:TypeId} {rows:List (List e.den)} {out:Option Nat} {kp:Option (Nat×Nat)} {r:Real} (h:Nj X w π H) (hl:Av H l=some (.Bn e te rows out kp)) (hp:π l=some r) (hi:i<rows.length) (ho:out≠some i):
  ∃u R,w.cell? ⟨r.g,r.o+i,none⟩=some u/\Ip R e.size 0 (rows.getD i []).length u/\Tl w (Cx X.w0.heap.size X.Sc π false) R e (rows.getD i []):=by
 have hb:=(h.heap l).Rz hl
 simp only [Cg] at hb
 have hb:=hb.1
 rw [hp] at hb
 obtain ⟨h1,cur,ti,h2,h3,h4',h5',Rs,h6,h7,h8,h9⟩:=hb
 have hx:rows[i]?=some (rows.getD i []):=by rw [Aj,Ac hi];rfl
 obtain ⟨u,R,k1,k2,k3,k4⟩:=h9 _ _ hx ho
 exact ⟨u,R,by rw [cellOf h2];exact k1,k3,k4⟩
theorem aY {R:Option Real} {sz off len:Nat} {u:Value} (h:Ip R sz off len u): ∃a n m,u= .slice a n m:=by
 cases R with
 |none=>exact ⟨_,_,_,h.1⟩
 |some q=>obtain ⟨ad,rfl,_⟩:=h;exact ⟨_,_,_,rfl⟩
theorem sU {l i c:Nat} {v:Value} {e:Ty} {te:TypeId} {rows:List (List e.den)} {kp:Option (Nat×Nat)} {x:List e.den} {S:Nat->Prop} (h:Nj X w π H) (hl:Av H l=some (.Bn e te rows none kp)) (hx:rows[i]?=some x)
  (hv:Ia X w π H (.sub l i c) v)
  (hS: ∀k,S k->(∃r,π l=some r/\r.Cq k)->False) (hA: ∀k,S k->Cx X.w0.heap.size X.Sc π false k):Cells w S (.slice e) [v] x:=by
 obtain ⟨r,b,sz,n,h1,h0,hp,h3,⟨h4,_⟩,h5⟩:=hv
 rw [hl] at h1;cases h1
 simp only [OB.gz,Aa,Ae] at h0
 obtain ⟨rfl,rfl⟩:=h0
 have hb:=(h.heap l).Rz hl
 simp only [Cg] at hb
 have hb:=hb.1
 rw [hp] at hb
 obtain ⟨h1,cur,ti,h2,h3,h4',h5',Rs,h6,h7,h8,h9⟩:=hb
 obtain ⟨u,R,k1,k2,k3,k4⟩:=h9 _ x hx (by simp)
 have:c=0:=by omega
 subst this
 rw [cellOf h2,Fl,En,k1] at h5
 have hv:=Az h5
 subst hv
 exact k4.slice k3 hA λq hq hs=>hS _ hs ⟨r,hp,(h7 _ q (by rw [k2,hq])).1⟩
theorem mE {l off len:Nat} {v:Value} {e:Ty} {tid:TypeId} {xs:List e.den} {S:Nat->Prop} (h:Nj X w π H) (hl:Av H l=some (.Hf e tid xs))
  (hlen:off+len<=xs.length) (hv:Ip (π l) e.size off len v)
  (hS: ∀k,S k->(∃r,π l=some r/\r.Cq k)->False):Cells w S (.slice e) [v] ((xs.drop off).take len):=by
 have hb:=(h.heap l).Rz hl
 simp only [Cg,Oh] at hb
 cases hp:π l with
 |none=>
  rw [hp] at hb hv
  obtain ⟨rfl,rfl,rfl⟩:=hv
  exact ⟨none,0,0,rfl,by simp,Ap _, .inl (by simp)⟩
 |some r=>
  rw [hp] at hb hv
  obtain ⟨h1,cur,_,h2,h3,h4,h5,Fs,k1,k2,k3,k4⟩:=hb
  refine xK h2 hlen hv (λhs=>hS _ hs ⟨r,hp,h1⟩) λi x hx=>?_
  have hi:i<Fs.length:=by have:=(An.1 hx).1;omega
  obtain ⟨es,he,hj,yK⟩:=k4 i x _ hx (Ac hi)
  exact ⟨es,he,hj,yK.cells _ _ _ _ λb hb hs=>hS b hs ⟨r,hp,k3 b (Hz.2 ⟨_,Al hi,hb⟩)⟩⟩
theorem St.Sj (st:St) (l m:Nat) (fr:Bool) (e:Ty) (xs:List e.den) (h:m≠l):Av (st.freeze l fr e xs).heap m=(Av st.heap m).map (OB.map (Cv l fr e xs)):=by
 simp only [St.freeze,St.Ln]
 rw [Oa _ _ _ h,Ph]
theorem St.Mt (st:St) (l:Nat) (fr:Bool) (e:Ty) (xs:List e.den):Av (st.freeze l fr e xs).heap l=none:=by
 simp only [St.freeze,St.Ln]
 exact My _ _
theorem sA {l:Nat} {B:Nat} {Sc:Nat->Prop} {fr:Bool} {k:Nat} (hA:Cx B Sc (Xc π l none) fr k):Cx B Sc π fr k:=by
 rcases hA with ⟨m,r,hm,hg⟩|h2
 ·by_cases iQ:m=l
  ·subst iQ;rw [Gt] at hm;cases hm
  ·rw [Gl π none iQ] at hm
   exact .inl ⟨m,r,hm,hg⟩
 ·exact .inr h2
theorem Nj.let (h:Nj X w π H) {l:Nat} {fr:Bool} (yM:fr=true-> ∀r,π l=some r-> ∀b,r.Cq b->X.w0.heap.size<=b) {k:Nat} (hS:Cx X.w0.heap.size X.Sc (Xc π l none) fr k) (hk: ∃r,π l=some r/\r.Cq k):False:=by
 obtain ⟨r,hr,JU⟩:=hk
 rcases hS with ⟨m,r',hm,hg⟩|hS|⟨hf,hS⟩
 ·by_cases iQ:m=l
  ·subst iQ;rw [Gt] at hm;cases hm
  ·rw [Gl π none iQ] at hm
   exact iQ (h.apart hm hr hg JU)
 ·have h1:=h.sc k hS
  rcases (h.own ⟨l,r,hr,JU⟩).2 with h2|h2
  ·omega
  ·exact h1.2 h2
 ·have:=yM hf r hr k JU;omega
theorem Move.OR {l:Nat} {f:AC->AC} (hf: ∀c v,Ia X w π H c v->(∀k∈c.refs,k≠l)->f c=c)
  (hl: ∀c v,Ia X w π H c v->l∈c.refs->Ia X w (Xc π l none) H' (f c) v)
  (hH: ∀m,m≠l->Av H' m=(Av H m).map (OB.map f)):Move X w w π (Xc π l none) H H' f:=by
 have hc: ∀Wh τ cs x,Cells w (Cx X.w0.heap.size X.Sc π Wh) τ cs x->Cells w (Cx X.w0.heap.size X.Sc (Xc π l none) Wh) τ cs x:=
  fun Wh τ cs x hh=>Cells.Ft (Ap _) (λ_ _ _=>rfl) (λk _ hA=>sA hA) τ cs x hh
 refine ⟨λc v DN=>?_,hc⟩
 by_cases hlr:l∈c.refs
 ·exact hl c v DN hlr
 ·rw [hf c v DN λk hk e=>hlr (e▸hk)]
  cases c with
  |data Wh τ x=>obtain ⟨cs,h1,h2⟩:=DN;exact ⟨cs,hc _ _ _ _ h1,h2⟩
  |own k off len=>
   have Tc:k≠l:= λe=>hlr (by simp [AC.refs,e])
   obtain ⟨b,sz,n,h1,h0,h2,h3⟩:=DN
   exact ⟨b.map f,sz,n,by rw [hH k Tc,h1];rfl,by cases b<;>exact h0,h2,by rw [Gl π none Tc];exact h3⟩
  |Hs k i=>
   have Tc:k≠l:= λe=>hlr (by simp [AC.refs,e])
   obtain ⟨r,Vd,vs,h1,h2,h3⟩:=DN
   exact ⟨r,Vd,vs.map f,by rw [hH k Tc,h1];rfl,by rw [Gl π none Tc];exact h2,h3⟩
  |Ku k i=>
   have Tc:k≠l:= λe=>hlr (by simp [AC.refs,e])
   obtain ⟨r,b,sz,n,h1,h0,h2,h3,h4⟩:=DN
   exact ⟨r,b.map f,sz,n,by rw [hH k Tc,h1];rfl,by cases b<;>exact h0,h2,by rw [Gl π none Tc];exact h3,h4⟩
  |sub k i c=>
   have Tc:k≠l:= λe=>hlr (by simp [AC.refs,e])
   obtain ⟨r,b,sz,n,h1,h0,h2,h3⟩:=DN
   exact ⟨r,b.map f,sz,n,by rw [hH k Tc,h1];rfl,by cases b<;>exact h0,by rw [Gl π none Tc];exact h2,h3⟩
  |Kr k i c=>
   have Tc:k≠l:= λe=>hlr (by simp [AC.refs,e])
   obtain ⟨r,b,n,sz,g,o,len,cap,h1,h0,h2,h3⟩:=DN
   exact ⟨r,b.map f,n,sz,g,o,len,cap,by rw [hH k Tc,h1];rfl,by cases b<;>exact h0,by rw [Gl π none Tc];exact h2,h3⟩
  |clo g Ec=>
   obtain ⟨us,h1,h2,h3⟩:=DN
   refine ⟨us,h1,h2,λj p hp=>?_⟩
   obtain ⟨r,tid,vs,h4,h5,h6⟩:=h3 j p hp
   have kv:p.1≠l:= λe=>hlr (by simp only [AC.refs,Bj];exact ⟨p,Cd hp,e⟩)
   exact ⟨r,tid,vs.map f,by rw [hH _ kv,h4];rfl,by rw [Gl π none kv];exact h5,h6⟩
  |Lb k=>
   have Tc:k≠l:= λe=>hlr (by simp [AC.refs,e])
   obtain ⟨r,vt,m,h1,h2,h3⟩:=DN
   exact ⟨r,vt,m,by rw [hH k Tc,h1];rfl,by rw [Gl π none Tc];exact h2,h3⟩
  |_=>exact DN
theorem iz {l:Nat} {ls:List Nat} (h: ∀k∈ls,k≠l):ls.contains l=false:=by
 cases hc:ls.contains l with
 |false=>rfl
 |true=>exact absurd rfl (h l (by simpa using hc))
theorem iM {l:Nat} {fr:Bool} {e:Ty} {xs:List e.den} {c:AC} (h: ∀k∈c.refs,k≠l):Cv l fr e xs c=c:=by
 cases c<;>simp only [Cv]<;>first|rfl|skip
 case clo f Ec=>rw [Ai (by rw [iz (show ∀k∈Ec.map (·.1),k≠l from h)];simp)]
 all_goals rw [Ai (h _ (by simp [AC.refs]))]
theorem sR {l:Nat} {v:Ty} {m:ByteArray->Option v.den} {c:AC} (h: ∀k∈c.refs,k≠l):Hp l v m c=c:=by
 cases c<;>simp only [Hp]<;>first|rfl|skip
 case clo f Ec=>rw [Ai (by rw [iz (show ∀k∈Ec.map (·.1),k≠l from h)];simp)]
 all_goals rw [Ai (h _ (by simp [AC.refs]))]
theorem Move.freeze {l:Nat} {fr:Bool} {e:Ty} {xs:List e.den}
  (Am8: ∀off len v,Ia X w π H (.own l off len) v->Cells w (Cx X.w0.heap.size X.Sc (Xc π l none) fr) (.slice e) [v] ((xs.drop off).take len))
  (hH: ∀m,m≠l->Av H' m=(Av H m).map (OB.map (Cv l fr e xs))):Move X w w π (Xc π l none) H H' (Cv l fr e xs):=by
 refine Move.OR (λc v _ h=>iM h) (λc v DN hr=>?_) hH
 cases c with
 |own k off len=>
  have:k=l:=(Ad.1 hr).symm
  subst this
  simp only [Cv,Ab]
  exact ⟨[v],Am8 off len v DN,by simp [By,Ty.Aq]⟩
 |Hs k i=>have:k=l:=(Ad.1 hr).symm
          subst this;simp only [Cv,Ab];trivial
 |Ku k i=>have:k=l:=(Ad.1 hr).symm
          subst this;simp only [Cv,Ab];trivial
 |sub k i c=>have:k=l:=(Ad.1 hr).symm
             subst this;simp only [Cv,Ab];trivial
 |Kr k i c=>have:k=l:=(Ad.1 hr).symm
            subst this;simp only [Cv,Ab];trivial
 |Lb k=>have:k=l:=(Ad.1 hr).symm
        subst this;simp only [Cv,Ab];trivial
 |clo f Ec=>
  simp only [Cv]
  rw [Ab (by simpa [AC.refs] using hr)];trivial
 |_=>simp [AC.refs] at hr
theorem Bh.freeze {st:St} {a:Act} (h:Bh X π st a w) {l:Nat} {fr:Bool} {e:Ty} {xs:List e.den}
  (hl:(∃tr tid,Av st.heap l=some (.arr fr tr e tid xs))\/(fr=false/\ ∃tid,Av st.heap l=some (.Hf e tid xs))):
  Bh X (Xc π l none) (st.freeze l fr e xs) a w/\Move X w w π (Xc π l none) st.heap (st.freeze l fr e xs).heap (Cv l fr e xs):=by
 have m:Move X w w π (Xc π l none) st.heap (st.freeze l fr e xs).heap (Cv l fr e xs):=by
  refine Move.freeze (λoff len v hv=>?_) (λm hm=>St.Sj st l m fr e xs hm)
  rcases hl with ⟨tr,tid,hl⟩|⟨rfl,tid,hl⟩
  ·obtain ⟨h2,h3⟩:=Oy hv hl
   refine pt h.1 hl h2 h3 (λk hk=>?_) λk _ hk=>sA hk
   intro ⟨r,hr,JU⟩
   have hb:=(h.1.heap l).Rz hl
   simp only [Cg,Ks,hr] at hb
   by_cases hkg:k=r.g
   ·subst hkg
    rcases hk with ⟨m,r',hm,hg⟩|hS|⟨hf,hS⟩
    ·by_cases iQ:m=l
     ·subst iQ;rw [Gt] at hm;cases hm
     ·rw [Gl π none iQ] at hm
      exact iQ (h.1.apart hm hr hg JU)
    ·have h1:=h.1.sc _ hS
     rcases (h.1.own ⟨l,r,hr,JU⟩).2 with h2|h2
     ·omega
     ·exact h1.2 h2
    ·have:=hb.1.2.2 hf;omega
   ·exact absurd (hb.1.2.1 k JU) hkg
  ·obtain ⟨h2,h3⟩:=c5 hv hl
   exact mE h.1 hl h2 h3 λk hk hr=>h.1.let (λhf=>by cases hf) hk hr
 refine ⟨⟨h.1.drop l m (St.Mt st l fr e xs) λk e'=>St.Sj st l k fr e xs e',?_⟩,m⟩
 have hh:sl X w (Xc π l none) {tmps:=st.tmps.map (·.map (Cv l fr e xs)),heap:=(st.freeze l fr e xs).heap} a:=m.LZ rfl h.2
 exact hh
theorem St.Rl (st:St) (l k:Nat) (v:Ty) (m:ByteArray->Option v.den) (h:k≠l):Av (st.Jn l v m).heap k=(Av st.heap k).map (OB.map (Hp l v m)):=by
 simp only [St.Jn,St.Ln]
 rw [Oa _ _ _ h,Ph]
theorem St.To (st:St) (l:Nat) (v:Ty) (m:ByteArray->Option v.den):Av (st.Jn l v m).heap l=none:=by
 simp only [St.Jn,St.Ln]
 exact My _ _
theorem xV {r:Option Real} {v:Ty} {m:ByteArray->Option v.den} {g:Nat} {S:Nat->Prop} (h:WQ w r v m) (hg:r.map (·.g)=some g) (hS: ¬S g):Cells w S (.smap v) [.map (some g)] m:=by
 obtain ⟨r',h0,h1,h2,h3⟩:=h
 rw [h0] at hg
 simp only [Ak,Aa] at hg
 subst hg
 simp only [Cells] at h3⊢
 rcases h3 with ⟨h3,_⟩|⟨g,h3,hg,_,es,clock,h4,h5,h6,h7⟩
 ·simp at h3
 ·simp only [Hb,Value.map.injEq,Aa,bg] at h3
  subst h3
  refine .inr ⟨r'.g,rfl,hg,hS,es,clock,h4,h5,h6,λs y hy=>?_⟩
  obtain ⟨u,h8,h9⟩:=h7 s y hy
  exact ⟨u,h8,Cells.flat v [u] y h2.1 h9⟩
theorem Bh.Jn {st:St} {a:Act} (h:Bh X π st a w) {l:Nat} {v:Ty} {m:ByteArray->Option v.den} (hl:Av st.heap l=some (.Vx v m)):
  Bh X (Xc π l none) (st.Jn l v m) a w/\Move X w w π (Xc π l none) st.heap (st.Jn l v m).heap (Hp l v m):=by
 have mv:Move X w w π (Xc π l none) st.heap (st.Jn l v m).heap (Hp l v m):=by
  refine Move.OR (λc u _ h=>sR h) (λc u DN hr=>?_) (λk hk=>St.Rl st l k v m hk)
  cases c with
  |Lb k=>
   have:k=l:=(Ad.1 hr).symm
   subst this
   simp only [Hp,Ab]
   obtain ⟨r,vt,m',h1,h2,rfl⟩:=DN
   exact ⟨[_],xV ((h.1.heap k).Rz hl) (by rw [h2];rfl) λhS=>h.1.let (λhf=>by cases hf) hS ⟨r,h2,h.1.Cq h2⟩,by simp [By,Ty.Aq]⟩
  |own k off len=>have:k=l:=(Ad.1 hr).symm
                  subst this;simp only [Hp,Ab];trivial
  |Hs k i=>have:k=l:=(Ad.1 hr).symm
           subst this;simp only [Hp,Ab];trivial
  |Ku k i=>have:k=l:=(Ad.1 hr).symm
           subst this;simp only [Hp,Ab];trivial
  |sub k i c=>have:k=l:=(Ad.1 hr).symm
              subst this;simp only [Hp,Ab];trivial
  |Kr k i c=>have:k=l:=(Ad.1 hr).symm
             subst this;simp only [Hp,Ab];trivial
  |clo f Ec=>
   simp only [Hp]
   rw [Ab (by simpa [AC.refs] using hr)];trivial
  |_=>simp [AC.refs] at hr
 refine ⟨⟨h.1.drop l mv (St.To st l v m) λk e'=>St.Rl st l k v m e',?_⟩,mv⟩
 have hh:sl X w (Xc π l none) {tmps:=st.tmps.map (·.map (Hp l v m)),heap:=(st.Jn l v m).heap} a:=mv.LZ rfl h.2
 exact hh
def OB.fits:OB->OB->Prop
 | .arr _ _ e _ xs, .arr _ _ e' _ xs'=>e=e'/\xs.length<=xs'.length
 | .var _ _, .var _ _=>True
 | .Vx _ _, .Vx _ _=>True
 |_,_=>False
theorem Move.Agh {tc:Nat->Prop} {π':Pi} (hs:w.heap.size<=w'.heap.size)
  (hk: ∀k,k<w.heap.size->(∀l r,tc l->π l=some r-> ¬r.Cq k)->w'.heap[k]?=w.heap[k]?)
  (hO: ∀b,b<w.heap.size->Wa π' b->Wa π b)
  (hH: ∀m,¬tc m->Av H' m=Av H m/\π' m=π m) (hH': ∀m,tc m->bA (π m) (π' m)/\ ∀b0,Av H m=some b0-> ∃b,Av H' m=some b/\b0.fits b)
  (hx: ∀m r,¬tc m->π m=some r->(∃b,Av H m=some b/\b.gz≠none)->r.g<w.heap.size->w'.heap[r.g]?=w.heap[r.g]?):Move X w w' π π' H H' (λc=>c):=by
 have hc: ∀fr τ cs x,Cells w (Cx X.w0.heap.size X.Sc π fr) τ cs x->Cells w' (Cx X.w0.heap.size X.Sc π' fr) τ cs x:=by
  intro fr τ cs x h
  exact Cells.Ft hs (λk qg hn=>hk k qg λl r _ h0 h1=>hn (.inl ⟨l,r,h0,h1⟩)) (λk Lr hA=>hA.imp (hO k Lr) id) τ cs x h
 have same: ∀m r,π m=some r-> ∃r',π' m=some r'/\r.g=r'.g/\r.o=r'.o/\r.cap=r'.cap:=by
  intro m r hm
  by_cases ht:tc m
  ·have:=(hH' m ht).1
   rw [hm] at this
   cases hp:π' m with
   |none=>rw [hp] at this;exact this.elim
   |some r'=>rw [hp] at this;exact ⟨r',rfl,this.1,this.2.1,this.2.2.1⟩
  ·exact ⟨r,by rw [(hH m ht).2];exact hm,rfl,rfl,rfl⟩
 have fit: ∀m b,Av H m=some b-> ∃b',Av H' m=some b'/\(b'=b\/b.fits b'):=by
  intro m b hm
  by_cases ht:tc m
  ·obtain ⟨b',h1,h2⟩:=(hH' m ht).2 b hm;exact ⟨b',h1, .inr h2⟩
  ·exact ⟨b,by rw [(hH m ht).1];exact hm, .inl rfl⟩
 refine ⟨λc v h=>?_,hc⟩
 cases c with
 |data fr τ x=>obtain ⟨cs,h1,h2⟩:=h;exact ⟨cs,hc _ _ _ _ h1,h2⟩
 |own k off len=>
  obtain ⟨b,sz,n,h1,h0,h2,h3⟩:=h
  have vr:Ip (π' k) sz off len v:=by
   cases hp:π k with
   |none=>
    rw [hp] at h3
    have:π' k=none:=by
     by_cases ht:tc k
     ·have:=(hH' k ht).1
      rw [hp] at this
      cases PF:π' k with
      |none=>rfl
      |some r'=>rw [PF] at this;exact this.elim
     ·rw [(hH k ht).2];exact hp
    rw [this];exact h3
   |some r=>
    rw [hp] at h3
    obtain ⟨r',h4,h5,h6,h7⟩:=same k r hp
    rw [h4]
    unfold Ip at h3⊢
    simp only at h3⊢
    rw [<-h5,<-h6,<-h7]
    exact h3
  obtain ⟨b',h4,h5⟩:=fit k b h1
  rcases h5 with rfl|h5
  ·exact ⟨_,sz,n,h4,h0,h2,vr⟩
  ·cases b<;>cases b'<;>first|exact h5.elim|(simp [OB.row] at h0;done)|skip
   ·obtain ⟨rfl,hlen⟩:=h5
    simp only [OB.row,Aa,Ae] at h0
    obtain ⟨rfl,rfl⟩:=h0
    exact ⟨_,_,_,h4,rfl,by omega,vr⟩
 |Hs k i=>
  obtain ⟨r,tid,vs,h1,h2,h3⟩:=h
  obtain ⟨r',h4,h5,_⟩:=same k r h2
  obtain ⟨b',h6,h7⟩:=fit k _ h1
  rcases h7 with rfl|h7
  ·exact ⟨r',tid,vs,h6,h4,by rw [<-h5];exact h3⟩
  ·cases b'<;>first|exact h7.elim|exact ⟨r',_,_,h6,h4,by rw [<-h5];exact h3⟩
 |Ku k i=>
  obtain ⟨r,b,sz,n,h1,h0,h2,h3,h4⟩:=h
  obtain ⟨r',h5,h6,h7,_⟩:=same k r h3
  obtain ⟨b',h8,h9⟩:=fit k _ h1
  rcases h9 with rfl|h9
  ·exact ⟨r',_,sz,n,h8,h0,h2,h5,by rw [<-h6,<-h7];exact h4⟩
  ·cases b<;>cases b'<;>first|exact h9.elim|(simp [OB.row] at h0;done)|skip
   obtain ⟨rfl,hlen⟩:=h9
   simp only [OB.row,Aa,Ae] at h0
   obtain ⟨rfl,rfl⟩:=h0
   exact ⟨r',_,_,_,h8,rfl,by omega,h5,by rw [<-h6,<-h7];exact h4⟩
 |sub k i c=>
  obtain ⟨r,b,sz,n,h1,h0,h2,h3,h4,h5⟩:=h
  by_cases ht:tc k
  ·obtain ⟨b',h6,h7⟩:=(hH' k ht).2 _ h1
   cases b<;>first|(cases h0;done)|skip
   all_goals (cases b'<;>exact h7.elim)
  ·exact ⟨r,b,sz,n,by rw [(hH k ht).1];exact h1,h0,by rw [(hH k ht).2];exact h2,h3,h4,by rw [World.cell?_of_block (hx k r ht h2 ⟨b,h1,by rw [h0];simp⟩ (cC h5))];exact h5⟩
 |Kr k i c=>
  obtain ⟨r,b,n,sz,g,o,len,cap,h1,h0,h2,h3,h4,h5,h6⟩:=h
  by_cases ht:tc k
  ·obtain ⟨b',h6,h7⟩:=(hH' k ht).2 _ h1
   cases b<;>first|(cases h0;done)|skip
   all_goals (cases b'<;>exact h7.elim)
  ·exact ⟨r,b,n,sz,g,o,len,cap,by rw [(hH k ht).1];exact h1,h0,by rw [(hH k ht).2];exact h2,h3,h4,by rw [World.cell?_of_block (hx k r ht h2 ⟨b,h1,by cases b<;>first|(cases h0;done)|simp [OB.gz]⟩ (cC h5))];exact h5,h6⟩
 |clo f Ec=>
  obtain ⟨us,h1,h2,h3⟩:=h
  refine ⟨us,h1,h2,λj p hp=>?_⟩
  obtain ⟨r,tid,vs,h4,h5,h6⟩:=h3 j p hp
  obtain ⟨r',h7,h8,_⟩:=same _ r h5
  obtain ⟨b',h9,qb⟩:=fit _ _ h4
  rcases qb with rfl|qb
  ·exact ⟨r',tid,vs,h9,h7,by rw [<-h8];exact h6⟩
  ·cases b'<;>first|exact qb.elim|exact ⟨r',_,_,h9,h7,by rw [<-h8];exact h6⟩
 |Lb k=>
  obtain ⟨r,vt,m,h1,h2,h3⟩:=h
  obtain ⟨r',h4,h5,_⟩:=same k r h2
  obtain ⟨b',h6,h7⟩:=fit k _ h1
  rcases h7 with rfl|h7
  ·exact ⟨r',vt,m,h6,h4,by rw [<-h5];exact h3⟩
  ·cases b'<;>first|exact h7.elim|exact ⟨r',_,_,h6,h4,by rw [<-h5];exact h3⟩
 |_=>exact h
def Real.plus (r:Real) (N:List Nat):Real:= {r with cl:= λc=>r.cl c\/c∈N}
theorem Bh.Atb {st:St} {a:Act} (h:Bh X π st a w) {l:Nat} {b0 b:OB} (hl:Av st.heap l=some b0) (hf:b0.fits b) {r:Real} (hr:π l=some r) {N:List Nat}
  (hN: ∀c∈N,(X.w0.heap.size<=c\/X.gv c)/\c<w.heap.size/\ ∀m r0,m≠l->π m=some r0-> ¬r0.cl c) (hg:w.grownBy w' (some r.g))
  (hb:Move X w w' π (Xc π l (some (r.plus N))) st.heap (st.Kq l b).heap (λc=>c)->Cg X w' (Xc π l (some (r.plus N))) (st.Kq l b).heap (some (r.plus N)) b):Bh X (Xc π l (some (r.plus N))) (st.Kq l b) a w':=by
 have hk: ∀k,k<w.heap.size-> ¬r.Cq k->w'.heap[k]?=w.heap[k]?:= λk hk hn=>hg.block k hk (by
  intro e
  simp only [Aa] at e
  exact hn (e▸h.1.Cq hr))
 have vz: ∀k q,Xc π l (some (r.plus N)) k=some q-> ∃q0,π k=some q0/\(q=q0\/(k=l/\q0=r/\q=r.plus N)):= λk q hq=>by
  by_cases e:k=l
  ·subst e;rw [Gt] at hq;exact ⟨r,hr, .inr ⟨rfl,rfl,(Az hq).symm⟩⟩
  ·rw [Gl π _ e] at hq;exact ⟨q,hq, .inl rfl⟩
 have cl': ∀k q q0 c,(q=q0\/(k=l/\q0=r/\q=r.plus N))->q.cl c->q0.cl c\/(k=l/\c∈N):= λk q q0 c h1 h2=>by
  rcases h1 with rfl|⟨rfl,rfl,rfl⟩
  ·exact .inl h2
  ·rcases h2 with h2|h2
   ·exact .inl h2
   ·exact .inr ⟨rfl,h2⟩
 have ft: ∀k q q0 c,(q=q0\/(k=l/\q0=r/\q=r.plus N))->(q.Cq c↔q0.Cq c):= λk q q0 c h1=>by
  rcases h1 with rfl|⟨rfl,rfl,rfl⟩<;>exact Iff.rfl
 have m:Move X w w' π (Xc π l (some (r.plus N))) st.heap (st.Kq l b).heap (λc=>c):=Move.Agh (tc:= λk=>k=l) hg.size (λk Lr hn=>hk k Lr (hn l r rfl hr)) (λc _ ⟨k,q,h1,h2⟩=>by
   obtain ⟨q0,h3,h4⟩:=vz k q h1
   exact ⟨k,q0,h3,(ft k q q0 c h4).1 h2⟩)
  (λm hm=>⟨Dx _ _ _ _ hm,Gl π _ hm⟩) (λm hm=>by subst hm;exact ⟨by rw [hr,Gt];exact ⟨rfl,rfl,rfl,λ_=>Iff.rfl⟩,λb1 h1=>by rw [hl] at h1;cases h1;exact ⟨b,Ev _ _ _ _ hl,hf⟩⟩)
  (λm r' hm h1 _ Lr=>hk _ Lr λh3=>hm (h.1.apart h1 hr (h.1.Cq h1) h3))
 refine ⟨⟨?_,h.1.sc,λk q c h1 h2=>?_,λk q c h1 h2=>?_,λk k' q q' c h1 h2 h3 h4=>?_,λk hp Jl=>?_,λk=>?_⟩,?_⟩
 ·exact h.1.below.grown hg h.1.below.size λk hk=>by cases hk;exact (h.1.lt hr).2
 ·obtain ⟨q0,h3,h4⟩:=vz k q h1
  have:=h.1.sub k q0 c h3 ((ft k q q0 c h4).1 h2)
  rcases h4 with rfl|⟨rfl,rfl,rfl⟩
  ·exact this
  ·exact .inl this
 ·obtain ⟨q0,h3,h4⟩:=vz k q h1
  rcases cl' k q q0 c h4 h2 with h5|⟨_,h5⟩
  ·exact ⟨(h.1.place k q0 c h3 h5).1,Ef (h.1.place k q0 c h3 h5).2 hg.size⟩
  ·exact ⟨(hN c h5).1,Ef (hN c h5).2.1 hg.size⟩
 ·obtain ⟨q0,g1,g2⟩:=vz k q h1
  obtain ⟨q0',g3,g4⟩:=vz k' q' h2
  rcases cl' k q q0 c g2 h3 with h5|⟨h5,h6⟩<;>rcases cl' k' q' q0' c g4 h4 with h7|⟨h7,h8⟩
  ·exact h.1.inj k k' q0 q0' c g1 g3 h5 h7
  ·refine Bu λhn=>(hN c h8).2.2 k q0 (λe=>hn (e.trans h7.symm)) g1 h5
  ·refine Bu λhn=>(hN c h6).2.2 k' q0' (λe=>hn (h5.trans e.symm)) g3 h7
  ·rw [h5,h7]
 ·by_cases e:k=l
  ·subst e
   have:=h.1.gZ k hp (by rw [hl];simp)
   rw [hr] at this
   rw [Gt]
   cases hx:X.gZ k with
   |none=>rw [hx] at this;exact this.elim
   |some q=>rw [hx] at this;exact this
  ·rw [Gl π _ e]
   exact h.1.gZ k hp λh0=>Jl (by rw [show Av (st.Kq l b).heap k=Av st.heap k from Dx _ _ _ _ e];exact h0)
 ·by_cases e:k=l
  ·subst e
   exact Gj.Mf (by rw [Gt];exact hb m) (Ev _ _ _ _ hl)
  ·have hn:Av (st.Kq l b).heap k=Av st.heap k:=Dx _ _ _ _ e
   have ho:=h.1.heap k
   cases nw:Av st.heap k with
   |none=>rw [nw] at hn;exact Gj.Uq (by rw [Gl π _ e];exact ho.emp nw) hn
   |some c=>
    rw [nw] at hn
    refine Gj.Mf ?_ hn
    rw [Gl π _ e]
    have:=(ho.Rz nw).move m hg.size (λr0 c h0 h1=>h.1.sub _ r0 c h0 h1) λr0 c h0 h1 Lr=>hk _ Lr λh3=>e (h.1.inj _ _ r0 r c h0 hr h1 (h.1.sub _ _ _ hr h3))
    cases c with
    |var tid vs=>simpa [OB.map] using this
    |_=>exact this
 ·exact ⟨h.2.size,h.2.defers,λt=>by have:=m.av (h.2.tmps t);rwa [AC.map_id] at this⟩
theorem Bh.set {st:St} {a:Act} (h:Bh X π st a w) {l:Nat} {b0 b:OB} (hl:Av st.heap l=some b0) (hf:b0.fits b)
  (hg:w.grownBy w' ((π l).map (·.g)))
  (hb:Move X w w' π π st.heap (st.Kq l b).heap (λc=>c)->Cg X w' π (st.Kq l b).heap (π l) b):Bh X π (st.Kq l b) a w':=by
 have hk: ∀k,k<w.heap.size->(∀r,π l=some r-> ¬r.Cq k)->w'.heap[k]?=w.heap[k]?:= λk hk hn=>hg.block k hk (by
  intro e
  cases hp:π l with
  |none=>rw [hp] at e;cases e
  |some r=>rw [hp] at e;simp only [Ak,Aa] at e;exact hn r hp (e▸h.1.Cq hp))
 have m:Move X w w' π π st.heap (st.Kq l b).heap (λc=>c):=Move.Agh (tc:= λk=>k=l) hg.size (λk Lr hn=>hk k Lr λr hr=>hn l r rfl hr) (λ_ _ h=>h)
  (λm hm=>⟨Dx _ _ _ _ hm,rfl⟩) (λm hm=>by subst hm;exact ⟨bA.rfl' _,λb1 h1=>by rw [hl] at h1;cases h1;exact ⟨b,Ev _ _ _ _ hl,hf⟩⟩)
  (λm r hm h1 _ Lr=>hk _ Lr λr1 h2 h3=>hm (h.1.apart h1 h2 (h.1.Cq h1) h3))
 refine ⟨⟨?_,h.1.sc,h.1.sub,λk r c h1 h2=>⟨(h.1.place k r c h1 h2).1,Ef (h.1.place k r c h1 h2).2 hg.size⟩,h.1.inj,λk hp Jl=>h.1.gZ k hp λh0=>Jl ?_,λk=>?_⟩,?_⟩
 ·refine h.1.below.grown hg h.1.below.size λk hk=>?_
  cases hp:π l with
  |none=>rw [hp] at hk;cases hk
  |some r=>rw [hp] at hk;simp only [Ak,Aa] at hk;rw [<-hk];exact (h.1.lt hp).2
 ·have:k≠l:= λe=>by subst e;rw [hl] at h0;cases h0
  rw [show Av (st.Kq l b).heap k=Av st.heap k from Dx _ _ _ _ this];exact h0
 ·by_cases e:k=l
  ·subst e
   exact Gj.Mf (hb m) (Ev _ _ _ _ hl)
  ·have hn:Av (st.Kq l b).heap k=Av st.heap k:=Dx _ _ _ _ e
   have ho:=h.1.heap k
   cases nw:Av st.heap k with
   |none=>rw [nw] at hn;exact Gj.Uq (ho.emp nw) hn
   |some c=>
    rw [nw] at hn
    refine Gj.Mf ?_ hn
    have:=(ho.Rz nw).move m hg.size (λr0 c h0 h1=>h.1.sub _ r0 c h0 h1) λr0 c h0 h1 Lr=>hk _ Lr λr1 h2 h3=>e (h.1.inj _ _ r0 r1 c h0 h2 h1 (h.1.sub _ _ _ h2 h3))
    cases c with
    |var tid vs=>simpa [OB.map] using this
    |_=>exact this
 ·exact ⟨h.2.size,h.2.defers,λt=>by have:=m.av (h.2.tmps t);rwa [AC.map_id] at this⟩
end
end Go.Proofs.YtkkdpknjohcekaaGreat
