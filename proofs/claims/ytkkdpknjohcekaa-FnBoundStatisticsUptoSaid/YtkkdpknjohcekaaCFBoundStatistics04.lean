/-
  Part 5 of the proof that the statement FnBoundStatistics holds.
-/
import Derived.Test.YtkkdpknjohcekaaCFBoundStatistics03
namespace Go.Proofs.Ytkkdpknjohcekaa
open Go.RowKit
def Xg (π:Pi) (l:Nat) (r:Option Real):Pi:= λk=>if k=l then r else π k
theorem Gl (π:Pi) (l:Nat) (r:Option Real):Xg π l r l=r:=by simp [Xg]
theorem Gj (π:Pi) {l m:Nat} (r:Option Real) (h:m≠l):Xg π l r m=π m:=by simp [Xg,h]
section
variable {X:Ctx} {w w':World} {π:Pi} {H H':List (Nat×OB)}
def Cj (X:Ctx) (w:World) (π:Pi) (H:List (Nat×OB)) (r:Option Real):OB->Prop
 | .arr fr tr e tid xs=>Ki X w π r fr tr e tid xs
 | .Gu e tid xs=>Oe w r e tid xs
 | .var tid vs=>Af5 X w π H r tid vs
 | .Bl e _ rows out kp=>gZ X w π r e rows out kp
 | .Vu v m=>WT w r v m
theorem Gh.Rp {l:Nat} {b:OB} (h:Gh X w π H l) (hb:At H l=some b):Cj X w π H (π l) b:=by
 unfold Gh at h
 rw [hb] at h
 cases b<;>exact h
theorem Gh.Lr {l:Nat} {b:OB} (h:Cj X w π H (π l) b) (hb:At H l=some b):Gh X w π H l:=by
 unfold Gh
 rw [hb]
 cases b<;>exact h
theorem Gh.Um {l:Nat} (h:π l=none) (hb:At H l=none):Gh X w π H l:=by
 unfold Gh;rw [hb];exact h
theorem Gh.emp {l:Nat} (h:Gh X w π H l) (hb:At H l=none):π l=none:=by
 unfold Gh at h;rw [hb] at h;exact h
theorem Cj.move {f:AC->AC} {π':Pi} (m:Move X w w' π π' H H' f) {r:Option Real} {b:OB} (h:Cj X w π H r b) (hs:w.heap.size<=w'.heap.size)
  (Qa: ∀r' c,r=some r'->r'.Cv c->r'.cl c) (hk: ∀r' c,r=some r'->r'.cl c->c<w.heap.size->w'.heap[c]?=w.heap[c]?):
  Cj X w' π' H' r (b.map f):=by
 cases b with
 |arr fr tr e tid xs=>
  simp only [Cj,Ki,OB.map] at h⊢
  cases hr:r with
  |none=>rw [hr] at h;exact h
  |some r=>
   rw [hr] at h
   obtain ⟨h1,cur,ti,h2,h3,h4,h5,h6,h7⟩:=h
   refine ⟨h1,cur,ti,(hk r _ hr (Qa r _ hr h1.1) (Gi h2)).trans h2,h3,h4,h5,λi x hx=>?_,λht=>(h7 ht).Fb hs (λc _ Jr hc=>hk r c hr hc Jr) λ_ hb=>hb⟩
   obtain ⟨es,he,hj,hc⟩:=h6 i x hx
   exact ⟨es,he,hj,m.cells _ _ _ _ hc⟩
 |Gu e tid xs=>
  simp only [Cj,Oe,OB.map] at h⊢
  cases hr:r with
  |none=>rw [hr] at h;exact h
  |some r=>
   rw [hr] at h
   obtain ⟨h1,cur,ti,h2,h3,h4,h5,h7⟩:=h
   exact ⟨h1,cur,ti,(hk r _ hr (Qa r _ hr h1) (Gi h2)).trans h2,h3,h4,h5,h7.Fb hs (λc _ Jr hc=>hk r c hr (Qa r c hr hc) Jr) λ_ hb=>hb⟩
 |var tid vs=>
  obtain ⟨r',h0,h1,cur,h2,h3⟩:=h
  exact ⟨r',h0,h1,cur,(hk r' _ h0 (Qa r' _ h0 h1) (Gi h2)).trans h2,m.acs h3⟩
 |Bl e te rows out kp=>exact gZ.Fb h (λq b hq hf Jr=>hk q b hq (Qa q b hq hf) Jr) (λes x=>m.cells false e es x)
 |Vu v g=>
  obtain ⟨r',h0,h1,h2,h3⟩:=h
  refine ⟨r',h0,h1,h2,?_⟩
  simp only [Cells] at h3⊢
  rcases h3 with ⟨h3,_⟩|⟨g,h3,hg,_,es,clock,h4,h5,h6,h7⟩
  ·simp at h3
  ·simp only [Gs,Value.map.injEq,Aa,On] at h3
   subst h3
   refine .inr ⟨r'.g,rfl,by omega,λh=>h,es,clock,(hk r' _ h0 (Qa r' _ h0 h1) hg).trans h4,h5,h6,λs y hy=>?_⟩
   obtain ⟨u,h8,h9⟩:=h7 s y hy
   exact ⟨u,h8,Cells.flat v [u] y h2.1 h9⟩
theorem Move.forget {l:Nat} {r':Option Real} (hs:w.heap.size<=w'.heap.size)
  (hk: ∀k,k<w.heap.size->(∀r,π l=some r-> ¬r.Cv k)->w'.heap[k]?=w.heap[k]?)
  (hr: ∀r b,r'=some r->r.Cv b->(∃r0,π l=some r0/\r0.Cv b)\/w.heap.size<=b)
  (hH: ∀m,m≠l->At H' m=(At H m).map (OB.map (Cp l)))
  (hx: ∀m r,m≠l->π m=some r->(∃b,At H m=some b/\b.gq≠none)->r.g<w.heap.size->w'.heap[r.g]?=w.heap[r.g]?):Move X w w' π (Xg π l r') H H' (Cp l):=by
 have hc: ∀fr τ cs x,Cells w (Da X.w0.heap.size X.Sc π fr) τ cs x->Cells w' (Da X.w0.heap.size X.Sc (Xg π l r') fr) τ cs x:=by
  intro fr τ cs x h
  refine Cells.Fb hs (λk qn hn=>hk k qn λr h0 h1=>hn (.inl ⟨l,r,h0,h1⟩)) (λk qn hA=>?_) τ cs x h
  rcases hA with ⟨m,r,hm,hg⟩|h2
  ·by_cases iO:m=l
   ·subst iO
    rw [Gl] at hm
    rcases hr r k hm hg with ⟨r0,h0,h1⟩|h1
    ·exact .inl ⟨m,r0,h0,h1⟩
    ·omega
   ·rw [Gj π r' iO] at hm
    exact .inl ⟨m,r,hm,hg⟩
  ·exact .inr h2
 refine ⟨λc v h=>?_,hc⟩
 cases c with
 |data fr τ x=>obtain ⟨cs,h1,h2⟩:=h;exact ⟨cs,hc _ _ _ _ h1,h2⟩
 |own k off len=>
  simp only [Cp]
  split
  ·trivial
  ·rename_i Rl
   obtain ⟨b,sz,n,h1,h0,h2,h3⟩:=h
   exact ⟨b.map (Cp l),sz,n,by rw [hH k Rl,h1];rfl,by cases b<;>exact h0,h2,by rw [Gj π r' Rl];exact h3⟩
 |Hj k i=>
  simp only [Cp]
  split
  ·trivial
  ·rename_i Rl
   obtain ⟨r,tid,vs,h1,h2,h3⟩:=h
   exact ⟨r,tid,vs.map (Cp l),by rw [hH k Rl,h1];rfl,by rw [Gj π r' Rl];exact h2,h3⟩
 |Kk k i=>
  simp only [Cp]
  split
  ·trivial
  ·rename_i Rl
   obtain ⟨r,b,sz,n,h1,h0,h2,h3,h4⟩:=h
   exact ⟨r,b.map (Cp l),sz,n,by rw [hH k Rl,h1];rfl,by cases b<;>exact h0,h2,by rw [Gj π r' Rl];exact h3,h4⟩
 |sub k i c=>
  simp only [Cp]
  split
  ·trivial
  ·rename_i Rl
   obtain ⟨r,b,sz,n,h1,h0,h2,h3,h4,h5⟩:=h
   exact ⟨r,b.map (Cp l),sz,n,by rw [hH k Rl,h1];rfl,by cases b<;>exact h0,by rw [Gj π r' Rl];exact h2,h3,h4,by rw [World.cell?_of_block (hx k r Rl h2 ⟨b,h1,by rw [h0];simp⟩ (cw h5))];exact h5⟩
 |Kh k i c=>
  simp only [Cp]
  split
  ·trivial
  ·rename_i Rl
   obtain ⟨r,b,n,sz,g,o,len,cap,h1,h0,h2,h3,h4,h5,h6⟩:=h
   exact ⟨r,b.map (Cp l),n,sz,g,o,len,cap,by rw [hH k Rl,h1];rfl,by cases b<;>exact h0,by rw [Gj π r' Rl];exact h2,h3,h4,by rw [World.cell?_of_block (hx k r Rl h2 ⟨b,h1,by cases b<;>first|(cases h0;done)|simp [OB.gq]⟩ (cw h5))];exact h5,h6⟩
 |clo f Ee=>
  simp only [Cp]
  split
  ·trivial
  ·rename_i Rl
   obtain ⟨us,h1,h2,h3⟩:=h
   refine ⟨us,h1,h2,λj p hp=>?_⟩
   obtain ⟨r,tid,vs,h4,h5,h6⟩:=h3 j p hp
   have kF:p.1≠l:= λe=>Rl (by simp only [Js,Ay];exact ⟨p,Cm hp,e⟩)
   exact ⟨r,tid,vs.map (Cp l),by rw [hH _ kF,h4];rfl,by rw [Gj π r' kF];exact h5,h6⟩
 |Ks k=>
  simp only [Cp]
  split
  ·trivial
  ·rename_i Rl
   obtain ⟨r,vt,m,h1,h2,h3⟩:=h
   exact ⟨r,vt,m,by rw [hH k Rl,h1];rfl,by rw [Gj π r' Rl];exact h2,h3⟩
 |_=>exact h
theorem St.a5 (st:St) (l m:Nat) (b:OB) (h:m≠l):At (st.new l b).heap m=(At st.heap m).map (OB.map (Cp l)):=by
 simp only [St.new,St.forget,St.Lc]
 rw [Pn _ _ _ _ h,Nx _ _ _ h,Oz]
theorem St.Gv (st:St) (l:Nat) (b:OB):At (st.new l b).heap l=some b:=by
 simp only [St.new,St.forget,St.Lc]
 exact Qt _ _ _ (Mq _ _)
theorem St.iL (st:St) (l m:Nat) (h:m≠l):At (st.forget l).heap m=(At st.heap m).map (OB.map (Cp l)):=by
 simp only [St.forget,St.Lc]
 rw [Nx _ _ _ h,Oz]
theorem St.oY (st:St) (l:Nat):At (st.forget l).heap l=none:=by
 simp only [St.forget,St.Lc]
 exact Mq _ _
theorem Bh.ji {st:St} {a:Act} (h:Bh X π st a w) (l:Nat) (hl:l<Bn) (r':Option Real) (b:OB)
  (hg:w.grownBy w' ((π l).map (·.g)))
  (hf: ∀r b,r'=some r->r.Cv b->r.cl b/\((∃r0,π l=some r0/\r0.Cv b)\/w.heap.size<=b))
  (hr: ∀r b,r'=some r->r.cl b->(X.w0.heap.size<=b\/X.gv b)/\b<w'.heap.size/\ ∀m r0,m≠l->π m=some r0-> ¬r0.cl b)
  (hb:Move X w w' π (Xg π l r') st.heap (st.new l b).heap (Cp l)->Cj X w' (Xg π l r') (st.new l b).heap r' b):Bh X (Xg π l r') (st.new l b) a w':=by
 have hk: ∀k,k<w.heap.size->(∀r,π l=some r-> ¬r.Cv k)->w'.heap[k]?=w.heap[k]?:= λk hk hn=>hg.block k hk (by
  intro e
  cases hp:π l with
  |none=>rw [hp] at e;cases e
  |some r=>rw [hp] at e;simp only [Am,Aa] at e;exact hn r hp (e▸h.1.Cv hp))
 have m:Move X w w' π (Xg π l r') st.heap (st.new l b).heap (Cp l):=Move.forget hg.size hk (λr c h1 h2=>(hf r c h1 h2).2) (λm hm=>St.a5 st l m b hm)
  (λm r hm h1 _ Jr=>hk _ Jr λr1 h2 h3=>hm (h.1.apart h1 h2 (h.1.Cv h1) h3))
 refine ⟨⟨?_,h.1.sc,?_,?_,?_,?_,λk=>?_⟩,?_⟩
 ·refine h.1.below.grown hg h.1.below.size λk hk=>?_
  cases hp:π l with
  |none=>rw [hp] at hk;cases hk
  |some r=>rw [hp] at hk;simp only [Am,Aa] at hk;rw [<-hk];exact (h.1.lt hp).2
 ·intro k r c h1 h2
  by_cases e1:k=l
  ·subst e1;rw [Gl] at h1;exact (hf r c h1 h2).1
  ·rw [Gj π r' e1] at h1;exact h.1.sub k r c h1 h2
 ·intro k r c h1 h2
  by_cases e1:k=l
  ·subst e1;rw [Gl] at h1;have:=hr r c h1 h2;exact ⟨this.1,this.2.1⟩
  ·rw [Gj π r' e1] at h1;have:=h.1.place k r c h1 h2;exact ⟨this.1,Eg this.2 hg.size⟩
 ·intro l1 l2 r1 r2 c h1 h2 h3 h4
  by_cases e1:l1=l<;>by_cases e2:l2=l
  ·rw [e1,e2]
  ·subst e1
   rw [Gl] at h1;rw [Gj π r' e2] at h2
   exact absurd h4 ((hr r1 c h1 h3).2.2 l2 r2 e2 h2)
  ·subst e2
   rw [Gl] at h2;rw [Gj π r' e1] at h1
   exact absurd h3 ((hr r2 c h2 h4).2.2 l1 r1 e1 h1)
  ·rw [Gj π r' e1] at h1;rw [Gj π r' e2] at h2
   exact h.1.inj _ _ r1 r2 c h1 h2 h3 h4
 ·intro k hpk Iv
  have e:k≠l:= λe=>by subst e;omega
  rw [St.a5 st l k b e] at Iv
  rw [Gj π r' e]
  exact h.1.gW k hpk λh0=>Iv (by rw [h0];rfl)
 ·by_cases e:k=l
  ·subst e
   exact Gh.Lr (by rw [Gl];exact hb m) (St.Gv st k b)
  ·have hn:=St.a5 st l k b e
   have ho:=h.1.heap k
   cases jU:At st.heap k with
   |none=>rw [jU] at hn;exact Gh.Um (by rw [Gj π r' e];exact ho.emp jU) hn
   |some c=>
    rw [jU] at hn
    refine Gh.Lr ?_ hn
    rw [Gj π r' e]
    exact (ho.Rp jU).move m hg.size (λr0 c h0 h1=>h.1.sub _ r0 c h0 h1) λr0 c h0 h1 Jr=>hk _ Jr λr1 h2 h3=>e (h.1.inj _ _ r0 r1 c h0 h2 h1 (h.1.sub _ _ _ h2 h3))
 ·have hh:sq X w' (Xg π l r') {tmps:=st.tmps.map (·.map (Cp l)),heap:=(st.new l b).heap} a:=m.NB rfl h.2
  exact hh
def Real.one (g o cap:Nat):Real:=⟨g,o,cap,λb=>b=g,λb=>b=g⟩
theorem Bh.replace {st:St} {a:Act} (h:Bh X π st a w) (l:Nat) (hl:l<Bn) (r':Option Real) (b:OB)
  (hg:w.grownBy w' ((π l).map (·.g)))
  (hr: ∀r,r'=some r->r=Real.one r.g r.o r.cap/\((∃r0,π l=some r0/\r0.g=r.g)\/w.heap.size<=r.g)/\r.g<w'.heap.size)
  (hb:Move X w w' π (Xg π l r') st.heap (st.new l b).heap (Cp l)->Cj X w' (Xg π l r') (st.new l b).heap r' b):Bh X (Xg π l r') (st.new l b) a w':=by
 refine h.ji l hl r' b hg (λr c h1 h2=>?_) (λr c h1 h2=>?_) hb
 ·obtain ⟨h3,h4,_⟩:=hr r h1
  have h2':c=r.g:=by rw [h3] at h2;exact h2
  subst h2'
  refine ⟨by rw [h3];rfl,h4.imp (λ⟨r0,h5,h6⟩=>⟨r0,h5,h6▸h.1.Cv h5⟩) id⟩
 ·obtain ⟨h3,h4,h5⟩:=hr r h1
  have h2':c=r.g:=by rw [h3] at h2;exact h2
  subst h2'
  refine ⟨?_,h5,λm r0 hm h6 h7=>?_⟩
  ·rcases h4 with ⟨r0,h6,h7⟩|h6
   ·rw [<-h7];exact (h.1.lt h6).2
   ·exact .inl (Gx h.1.below.size h6)
  ·rcases h4 with ⟨r1,h8,h9⟩|h8
   ·exact hm (h.1.inj m l r0 r1 r.g h6 h8 h7 (h9▸h.1.sub l r1 _ h8 (h.1.Cv h8)))
   ·have:=(h.1.place m r0 _ h6 h7).2;omega
theorem Ng.drop (h:Ng X w π H) {f:AC->AC} (l:Nat) (m:Move X w w π (Xg π l none) H H' f) (h0:At H' l=none) (hH: ∀k,k≠l->At H' k=(At H k).map (OB.map f)):Ng X w (Xg π l none) H':=by
 have un: ∀k r,Xg π l none k=some r->k≠l/\π k=some r:= λk r hk=>by
  by_cases e:k=l
  ·subst e;rw [Gl] at hk;cases hk
  ·rw [Gj π none e] at hk;exact ⟨e,hk⟩
 refine ⟨h.below,h.sc,λk r c h1 h2=>h.sub k r c (un k r h1).2 h2,λk r c h1 h2=>h.place k r c (un k r h1).2 h2,λl1 l2 r1 r2 c h1 h2 h3 h4=>h.inj _ _ r1 r2 c (un _ _ h1).2 (un _ _ h2).2 h3 h4,λk hp Iv=>?_,λk=>?_⟩
 ·have e:k≠l:= λe=>by subst e;exact Iv h0
  rw [hH k e] at Iv
  rw [Gj π none e]
  exact h.gW k hp λh1=>Iv (by rw [h1];rfl)
 ·by_cases e:k=l
  ·subst e
   exact Gh.Um (by rw [Gl]) h0
  ·have hn:=hH k e
   have ho:=h.heap k
   cases jU:At H k with
   |none=>rw [jU] at hn;exact Gh.Um (by rw [Gj π none e];exact ho.emp jU) hn
   |some c=>
    rw [jU] at hn
    refine Gh.Lr ?_ hn
    rw [Gj π none e]
    exact (ho.Rp jU).move m (Ap _) (λr0 c h0 h1=>h.sub _ r0 c h0 h1) λr0 c h0 h1 Jr=>rfl
theorem Bh.forget {st:St} {a:Act} (h:Bh X π st a w) (l:Nat):Bh X (Xg π l none) (st.forget l) a w:=by
 have m:Move X w w π (Xg π l none) st.heap (st.forget l).heap (Cp l):=
  Move.forget (Ap _) (λ_ _ _=>rfl) (λr c hr=>by cases hr) (λm hm=>St.iL st l m hm) (λ_ _ _ _ _ _=>rfl)
 refine ⟨h.1.drop l m (St.oY st l) λk e=>St.iL st l k e,?_⟩
 have hh:sq X w (Xg π l none) {tmps:=st.tmps.map (·.map (Cp l)),heap:=(st.forget l).heap} a:=m.NB rfl h.2
 exact hh
theorem cellOf {w:World} {g:Nat} {cur:Array Value} {tid:TypeId} (h:w.heap[g]?=some (.cells cur tid (0,0))) (i:Nat):w.cell? ⟨g,i,none⟩=cur[i]?:=by
 simp [World.cell?,h]
theorem Ot {l off len:Nat} {v:Value} {fr tr:Bool} {e:Ty} {tid:TypeId} {xs:List e.den} (h:Hq X w π H (.own l off len) v) (hl:At H l=some (.arr fr tr e tid xs)):off+len<=xs.length/\Ia (π l) e.size off len v:=by
 obtain ⟨b,sz,n,h1,h0,h2,h3⟩:=h
 rw [hl] at h1;cases h1
 simp only [OB.row,Aa,Ae] at h0
 obtain ⟨rfl,rfl⟩:=h0
 exact ⟨h2,h3⟩
theorem c5 {l off len:Nat} {v:Value} {e:Ty} {tid:TypeId} {xs:List e.den} (h:Hq X w π H (.own l off len) v) (hl:At H l=some (.Gu e tid xs)):off+len<=xs.length/\Ia (π l) e.size off len v:=by
 obtain ⟨b,sz,n,h1,h0,h2,h3⟩:=h
 rw [hl] at h1;cases h1
 simp only [OB.row,Aa,Ae] at h0
 obtain ⟨rfl,rfl⟩:=h0
 exact ⟨h2,h3⟩
theorem LX {l off len:Nat} {v:Value} {fr tr:Bool} {e:Ty} {tid:TypeId} {xs:List e.den} (hl:At H l=some (.arr fr tr e tid xs)) (h1:off+len<=xs.length) (h2:Ia (π l) e.size off len v):Hq X w π H (.own l off len) v:=
 ⟨_,e.size,xs.length,hl,rfl,h1,h2⟩
theorem xU {r:Real} {off len:Nat} {v:Value} {e:Ty} {tid:TypeId} {xs:List e.den} {S:Nat->Prop} {cur:Array Value} (h2:w.heap[r.g]?=some (.cells cur tid (0,0)))
  (hlen:off+len<=xs.length) (hv:Ia (some r) e.size off len v) (hg: ¬S r.g)
  (hA: ∀(i:Nat) (x:e.den),xs[i]?=some x-> ∃es:List Value,es.length=e.size/\(∀j u,es[j]?=some u->cur[(r.o+i)*e.size+j]?=some u)/\Cells w S e es x):Cells w S (.slice e) [v] ((xs.drop off).take len):=by
 have SN:((xs.drop off).take len).length=len:=by simp;omega
 obtain ⟨ad,rfl,hc,ha⟩:=hv
 refine ⟨some ad,len,r.cap-off,rfl,SN.symm,by omega,?_⟩
 rcases Ts len with h0|h0
 ·left;subst h0;simp
 ·right
  refine ⟨r.g,(r.o+off)*e.size,by rw [ha (by omega)],Gi h2,hg,λi x hx=>?_⟩
  have hi:i<len:=by
   have:=(An.1 hx).1
   rw [SN] at this;exact this
  have hx':xs[off+i]?=some x:=by
   rw [Cx,Ac hi,Dd] at hx;exact hx
  obtain ⟨es,he,hj,yV⟩:=hA (off+i) x hx'
  refine ⟨es,he,λj u hu=>?_,yV⟩
  rw [cellOf h2]
  have:=hj j u hu
  rw [<-this]
  congr 1
  rw [<-Gq,Dg (r.o+off) i]
theorem pt {l off len:Nat} {v:Value} {fr tr:Bool} {e:Ty} {tid:TypeId} {xs:List e.den} {S:Nat->Prop} (h:Ng X w π H) (hl:At H l=some (.arr fr tr e tid xs))
  (hlen:off+len<=xs.length) (hv:Ia (π l) e.size off len v)
  (hS: ∀k,S k->(∃r,π l=some r/\r.Cv k)->False) (hA: ∀k,k<w.heap.size->S k->Da X.w0.heap.size X.Sc π fr k):Cells w S (.slice e) [v] ((xs.drop off).take len):=by
 have hb:=(h.heap l).Rp hl
 simp only [Cj,Ki] at hb
 cases hp:π l with
 |none=>
  rw [hp] at hb hv
  obtain ⟨rfl,rfl,rfl⟩:=hv
  exact ⟨none,0,0,rfl,by simp,Ap _, .inl (by simp)⟩
 |some r=>
  rw [hp] at hb hv
  obtain ⟨h1,cur,_,h2,h3,h4,h5,h6,_⟩:=hb
  refine xU h2 hlen hv (λhs=>hS _ hs ⟨r,hp,h1.1⟩) λi x hx=>?_
  obtain ⟨es,he,hj,yV⟩:=h6 i x hx
  exact ⟨es,he,hj,Cells.Fb (Ap _) (λ_ _ _=>rfl) hA e es x yV⟩
theorem Td.slice {D S:Nat->Prop} {R:Option Real} {e:Ty} {x:List e.den} {u:Value} (h:Td w D R e x) (hv:Ia R e.size 0 (List.length x) u) (hD: ∀k,S k->D k) (hg: ∀q,R=some q-> ¬S q.g):Cells w S (.slice e) [u] x:=by
 cases R with
 |none=>
  have hx:x= []:=h
  subst hx
  obtain ⟨rfl,_,_⟩:=hv
  exact ⟨none,0,0,rfl,rfl,Ap _, .inl rfl⟩
 |some q=>
  obtain ⟨h1,cur,ti,h2,h3,h4,h5,h6⟩:=h
  obtain ⟨ad,rfl,g1,g2⟩:=hv
  refine ⟨some ad,List.length x,_,rfl,rfl,by omega,?_⟩
  rcases Ts (List.length x) with hx|hx
  ·exact .inl (Cl hx)
  ·have XW:=g2 (by omega)
   subst XW
   refine .inr ⟨q.g,(q.o+0)*e.size,rfl,Gi h2,hg q rfl,λi y hy=>?_⟩
   obtain ⟨es,k1,k2,k3⟩:=h6 i y hy
   refine ⟨es,k1,λj u hu=>?_,Cells.Fb (Ap _) (λ_ _ _=>rfl) (λk _ hk=>hD k hk) e es y k3⟩
   rw [cellOf h2,Ek,<-Dg]
   exact k2 j u hu
theorem nX {l off len:Nat} {v:Value} {e:Ty} {te:TypeId} {rows:List (List e.den)} {out:Option Nat} {kp:Option (Nat×Nat)} (h:Hq X w π H (.own l off len) v) (hl:At H l=some (.Bl e te rows out kp)):off+len<=rows.length/\Ia (π l) 1 off len v:=by
 obtain ⟨b,sz,n,h1,h2,h3,h4⟩:=h
 rw [hl] at h1;cases h1
 simp only [OB.row,Aa,Ae] at h2
 obtain ⟨rfl,rfl⟩:=h2
 exact ⟨h3,h4⟩
theorem sZ {l off len:Nat} {v:Value} {e:Ty} {te:TypeId} {rows:List (List e.den)} {kp:Option (Nat×Nat)} {S:Nat->Prop} (h:Ng X w π H) (hl:At H l=some (.Bl e te rows none kp))
  (hlen:off+len<=rows.length) (hv:Ia (π l) 1 off len v)
  (hS: ∀k,S k->(∃r,π l=some r/\r.Cv k)->False) (hA: ∀k,S k->Da X.w0.heap.size X.Sc π false k):Cells w S (.slice (.slice e)) [v] ((rows.drop off).take len):=by
 have hb:=(h.heap l).Rp hl
 simp only [Cj] at hb
 have hb:=hb.1
 cases hp:π l with
 |none=>
  rw [hp] at hb hv
  have hb:rows= []:=hb
  obtain ⟨rfl,rfl,rfl⟩:=hv
  exact ⟨none,0,0,rfl,by simp,Ap _, .inl (by simp)⟩
 |some r=>
  rw [hp] at hb hv
  obtain ⟨h1,cur,ti,h2,h3,h4,h5,Rs,h6,h7,h8,h9⟩:=hb
  obtain ⟨ad,rfl,g1,g2⟩:=hv
  refine ⟨some ad,len,_,rfl,by simp;omega,by omega,?_⟩
  rcases Ts len with hx|hx
  ·subst hx;exact .inl (by simp)
  ·have XW:=g2 (by omega)
   subst XW
   refine .inr ⟨r.g,(r.o+off)*1,rfl,Gi h2,λhs=>hS _ hs ⟨r,hp,h1⟩,λi x hx=>?_⟩
   have hx:((rows.drop off).take len)[i]?=some x:=hx
   rw [Cx] at hx
   split at hx
   ·rw [Dd] at hx
    obtain ⟨u,R,k1,k2,k3,k4⟩:=h9 _ x hx (by simp)
    refine ⟨[u],rfl,λj u' gQ=>?_,k4.slice k3 hA λq hq hs=>hS _ hs ⟨r,hp,(h7 _ q (by rw [k2,hq])).1⟩⟩
    rcases j with _|j
    ·simp only [Bv,Aa] at gQ
     subst gQ
     rw [cellOf h2,<-k1]
     congr 1
     simp only [Ty.size];omega
    ·simp at gQ
   ·cases hx
theorem DZ {l i c:Nat} {v:Value} {e:Ty} {te:TypeId} {rows:List (List e.den)} {out:Option Nat} {kp:Option (Nat×Nat)} (hv:Hq X w π H (.sub l i c) v) (hl:At H l=some (.Bl e te rows out kp)):rows[i]?=some (rows.getD i []):=by
 obtain ⟨r,b,sz,n,h1,h0,_,h3,_⟩:=hv
 rw [hl] at h1;cases h1
 simp only [OB.gq,Aa,Ae] at h0
 obtain ⟨rfl,rfl⟩:=h0
 rw [Ah,Ab h3];rfl
theorem nq {l i:Nat} {e:Ty} {te:TypeId} {rows:List (List e.den)} {out:Option Nat} {kp:Option (Nat×Nat)} {r:Real} (h:Ng X w π H) (hl:At H l=some (.Bl e te rows out kp)) (hp:π l=some r) (hi:i<rows.length) (ho:out≠some i):
  ∃u R,w.cell? ⟨r.g,r.o+i,none⟩=some u/\Ia R e.size 0 (rows.getD i []).length u/\Td w (Da X.w0.heap.size X.Sc π false) R e (rows.getD i []):=by
 have hb:=(h.heap l).Rp hl
 simp only [Cj] at hb
 have hb:=hb.1
 rw [hp] at hb
 obtain ⟨h1,cur,ti,h2,h3,h4',h5',Rs,h6,h7,h8,h9⟩:=hb
 have hx:rows[i]?=some (rows.getD i []):=by rw [Ah,Ab hi];rfl
 obtain ⟨u,R,k1,k2,k3,k4⟩:=h9 _ _ hx ho
 exact ⟨u,R,by rw [cellOf h2];exact k1,k3,k4⟩
theorem aU {R:Option Real} {sz off len:Nat} {u:Value} (h:Ia R sz off len u): ∃a n m,u= .slice a n m:=by
 cases R with
 |none=>exact ⟨_,_,_,h.1⟩
 |some q=>obtain ⟨ad,rfl,_⟩:=h;exact ⟨_,_,_,rfl⟩
theorem ta {l i c:Nat} {v:Value} {e:Ty} {te:TypeId} {rows:List (List e.den)} {kp:Option (Nat×Nat)} {x:List e.den} {S:Nat->Prop} (h:Ng X w π H) (hl:At H l=some (.Bl e te rows none kp)) (hx:rows[i]?=some x)
  (hv:Hq X w π H (.sub l i c) v)
  (hS: ∀k,S k->(∃r,π l=some r/\r.Cv k)->False) (hA: ∀k,S k->Da X.w0.heap.size X.Sc π false k):Cells w S (.slice e) [v] x:=by
 obtain ⟨r,b,sz,n,h1,h0,hp,h3,⟨h4,_⟩,h5⟩:=hv
 rw [hl] at h1;cases h1
 simp only [OB.gq,Aa,Ae] at h0
 obtain ⟨rfl,rfl⟩:=h0
 have hb:=(h.heap l).Rp hl
 simp only [Cj] at hb
 have hb:=hb.1
 rw [hp] at hb
 obtain ⟨h1,cur,ti,h2,h3,h4',h5',Rs,h6,h7,h8,h9⟩:=hb
 obtain ⟨u,R,k1,k2,k3,k4⟩:=h9 _ x hx (by simp)
 have:c=0:=by omega
 subst this
 rw [cellOf h2,Fe,Ek,k1] at h5
 have hv:=Bb h5
 subst hv
 exact k4.slice k3 hA λq hq hs=>hS _ hs ⟨r,hp,(h7 _ q (by rw [k2,hq])).1⟩
theorem mD {l off len:Nat} {v:Value} {e:Ty} {tid:TypeId} {xs:List e.den} {S:Nat->Prop} (h:Ng X w π H) (hl:At H l=some (.Gu e tid xs))
  (hlen:off+len<=xs.length) (hv:Ia (π l) e.size off len v)
  (hS: ∀k,S k->(∃r,π l=some r/\r.Cv k)->False):Cells w S (.slice e) [v] ((xs.drop off).take len):=by
 have hb:=(h.heap l).Rp hl
 simp only [Cj,Oe] at hb
 cases hp:π l with
 |none=>
  rw [hp] at hb hv
  obtain ⟨rfl,rfl,rfl⟩:=hv
  exact ⟨none,0,0,rfl,by simp,Ap _, .inl (by simp)⟩
 |some r=>
  rw [hp] at hb hv
  obtain ⟨h1,cur,_,h2,h3,h4,h5,Fs,k1,k2,k3,k4⟩:=hb
  refine xU h2 hlen hv (λhs=>hS _ hs ⟨r,hp,h1⟩) λi x hx=>?_
  have hi:i<Fs.length:=by have:=(An.1 hx).1;omega
  obtain ⟨es,he,hj,yV⟩:=k4 i x _ hx (Ab hi)
  exact ⟨es,he,hj,yV.cells _ _ _ _ λb hb hs=>hS b hs ⟨r,hp,k3 b (Hp.2 ⟨_,Al hi,hb⟩)⟩⟩
theorem St.Rx (st:St) (l m:Nat) (fr:Bool) (e:Ty) (xs:List e.den) (h:m≠l):At (st.freeze l fr e xs).heap m=(At st.heap m).map (OB.map (Cz l fr e xs)):=by
 simp only [St.freeze,St.Lc]
 rw [Nx _ _ _ h,Oz]
theorem St.Mi (st:St) (l:Nat) (fr:Bool) (e:Ty) (xs:List e.den):At (st.freeze l fr e xs).heap l=none:=by
 simp only [St.freeze,St.Lc]
 exact Mq _ _
theorem sD {l:Nat} {B:Nat} {Sc:Nat->Prop} {fr:Bool} {k:Nat} (hA:Da B Sc (Xg π l none) fr k):Da B Sc π fr k:=by
 rcases hA with ⟨m,r,hm,hg⟩|h2
 ·by_cases iO:m=l
  ·subst iO;rw [Gl] at hm;cases hm
  ·rw [Gj π none iO] at hm
   exact .inl ⟨m,r,hm,hg⟩
 ·exact .inr h2
theorem Ng.let (h:Ng X w π H) {l:Nat} {fr:Bool} (EE:fr=true-> ∀r,π l=some r-> ∀b,r.Cv b->X.w0.heap.size<=b) {k:Nat} (hS:Da X.w0.heap.size X.Sc (Xg π l none) fr k) (hk: ∃r,π l=some r/\r.Cv k):False:=by
 obtain ⟨r,hr,KY⟩:=hk
 rcases hS with ⟨m,r',hm,hg⟩|hS|⟨hf,hS⟩
 ·by_cases iO:m=l
  ·subst iO;rw [Gl] at hm;cases hm
  ·rw [Gj π none iO] at hm
   exact iO (h.apart hm hr hg KY)
 ·have h1:=h.sc k hS
  rcases (h.own ⟨l,r,hr,KY⟩).2 with h2|h2
  ·omega
  ·exact h1.2 h2
 ·have:=EE hf r hr k KY;omega
theorem Move.PU {l:Nat} {f:AC->AC} (hf: ∀c v,Hq X w π H c v->(∀k∈c.refs,k≠l)->f c=c)
  (hl: ∀c v,Hq X w π H c v->l∈c.refs->Hq X w (Xg π l none) H' (f c) v)
  (hH: ∀m,m≠l->At H' m=(At H m).map (OB.map f)):Move X w w π (Xg π l none) H H' f:=by
 have hc: ∀Wh τ cs x,Cells w (Da X.w0.heap.size X.Sc π Wh) τ cs x->Cells w (Da X.w0.heap.size X.Sc (Xg π l none) Wh) τ cs x:=
  fun Wh τ cs x hh=>Cells.Fb (Ap _) (λ_ _ _=>rfl) (λk _ hA=>sD hA) τ cs x hh
 refine ⟨λc v KP=>?_,hc⟩
 by_cases hlr:l∈c.refs
 ·exact hl c v KP hlr
 ·rw [hf c v KP λk hk e=>hlr (e▸hk)]
  cases c with
  |data Wh τ x=>obtain ⟨cs,h1,h2⟩:=KP;exact ⟨cs,hc _ _ _ _ h1,h2⟩
  |own k off len=>
   have Rl:k≠l:= λe=>hlr (by simp [AC.refs,e])
   obtain ⟨b,sz,n,h1,h0,h2,h3⟩:=KP
   exact ⟨b.map f,sz,n,by rw [hH k Rl,h1];rfl,by cases b<;>exact h0,h2,by rw [Gj π none Rl];exact h3⟩
  |Hj k i=>
   have Rl:k≠l:= λe=>hlr (by simp [AC.refs,e])
   obtain ⟨r,Uz,vs,h1,h2,h3⟩:=KP
   exact ⟨r,Uz,vs.map f,by rw [hH k Rl,h1];rfl,by rw [Gj π none Rl];exact h2,h3⟩
  |Kk k i=>
   have Rl:k≠l:= λe=>hlr (by simp [AC.refs,e])
   obtain ⟨r,b,sz,n,h1,h0,h2,h3,h4⟩:=KP
   exact ⟨r,b.map f,sz,n,by rw [hH k Rl,h1];rfl,by cases b<;>exact h0,h2,by rw [Gj π none Rl];exact h3,h4⟩
  |sub k i c=>
   have Rl:k≠l:= λe=>hlr (by simp [AC.refs,e])
   obtain ⟨r,b,sz,n,h1,h0,h2,h3⟩:=KP
   exact ⟨r,b.map f,sz,n,by rw [hH k Rl,h1];rfl,by cases b<;>exact h0,by rw [Gj π none Rl];exact h2,h3⟩
  |Kh k i c=>
   have Rl:k≠l:= λe=>hlr (by simp [AC.refs,e])
   obtain ⟨r,b,n,sz,g,o,len,cap,h1,h0,h2,h3⟩:=KP
   exact ⟨r,b.map f,n,sz,g,o,len,cap,by rw [hH k Rl,h1];rfl,by cases b<;>exact h0,by rw [Gj π none Rl];exact h2,h3⟩
  |clo g Ee=>
   obtain ⟨us,h1,h2,h3⟩:=KP
   refine ⟨us,h1,h2,λj p hp=>?_⟩
   obtain ⟨r,tid,vs,h4,h5,h6⟩:=h3 j p hp
   have kF:p.1≠l:= λe=>hlr (by simp only [AC.refs,Ay];exact ⟨p,Cm hp,e⟩)
   exact ⟨r,tid,vs.map f,by rw [hH _ kF,h4];rfl,by rw [Gj π none kF];exact h5,h6⟩
  |Ks k=>
   have Rl:k≠l:= λe=>hlr (by simp [AC.refs,e])
   obtain ⟨r,vt,m,h1,h2,h3⟩:=KP
   exact ⟨r,vt,m,by rw [hH k Rl,h1];rfl,by rw [Gj π none Rl];exact h2,h3⟩
  |_=>exact KP
theorem ix {l:Nat} {ls:List Nat} (h: ∀k∈ls,k≠l):ls.contains l=false:=by
 cases hc:ls.contains l with
 |false=>rfl
 |true=>exact absurd rfl (h l (by simpa using hc))
theorem iM {l:Nat} {fr:Bool} {e:Ty} {xs:List e.den} {c:AC} (h: ∀k∈c.refs,k≠l):Cz l fr e xs c=c:=by
 cases c<;>simp only [Cz]<;>first|rfl|skip
 case clo f Ee=>rw [Ak (by rw [ix (show ∀k∈Ee.map (·.1),k≠l from h)];simp)]
 all_goals rw [Ak (h _ (by simp [AC.refs]))]
theorem sY {l:Nat} {v:Ty} {m:ByteArray->Option v.den} {c:AC} (h: ∀k∈c.refs,k≠l):Gy l v m c=c:=by
 cases c<;>simp only [Gy]<;>first|rfl|skip
 case clo f Ee=>rw [Ak (by rw [ix (show ∀k∈Ee.map (·.1),k≠l from h)];simp)]
 all_goals rw [Ak (h _ (by simp [AC.refs]))]
theorem Move.freeze {l:Nat} {fr:Bool} {e:Ty} {xs:List e.den}
  (Amg: ∀off len v,Hq X w π H (.own l off len) v->Cells w (Da X.w0.heap.size X.Sc (Xg π l none) fr) (.slice e) [v] ((xs.drop off).take len))
  (hH: ∀m,m≠l->At H' m=(At H m).map (OB.map (Cz l fr e xs))):Move X w w π (Xg π l none) H H' (Cz l fr e xs):=by
 refine Move.PU (λc v _ h=>iM h) (λc v KP hr=>?_) hH
 cases c with
 |own k off len=>
  have:k=l:=(Ad.1 hr).symm
  subst this
  simp only [Cz,Ac]
  exact ⟨[v],Amg off len v KP,by simp [Cb,Ty.Ao]⟩
 |Hj k i=>have:k=l:=(Ad.1 hr).symm
          subst this;simp only [Cz,Ac];trivial
 |Kk k i=>have:k=l:=(Ad.1 hr).symm
          subst this;simp only [Cz,Ac];trivial
 |sub k i c=>have:k=l:=(Ad.1 hr).symm
             subst this;simp only [Cz,Ac];trivial
 |Kh k i c=>have:k=l:=(Ad.1 hr).symm
            subst this;simp only [Cz,Ac];trivial
 |Ks k=>have:k=l:=(Ad.1 hr).symm
        subst this;simp only [Cz,Ac];trivial
 |clo f Ee=>
  simp only [Cz]
  rw [Ac (by simpa [AC.refs] using hr)];trivial
 |_=>simp [AC.refs] at hr
theorem Bh.freeze {st:St} {a:Act} (h:Bh X π st a w) {l:Nat} {fr:Bool} {e:Ty} {xs:List e.den}
  (hl:(∃tr tid,At st.heap l=some (.arr fr tr e tid xs))\/(fr=false/\ ∃tid,At st.heap l=some (.Gu e tid xs))):
  Bh X (Xg π l none) (st.freeze l fr e xs) a w/\Move X w w π (Xg π l none) st.heap (st.freeze l fr e xs).heap (Cz l fr e xs):=by
 have m:Move X w w π (Xg π l none) st.heap (st.freeze l fr e xs).heap (Cz l fr e xs):=by
  refine Move.freeze (λoff len v hv=>?_) (λm hm=>St.Rx st l m fr e xs hm)
  rcases hl with ⟨tr,tid,hl⟩|⟨rfl,tid,hl⟩
  ·obtain ⟨h2,h3⟩:=Ot hv hl
   refine pt h.1 hl h2 h3 (λk hk=>?_) λk _ hk=>sD hk
   intro ⟨r,hr,KY⟩
   have hb:=(h.1.heap l).Rp hl
   simp only [Cj,Ki,hr] at hb
   by_cases hkg:k=r.g
   ·subst hkg
    rcases hk with ⟨m,r',hm,hg⟩|hS|⟨hf,hS⟩
    ·by_cases iO:m=l
     ·subst iO;rw [Gl] at hm;cases hm
     ·rw [Gj π none iO] at hm
      exact iO (h.1.apart hm hr hg KY)
    ·have h1:=h.1.sc _ hS
     rcases (h.1.own ⟨l,r,hr,KY⟩).2 with h2|h2
     ·omega
     ·exact h1.2 h2
    ·have:=hb.1.2.2 hf;omega
   ·exact absurd (hb.1.2.1 k KY) hkg
  ·obtain ⟨h2,h3⟩:=c5 hv hl
   exact mD h.1 hl h2 h3 λk hk hr=>h.1.let (λhf=>by cases hf) hk hr
 refine ⟨⟨h.1.drop l m (St.Mi st l fr e xs) λk e'=>St.Rx st l k fr e xs e',?_⟩,m⟩
 have hh:sq X w (Xg π l none) {tmps:=st.tmps.map (·.map (Cz l fr e xs)),heap:=(st.freeze l fr e xs).heap} a:=m.NB rfl h.2
 exact hh
theorem St.Re (st:St) (l k:Nat) (v:Ty) (m:ByteArray->Option v.den) (h:k≠l):At (st.Jb l v m).heap k=(At st.heap k).map (OB.map (Gy l v m)):=by
 simp only [St.Jb,St.Lc]
 rw [Nx _ _ _ h,Oz]
theorem St.Tg (st:St) (l:Nat) (v:Ty) (m:ByteArray->Option v.den):At (st.Jb l v m).heap l=none:=by
 simp only [St.Jb,St.Lc]
 exact Mq _ _
theorem yd {r:Option Real} {v:Ty} {m:ByteArray->Option v.den} {g:Nat} {S:Nat->Prop} (h:WT w r v m) (hg:r.map (·.g)=some g) (hS: ¬S g):Cells w S (.smap v) [.map (some g)] m:=by
 obtain ⟨r',h0,h1,h2,h3⟩:=h
 rw [h0] at hg
 simp only [Am,Aa] at hg
 subst hg
 simp only [Cells] at h3⊢
 rcases h3 with ⟨h3,_⟩|⟨g,h3,hg,_,es,clock,h4,h5,h6,h7⟩
 ·simp at h3
 ·simp only [Gs,Value.map.injEq,Aa,On] at h3
  subst h3
  refine .inr ⟨r'.g,rfl,hg,hS,es,clock,h4,h5,h6,λs y hy=>?_⟩
  obtain ⟨u,h8,h9⟩:=h7 s y hy
  exact ⟨u,h8,Cells.flat v [u] y h2.1 h9⟩
theorem Bh.Jb {st:St} {a:Act} (h:Bh X π st a w) {l:Nat} {v:Ty} {m:ByteArray->Option v.den} (hl:At st.heap l=some (.Vu v m)):
  Bh X (Xg π l none) (st.Jb l v m) a w/\Move X w w π (Xg π l none) st.heap (st.Jb l v m).heap (Gy l v m):=by
 have mv:Move X w w π (Xg π l none) st.heap (st.Jb l v m).heap (Gy l v m):=by
  refine Move.PU (λc u _ h=>sY h) (λc u KP hr=>?_) (λk hk=>St.Re st l k v m hk)
  cases c with
  |Ks k=>
   have:k=l:=(Ad.1 hr).symm
   subst this
   simp only [Gy,Ac]
   obtain ⟨r,vt,m',h1,h2,rfl⟩:=KP
   exact ⟨[_],yd ((h.1.heap k).Rp hl) (by rw [h2];rfl) λhS=>h.1.let (λhf=>by cases hf) hS ⟨r,h2,h.1.Cv h2⟩,by simp [Cb,Ty.Ao]⟩
  |own k off len=>have:k=l:=(Ad.1 hr).symm
                  subst this;simp only [Gy,Ac];trivial
  |Hj k i=>have:k=l:=(Ad.1 hr).symm
           subst this;simp only [Gy,Ac];trivial
  |Kk k i=>have:k=l:=(Ad.1 hr).symm
           subst this;simp only [Gy,Ac];trivial
  |sub k i c=>have:k=l:=(Ad.1 hr).symm
              subst this;simp only [Gy,Ac];trivial
  |Kh k i c=>have:k=l:=(Ad.1 hr).symm
             subst this;simp only [Gy,Ac];trivial
  |clo f Ee=>
   simp only [Gy]
   rw [Ac (by simpa [AC.refs] using hr)];trivial
  |_=>simp [AC.refs] at hr
 refine ⟨⟨h.1.drop l mv (St.Tg st l v m) λk e'=>St.Re st l k v m e',?_⟩,mv⟩
 have hh:sq X w (Xg π l none) {tmps:=st.tmps.map (·.map (Gy l v m)),heap:=(st.Jb l v m).heap} a:=mv.NB rfl h.2
 exact hh
def OB.fits:OB->OB->Prop
 | .arr _ _ e _ xs, .arr _ _ e' _ xs'=>e=e'/\xs.length<=xs'.length
 | .var _ _, .var _ _=>True
 | .Vu _ _, .Vu _ _=>True
 |_,_=>False
theorem Move.Agq {tc:Nat->Prop} {π':Pi} (hs:w.heap.size<=w'.heap.size)
  (hk: ∀k,k<w.heap.size->(∀l r,tc l->π l=some r-> ¬r.Cv k)->w'.heap[k]?=w.heap[k]?)
  (hO: ∀b,b<w.heap.size->Vy π' b->Vy π b)
  (hH: ∀m,¬tc m->At H' m=At H m/\π' m=π m) (hH': ∀m,tc m->bz (π m) (π' m)/\ ∀b0,At H m=some b0-> ∃b,At H' m=some b/\b0.fits b)
  (hx: ∀m r,¬tc m->π m=some r->(∃b,At H m=some b/\b.gq≠none)->r.g<w.heap.size->w'.heap[r.g]?=w.heap[r.g]?):Move X w w' π π' H H' (λc=>c):=by
 have hc: ∀fr τ cs x,Cells w (Da X.w0.heap.size X.Sc π fr) τ cs x->Cells w' (Da X.w0.heap.size X.Sc π' fr) τ cs x:=by
  intro fr τ cs x h
  exact Cells.Fb hs (λk qn hn=>hk k qn λl r _ h0 h1=>hn (.inl ⟨l,r,h0,h1⟩)) (λk Jr hA=>hA.imp (hO k Jr) id) τ cs x h
 have same: ∀m r,π m=some r-> ∃r',π' m=some r'/\r.g=r'.g/\r.o=r'.o/\r.cap=r'.cap:=by
  intro m r hm
  by_cases ht:tc m
  ·have:=(hH' m ht).1
   rw [hm] at this
   cases hp:π' m with
   |none=>rw [hp] at this;exact this.elim
   |some r'=>rw [hp] at this;exact ⟨r',rfl,this.1,this.2.1,this.2.2.1⟩
  ·exact ⟨r,by rw [(hH m ht).2];exact hm,rfl,rfl,rfl⟩
 have fit: ∀m b,At H m=some b-> ∃b',At H' m=some b'/\(b'=b\/b.fits b'):=by
  intro m b hm
  by_cases ht:tc m
  ·obtain ⟨b',h1,h2⟩:=(hH' m ht).2 b hm;exact ⟨b',h1, .inr h2⟩
  ·exact ⟨b,by rw [(hH m ht).1];exact hm, .inl rfl⟩
 refine ⟨λc v h=>?_,hc⟩
 cases c with
 |data fr τ x=>obtain ⟨cs,h1,h2⟩:=h;exact ⟨cs,hc _ _ _ _ h1,h2⟩
 |own k off len=>
  obtain ⟨b,sz,n,h1,h0,h2,h3⟩:=h
  have vr:Ia (π' k) sz off len v:=by
   cases hp:π k with
   |none=>
    rw [hp] at h3
    have:π' k=none:=by
     by_cases ht:tc k
     ·have:=(hH' k ht).1
      rw [hp] at this
      cases ny:π' k with
      |none=>rfl
      |some r'=>rw [ny] at this;exact this.elim
     ·rw [(hH k ht).2];exact hp
    rw [this];exact h3
   |some r=>
    rw [hp] at h3
    obtain ⟨r',h4,h5,h6,h7⟩:=same k r hp
    rw [h4]
    unfold Ia at h3⊢
    simp only at h3⊢
    rw [<-h5,<-h6,<-h7]
    exact h3
  obtain ⟨b',h4,h5⟩:=fit k b h1
  rcases h5 with rfl|h5
  ·exact ⟨_,sz,n,h4,h0,h2,vr⟩
  ·cases b<;>cases b'<;>first|exact h5.elim|(simp [OB.row] at h0;done)|skip
   ·obtain ⟨rfl,hlen⟩:=h5
    simp only [OB.row,Aa,Ae] at h0
    obtain ⟨rfl,rfl⟩:=h0
    exact ⟨_,_,_,h4,rfl,by omega,vr⟩
 |Hj k i=>
  obtain ⟨r,tid,vs,h1,h2,h3⟩:=h
  obtain ⟨r',h4,h5,_⟩:=same k r h2
  obtain ⟨b',h6,h7⟩:=fit k _ h1
  rcases h7 with rfl|h7
  ·exact ⟨r',tid,vs,h6,h4,by rw [<-h5];exact h3⟩
  ·cases b'<;>first|exact h7.elim|exact ⟨r',_,_,h6,h4,by rw [<-h5];exact h3⟩
 |Kk k i=>
  obtain ⟨r,b,sz,n,h1,h0,h2,h3,h4⟩:=h
  obtain ⟨r',h5,h6,h7,_⟩:=same k r h3
  obtain ⟨b',h8,h9⟩:=fit k _ h1
  rcases h9 with rfl|h9
  ·exact ⟨r',_,sz,n,h8,h0,h2,h5,by rw [<-h6,<-h7];exact h4⟩
  ·cases b<;>cases b'<;>first|exact h9.elim|(simp [OB.row] at h0;done)|skip
   obtain ⟨rfl,hlen⟩:=h9
   simp only [OB.row,Aa,Ae] at h0
   obtain ⟨rfl,rfl⟩:=h0
   exact ⟨r',_,_,_,h8,rfl,by omega,h5,by rw [<-h6,<-h7];exact h4⟩
 |sub k i c=>
  obtain ⟨r,b,sz,n,h1,h0,h2,h3,h4,h5⟩:=h
  by_cases ht:tc k
  ·obtain ⟨b',h6,h7⟩:=(hH' k ht).2 _ h1
   cases b<;>first|(cases h0;done)|skip
   all_goals (cases b'<;>exact h7.elim)
  ·exact ⟨r,b,sz,n,by rw [(hH k ht).1];exact h1,h0,by rw [(hH k ht).2];exact h2,h3,h4,by rw [World.cell?_of_block (hx k r ht h2 ⟨b,h1,by rw [h0];simp⟩ (cw h5))];exact h5⟩
 |Kh k i c=>
  obtain ⟨r,b,n,sz,g,o,len,cap,h1,h0,h2,h3,h4,h5,h6⟩:=h
  by_cases ht:tc k
  ·obtain ⟨b',h6,h7⟩:=(hH' k ht).2 _ h1
   cases b<;>first|(cases h0;done)|skip
   all_goals (cases b'<;>exact h7.elim)
  ·exact ⟨r,b,n,sz,g,o,len,cap,by rw [(hH k ht).1];exact h1,h0,by rw [(hH k ht).2];exact h2,h3,h4,by rw [World.cell?_of_block (hx k r ht h2 ⟨b,h1,by cases b<;>first|(cases h0;done)|simp [OB.gq]⟩ (cw h5))];exact h5,h6⟩
 |clo f Ee=>
  obtain ⟨us,h1,h2,h3⟩:=h
  refine ⟨us,h1,h2,λj p hp=>?_⟩
  obtain ⟨r,tid,vs,h4,h5,h6⟩:=h3 j p hp
  obtain ⟨r',h7,h8,_⟩:=same _ r h5
  obtain ⟨b',h9,oC⟩:=fit _ _ h4
  rcases oC with rfl|oC
  ·exact ⟨r',tid,vs,h9,h7,by rw [<-h8];exact h6⟩
  ·cases b'<;>first|exact oC.elim|exact ⟨r',_,_,h9,h7,by rw [<-h8];exact h6⟩
 |Ks k=>
  obtain ⟨r,vt,m,h1,h2,h3⟩:=h
  obtain ⟨r',h4,h5,_⟩:=same k r h2
  obtain ⟨b',h6,h7⟩:=fit k _ h1
  rcases h7 with rfl|h7
  ·exact ⟨r',vt,m,h6,h4,by rw [<-h5];exact h3⟩
  ·cases b'<;>first|exact h7.elim|exact ⟨r',_,_,h6,h4,by rw [<-h5];exact h3⟩
 |_=>exact h
def Real.plus (r:Real) (N:List Nat):Real:= {r with cl:= λc=>r.cl c\/c∈N}
theorem Bh.At9 {st:St} {a:Act} (h:Bh X π st a w) {l:Nat} {b0 b:OB} (hl:At st.heap l=some b0) (hf:b0.fits b) {r:Real} (hr:π l=some r) {N:List Nat}
  (hN: ∀c∈N,(X.w0.heap.size<=c\/X.gv c)/\c<w.heap.size/\ ∀m r0,m≠l->π m=some r0-> ¬r0.cl c) (hg:w.grownBy w' (some r.g))
  (hb:Move X w w' π (Xg π l (some (r.plus N))) st.heap (st.Kg l b).heap (λc=>c)->Cj X w' (Xg π l (some (r.plus N))) (st.Kg l b).heap (some (r.plus N)) b):Bh X (Xg π l (some (r.plus N))) (st.Kg l b) a w':=by
 have hk: ∀k,k<w.heap.size-> ¬r.Cv k->w'.heap[k]?=w.heap[k]?:= λk hk hn=>hg.block k hk (by
  intro e
  simp only [Aa] at e
  exact hn (e▸h.1.Cv hr))
 have vz: ∀k q,Xg π l (some (r.plus N)) k=some q-> ∃q0,π k=some q0/\(q=q0\/(k=l/\q0=r/\q=r.plus N)):= λk q hq=>by
  by_cases e:k=l
  ·subst e;rw [Gl] at hq;exact ⟨r,hr, .inr ⟨rfl,rfl,(Bb hq).symm⟩⟩
  ·rw [Gj π _ e] at hq;exact ⟨q,hq, .inl rfl⟩
 have cl': ∀k q q0 c,(q=q0\/(k=l/\q0=r/\q=r.plus N))->q.cl c->q0.cl c\/(k=l/\c∈N):= λk q q0 c h1 h2=>by
  rcases h1 with rfl|⟨rfl,rfl,rfl⟩
  ·exact .inl h2
  ·rcases h2 with h2|h2
   ·exact .inl h2
   ·exact .inr ⟨rfl,h2⟩
 have ft: ∀k q q0 c,(q=q0\/(k=l/\q0=r/\q=r.plus N))->(q.Cv c↔q0.Cv c):= λk q q0 c h1=>by
  rcases h1 with rfl|⟨rfl,rfl,rfl⟩<;>exact Iff.rfl
 have m:Move X w w' π (Xg π l (some (r.plus N))) st.heap (st.Kg l b).heap (λc=>c):=Move.Agq (tc:= λk=>k=l) hg.size (λk Jr hn=>hk k Jr (hn l r rfl hr)) (λc _ ⟨k,q,h1,h2⟩=>by
   obtain ⟨q0,h3,h4⟩:=vz k q h1
   exact ⟨k,q0,h3,(ft k q q0 c h4).1 h2⟩)
  (λm hm=>⟨Ea _ _ _ _ hm,Gj π _ hm⟩) (λm hm=>by subst hm;exact ⟨by rw [hr,Gl];exact ⟨rfl,rfl,rfl,λ_=>Iff.rfl⟩,λb1 h1=>by rw [hl] at h1;cases h1;exact ⟨b,Er _ _ _ _ hl,hf⟩⟩)
  (λm r' hm h1 _ Jr=>hk _ Jr λh3=>hm (h.1.apart h1 hr (h.1.Cv h1) h3))
 refine ⟨⟨?_,h.1.sc,λk q c h1 h2=>?_,λk q c h1 h2=>?_,λk k' q q' c h1 h2 h3 h4=>?_,λk hp Iv=>?_,λk=>?_⟩,?_⟩
 ·exact h.1.below.grown hg h.1.below.size λk hk=>by cases hk;exact (h.1.lt hr).2
 ·obtain ⟨q0,h3,h4⟩:=vz k q h1
  have:=h.1.sub k q0 c h3 ((ft k q q0 c h4).1 h2)
  rcases h4 with rfl|⟨rfl,rfl,rfl⟩
  ·exact this
  ·exact .inl this
 ·obtain ⟨q0,h3,h4⟩:=vz k q h1
  rcases cl' k q q0 c h4 h2 with h5|⟨_,h5⟩
  ·exact ⟨(h.1.place k q0 c h3 h5).1,Eg (h.1.place k q0 c h3 h5).2 hg.size⟩
  ·exact ⟨(hN c h5).1,Eg (hN c h5).2.1 hg.size⟩
 ·obtain ⟨q0,g1,g2⟩:=vz k q h1
  obtain ⟨q0',g3,g4⟩:=vz k' q' h2
  rcases cl' k q q0 c g2 h3 with h5|⟨h5,h6⟩<;>rcases cl' k' q' q0' c g4 h4 with h7|⟨h7,h8⟩
  ·exact h.1.inj k k' q0 q0' c g1 g3 h5 h7
  ·refine Bj λhn=>(hN c h8).2.2 k q0 (λe=>hn (e.trans h7.symm)) g1 h5
  ·refine Bj λhn=>(hN c h6).2.2 k' q0' (λe=>hn (h5.trans e.symm)) g3 h7
  ·rw [h5,h7]
 ·by_cases e:k=l
  ·subst e
   have:=h.1.gW k hp (by rw [hl];simp)
   rw [hr] at this
   rw [Gl]
   cases hx:X.gW k with
   |none=>rw [hx] at this;exact this.elim
   |some q=>rw [hx] at this;exact this
  ·rw [Gj π _ e]
   exact h.1.gW k hp λh0=>Iv (by rw [show At (st.Kg l b).heap k=At st.heap k from Ea _ _ _ _ e];exact h0)
 ·by_cases e:k=l
  ·subst e
   exact Gh.Lr (by rw [Gl];exact hb m) (Er _ _ _ _ hl)
  ·have hn:At (st.Kg l b).heap k=At st.heap k:=Ea _ _ _ _ e
   have ho:=h.1.heap k
   cases jU:At st.heap k with
   |none=>rw [jU] at hn;exact Gh.Um (by rw [Gj π _ e];exact ho.emp jU) hn
   |some c=>
    rw [jU] at hn
    refine Gh.Lr ?_ hn
    rw [Gj π _ e]
    have:=(ho.Rp jU).move m hg.size (λr0 c h0 h1=>h.1.sub _ r0 c h0 h1) λr0 c h0 h1 Jr=>hk _ Jr λh3=>e (h.1.inj _ _ r0 r c h0 hr h1 (h.1.sub _ _ _ hr h3))
    cases c with
    |var tid vs=>simpa [OB.map] using this
    |_=>exact this
 ·exact ⟨h.2.size,h.2.defers,λt=>by have:=m.av (h.2.tmps t);rwa [AC.map_id] at this⟩
theorem Bh.set {st:St} {a:Act} (h:Bh X π st a w) {l:Nat} {b0 b:OB} (hl:At st.heap l=some b0) (hf:b0.fits b)
  (hg:w.grownBy w' ((π l).map (·.g)))
  (hb:Move X w w' π π st.heap (st.Kg l b).heap (λc=>c)->Cj X w' π (st.Kg l b).heap (π l) b):Bh X π (st.Kg l b) a w':=by
 have hk: ∀k,k<w.heap.size->(∀r,π l=some r-> ¬r.Cv k)->w'.heap[k]?=w.heap[k]?:= λk hk hn=>hg.block k hk (by
  intro e
  cases hp:π l with
  |none=>rw [hp] at e;cases e
  |some r=>rw [hp] at e;simp only [Am,Aa] at e;exact hn r hp (e▸h.1.Cv hp))
 have m:Move X w w' π π st.heap (st.Kg l b).heap (λc=>c):=Move.Agq (tc:= λk=>k=l) hg.size (λk Jr hn=>hk k Jr λr hr=>hn l r rfl hr) (λ_ _ h=>h)
  (λm hm=>⟨Ea _ _ _ _ hm,rfl⟩) (λm hm=>by subst hm;exact ⟨bz.rfl' _,λb1 h1=>by rw [hl] at h1;cases h1;exact ⟨b,Er _ _ _ _ hl,hf⟩⟩)
  (λm r hm h1 _ Jr=>hk _ Jr λr1 h2 h3=>hm (h.1.apart h1 h2 (h.1.Cv h1) h3))
 refine ⟨⟨?_,h.1.sc,h.1.sub,λk r c h1 h2=>⟨(h.1.place k r c h1 h2).1,Eg (h.1.place k r c h1 h2).2 hg.size⟩,h.1.inj,λk hp Iv=>h.1.gW k hp λh0=>Iv ?_,λk=>?_⟩,?_⟩
 ·refine h.1.below.grown hg h.1.below.size λk hk=>?_
  cases hp:π l with
  |none=>rw [hp] at hk;cases hk
  |some r=>rw [hp] at hk;simp only [Am,Aa] at hk;rw [<-hk];exact (h.1.lt hp).2
 ·have:k≠l:= λe=>by subst e;rw [hl] at h0;cases h0
  rw [show At (st.Kg l b).heap k=At st.heap k from Ea _ _ _ _ this];exact h0
 ·by_cases e:k=l
  ·subst e
   exact Gh.Lr (hb m) (Er _ _ _ _ hl)
  ·have hn:At (st.Kg l b).heap k=At st.heap k:=Ea _ _ _ _ e
   have ho:=h.1.heap k
   cases jU:At st.heap k with
   |none=>rw [jU] at hn;exact Gh.Um (ho.emp jU) hn
   |some c=>
    rw [jU] at hn
    refine Gh.Lr ?_ hn
    have:=(ho.Rp jU).move m hg.size (λr0 c h0 h1=>h.1.sub _ r0 c h0 h1) λr0 c h0 h1 Jr=>hk _ Jr λr1 h2 h3=>e (h.1.inj _ _ r0 r1 c h0 h2 h1 (h.1.sub _ _ _ h2 h3))
    cases c with
    |var tid vs=>simpa [OB.map] using this
    |_=>exact this
 ·exact ⟨h.2.size,h.2.defers,λt=>by have:=m.av (h.2.tmps t);rwa [AC.map_id] at this⟩
end
end Go.Proofs.Ytkkdpknjohcekaa
