/-
  Part 5 of the proof that the statement FnExactInSubgroup holds.
-/
import Derived.Test.YtjbdmibbbpdnnaaCInSubgroup03
namespace Go.Proofs.Ytjbdmibbbpdnnaa
open Go.RowKit
def Oe (π:Pi) (l:Nat) (r:Option Real):Pi:= λk=>if k=l then r else π k
theorem Ct (π:Pi) (l:Nat) (r:Option Real):Oe π l r l=r:=by simp [Oe]
theorem Cs (π:Pi) {l m:Nat} (r:Option Real) (h:m≠l):Oe π l r m=π m:=by simp [Oe,h]
section
variable {X:Ctx} {w w':World} {π:Pi} {H H':List (Nat×OB)}
def Ao (X:Ctx) (w:World) (π:Pi) (H:List (Nat×OB)) (r:Option Real):OB->Prop
 | .arr fr tr e tid xs=>Ew X w π r fr tr e tid xs
 | .Cu e tid xs=>Hs w r e tid xs
 | .var tid vs=>HZ X w π H r tid vs
 | .Ai e _ rows out kp=>an X w π r e rows out kp
 | .Nd v m=>AF w r v m
theorem Cv.La {l:Nat} {b:OB} (h:Cv X w π H l) (hb:Ad H l=some b):Ao X w π H (π l) b:=by
 unfold Cv at h
 rw [hb] at h
 cases b<;>exact h
theorem Cv.Hq {l:Nat} {b:OB} (h:Ao X w π H (π l) b) (hb:Ad H l=some b):Cv X w π H l:=by
 unfold Cv
 rw [hb]
 cases b<;>exact h
theorem Cv.Nr {l:Nat} (h:π l=none) (hb:Ad H l=none):Cv X w π H l:=by
 unfold Cv;rw [hb];exact h
theorem Cv.emp {l:Nat} (h:Cv X w π H l) (hb:Ad H l=none):π l=none:=by
 unfold Cv at h;rw [hb] at h;exact h
theorem Ao.move {f:AC->AC} {π':Pi} (m:Move X w w' π π' H H' f) {r:Option Real} {b:OB} (h:Ao X w π H r b) (hs:w.heap.size<=w'.heap.size)
  (Mj: ∀r' c,r=some r'->r'.Ar c->r'.cl c) (hk: ∀r' c,r=some r'->r'.cl c->c<w.heap.size->w'.heap[c]?=w.heap[c]?):
  Ao X w' π' H' r (b.map f):=by
 cases b with
 |arr fr tr e tid xs=>
  simp only [Ao,Ew,OB.map] at h⊢
  cases hr:r with
  |none=>rw [hr] at h;exact h
  |some r=>
   rw [hr] at h
   obtain ⟨h1,cur,ti,h2,h3,h4,h5,h6,h7⟩:=h
   refine ⟨h1,cur,ti,(hk r _ hr (Mj r _ hr h1.1) (Cr h2)).trans h2,h3,h4,h5,λi x hx=>?_,λht=>(h7 ht).Cj hs (λc _ Gu hc=>hk r c hr hc Gu) λ_ hb=>hb⟩
   obtain ⟨es,he,hj,hc⟩:=h6 i x hx
   exact ⟨es,he,hj,m.cells _ _ _ _ hc⟩
 |Cu e tid xs=>
  simp only [Ao,Hs,OB.map] at h⊢
  cases hr:r with
  |none=>rw [hr] at h;exact h
  |some r=>
   rw [hr] at h
   obtain ⟨h1,cur,ti,h2,h3,h4,h5,h7⟩:=h
   exact ⟨h1,cur,ti,(hk r _ hr (Mj r _ hr h1) (Cr h2)).trans h2,h3,h4,h5,h7.Cj hs (λc _ Gu hc=>hk r c hr (Mj r c hr hc) Gu) λ_ hb=>hb⟩
 |var tid vs=>
  obtain ⟨r',h0,h1,cur,h2,h3⟩:=h
  exact ⟨r',h0,h1,cur,(hk r' _ h0 (Mj r' _ h0 h1) (Cr h2)).trans h2,m.FD h3⟩
 |Ai e te rows out kp=>exact an.Cj h (λq b hq hf Gu=>hk q b hq (Mj q b hq hf) Gu) (λes x=>m.cells false e es x)
 |Nd v g=>
  obtain ⟨r',h0,h1,h2,h3⟩:=h
  refine ⟨r',h0,h1,h2,?_⟩
  simp only [Cells] at h3⊢
  rcases h3 with ⟨h3,_⟩|⟨g,h3,hg,_,es,clock,h4,h5,h6,h7⟩
  ·simp at h3
  ·simp only [List.cons.injEq,Value.map.injEq,Option.some.injEq,and_true] at h3
   subst h3
   refine .inr ⟨r'.g,rfl,by omega,λh=>h,es,clock,(hk r' _ h0 (Mj r' _ h0 h1) hg).trans h4,h5,h6,λs y hy=>?_⟩
   obtain ⟨u,h8,h9⟩:=h7 s y hy
   exact ⟨u,h8,Cells.flat v [u] y h2.1 h9⟩
theorem Move.forget {l:Nat} {r':Option Real} (hs:w.heap.size<=w'.heap.size)
  (hk: ∀k,k<w.heap.size->(∀r,π l=some r-> ¬r.Ar k)->w'.heap[k]?=w.heap[k]?)
  (hr: ∀r b,r'=some r->r.Ar b->(∃r0,π l=some r0/\r0.Ar b)\/w.heap.size<=b)
  (hH: ∀m,m≠l->Ad H' m=(Ad H m).map (OB.map (As l)))
  (hx: ∀m r,m≠l->π m=some r->(∃b,Ad H m=some b/\b.Zq≠none)->r.g<w.heap.size->w'.heap[r.g]?=w.heap[r.g]?):Move X w w' π (Oe π l r') H H' (As l):=by
 have hc: ∀fr τ cs x,Cells w (Ay X.w0.heap.size X.Sc π fr) τ cs x->Cells w' (Ay X.w0.heap.size X.Sc (Oe π l r') fr) τ cs x:=by
  intro fr τ cs x h
  refine Cells.Cj hs (λk ew hn=>hk k ew λr h0 h1=>hn (.inl ⟨l,r,h0,h1⟩)) (λk ew hA=>?_) τ cs x h
  rcases hA with ⟨m,r,hm,hg⟩|h2
  ·by_cases cA:m=l
   ·subst cA
    rw [Ct] at hm
    rcases hr r k hm hg with ⟨r0,h0,h1⟩|h1
    ·exact .inl ⟨m,r0,h0,h1⟩
    ·omega
   ·rw [Cs π r' cA] at hm
    exact .inl ⟨m,r,hm,hg⟩
  ·exact .inr h2
 refine ⟨λc v h=>?_,hc⟩
 cases c with
 |data fr τ x=>obtain ⟨cs,h1,h2⟩:=h;exact ⟨cs,hc _ _ _ _ h1,h2⟩
 |own k off len=>
  simp only [As]
  split
  ·trivial
  ·rename_i Lt
   obtain ⟨b,sz,n,h1,h0,h2,h3⟩:=h
   exact ⟨b.map (As l),sz,n,by rw [hH k Lt,h1];rfl,by cases b<;>exact h0,h2,by rw [Cs π r' Lt];exact h3⟩
 |Dj k i=>
  simp only [As]
  split
  ·trivial
  ·rename_i Lt
   obtain ⟨r,tid,vs,h1,h2,h3⟩:=h
   exact ⟨r,tid,vs.map (As l),by rw [hH k Lt,h1];rfl,by rw [Cs π r' Lt];exact h2,h3⟩
 |Fc k i=>
  simp only [As]
  split
  ·trivial
  ·rename_i Lt
   obtain ⟨r,b,sz,n,h1,h0,h2,h3,h4⟩:=h
   exact ⟨r,b.map (As l),sz,n,by rw [hH k Lt,h1];rfl,by cases b<;>exact h0,h2,by rw [Cs π r' Lt];exact h3,h4⟩
 |sub k i c=>
  simp only [As]
  split
  ·trivial
  ·rename_i Lt
   obtain ⟨r,b,sz,n,h1,h0,h2,h3,h4,h5⟩:=h
   exact ⟨r,b.map (As l),sz,n,by rw [hH k Lt,h1];rfl,by cases b<;>exact h0,by rw [Cs π r' Lt];exact h2,h3,h4,by rw [World.cell?_of_block (hx k r Lt h2 ⟨b,h1,by rw [h0];simp⟩ (Ug h5))];exact h5⟩
 |Fa k i c=>
  simp only [As]
  split
  ·trivial
  ·rename_i Lt
   obtain ⟨r,b,n,sz,g,o,len,cap,h1,h0,h2,h3,h4,h5,h6⟩:=h
   exact ⟨r,b.map (As l),n,sz,g,o,len,cap,by rw [hH k Lt,h1];rfl,by cases b<;>exact h0,by rw [Cs π r' Lt];exact h2,h3,h4,by rw [World.cell?_of_block (hx k r Lt h2 ⟨b,h1,by cases b<;>first|(cases h0;done)|simp [OB.Zq]⟩ (Ug h5))];exact h5,h6⟩
 |clo f Bp=>
  simp only [As]
  split
  ·trivial
  ·rename_i Lt
   obtain ⟨us,h1,h2,h3⟩:=h
   refine ⟨us,h1,h2,λj p hp=>?_⟩
   obtain ⟨r,tid,vs,h4,h5,h6⟩:=h3 j p hp
   have cQ:p.1≠l:= λe=>Lt (by simp only [List.contains_iff_mem,List.mem_map];exact ⟨p,List.mem_of_getElem? hp,e⟩)
   exact ⟨r,tid,vs.map (As l),by rw [hH _ cQ,h4];rfl,by rw [Cs π r' cQ];exact h5,h6⟩
 |Fq k=>
  simp only [As]
  split
  ·trivial
  ·rename_i Lt
   obtain ⟨r,vt,m,h1,h2,h3⟩:=h
   exact ⟨r,vt,m,by rw [hH k Lt,h1];rfl,by rw [Cs π r' Lt];exact h2,h3⟩
 |_=>exact h
theorem St.Qs (st:St) (l m:Nat) (b:OB) (h:m≠l):Ad (st.new l b).heap m=(Ad st.heap m).map (OB.map (As l)):=by
 simp only [St.new,St.forget,St.Fp]
 rw [Iu _ _ _ _ h,Ho _ _ _ h,Io]
theorem St.Db (st:St) (l:Nat) (b:OB):Ad (st.new l b).heap l=some b:=by
 simp only [St.new,St.forget,St.Fp]
 exact Jp _ _ _ (Gt _ _)
theorem St.aR (st:St) (l m:Nat) (h:m≠l):Ad (st.forget l).heap m=(Ad st.heap m).map (OB.map (As l)):=by
 simp only [St.forget,St.Fp]
 rw [Ho _ _ _ h,Io]
theorem St.gx (st:St) (l:Nat):Ad (st.forget l).heap l=none:=by
 simp only [St.forget,St.Fp]
 exact Gt _ _
theorem Af.bw {st:St} {a:Act} (h:Af X π st a w) (l:Nat) (hl:l<Ah) (r':Option Real) (b:OB)
  (hg:w.grownBy w' ((π l).map (·.g)))
  (hf: ∀r b,r'=some r->r.Ar b->r.cl b/\((∃r0,π l=some r0/\r0.Ar b)\/w.heap.size<=b))
  (hr: ∀r b,r'=some r->r.cl b->(X.w0.heap.size<=b\/X.gv b)/\b<w'.heap.size/\ ∀m r0,m≠l->π m=some r0-> ¬r0.cl b)
  (hb:Move X w w' π (Oe π l r') st.heap (st.new l b).heap (As l)->Ao X w' (Oe π l r') (st.new l b).heap r' b):Af X (Oe π l r') (st.new l b) a w':=by
 have hk: ∀k,k<w.heap.size->(∀r,π l=some r-> ¬r.Ar k)->w'.heap[k]?=w.heap[k]?:= λk hk hn=>hg.block k hk (by
  intro e
  cases hp:π l with
  |none=>rw [hp] at e;cases e
  |some r=>rw [hp] at e;simp only [Option.map_some,Option.some.injEq] at e;exact hn r hp (e▸h.1.Ar hp))
 have m:Move X w w' π (Oe π l r') st.heap (st.new l b).heap (As l):=Move.forget hg.size hk (λr c h1 h2=>(hf r c h1 h2).2) (λm hm=>St.Qs st l m b hm)
  (λm r hm h1 _ Gu=>hk _ Gu λr1 h2 h3=>hm (h.1.apart h1 h2 (h.1.Ar h1) h3))
 refine ⟨⟨?_,h.1.sc,?_,?_,?_,?_,λk=>?_⟩,?_⟩
 ·refine h.1.below.grown hg h.1.below.size λk hk=>?_
  cases hp:π l with
  |none=>rw [hp] at hk;cases hk
  |some r=>rw [hp] at hk;simp only [Option.map_some,Option.some.injEq] at hk;rw [<-hk];exact (h.1.lt hp).2
 ·intro k r c h1 h2
  by_cases e1:k=l
  ·subst e1;rw [Ct] at h1;exact (hf r c h1 h2).1
  ·rw [Cs π r' e1] at h1;exact h.1.sub k r c h1 h2
 ·intro k r c h1 h2
  by_cases e1:k=l
  ·subst e1;rw [Ct] at h1;have:=hr r c h1 h2;exact ⟨this.1,this.2.1⟩
  ·rw [Cs π r' e1] at h1;have:=h.1.place k r c h1 h2;exact ⟨this.1,Nat.lt_of_lt_of_le this.2 hg.size⟩
 ·intro l1 l2 r1 r2 c h1 h2 h3 h4
  by_cases e1:l1=l<;>by_cases e2:l2=l
  ·rw [e1,e2]
  ·subst e1
   rw [Ct] at h1;rw [Cs π r' e2] at h2
   exact absurd h4 ((hr r1 c h1 h3).2.2 l2 r2 e2 h2)
  ·subst e2
   rw [Ct] at h2;rw [Cs π r' e1] at h1
   exact absurd h3 ((hr r2 c h2 h4).2.2 l1 r1 e1 h1)
  ·rw [Cs π r' e1] at h1;rw [Cs π r' e2] at h2
   exact h.1.inj _ _ r1 r2 c h1 h2 h3 h4
 ·intro k OO Ev
  have e:k≠l:= λe=>by subst e;omega
  rw [St.Qs st l k b e] at Ev
  rw [Cs π r' e]
  exact h.1.bk k OO λh0=>Ev (by rw [h0];rfl)
 ·by_cases e:k=l
  ·subst e
   exact Cv.Hq (by rw [Ct];exact hb m) (St.Db st k b)
  ·have hn:=St.Qs st l k b e
   have ho:=h.1.heap k
   cases fe:Ad st.heap k with
   |none=>rw [fe] at hn;exact Cv.Nr (by rw [Cs π r' e];exact ho.emp fe) hn
   |some c=>
    rw [fe] at hn
    refine Cv.Hq ?_ hn
    rw [Cs π r' e]
    exact (ho.La fe).move m hg.size (λr0 c h0 h1=>h.1.sub _ r0 c h0 h1) λr0 c h0 h1 Gu=>hk _ Gu λr1 h2 h3=>e (h.1.inj _ _ r0 r1 c h0 h2 h1 (h.1.sub _ _ _ h2 h3))
 ·have hh:jV X w' (Oe π l r') {tmps:=st.tmps.map (·.map (As l)),heap:=(st.new l b).heap} a:=m.wo rfl h.2
  exact hh
def Real.one (g o cap:Nat):Real:=⟨g,o,cap,λb=>b=g,λb=>b=g⟩
theorem Af.replace {st:St} {a:Act} (h:Af X π st a w) (l:Nat) (hl:l<Ah) (r':Option Real) (b:OB)
  (hg:w.grownBy w' ((π l).map (·.g)))
  (hr: ∀r,r'=some r->r=Real.one r.g r.o r.cap/\((∃r0,π l=some r0/\r0.g=r.g)\/w.heap.size<=r.g)/\r.g<w'.heap.size)
  (hb:Move X w w' π (Oe π l r') st.heap (st.new l b).heap (As l)->Ao X w' (Oe π l r') (st.new l b).heap r' b):Af X (Oe π l r') (st.new l b) a w':=by
 refine h.bw l hl r' b hg (λr c h1 h2=>?_) (λr c h1 h2=>?_) hb
 ·obtain ⟨h3,h4,_⟩:=hr r h1
  have IH:c=r.g:=by rw [h3] at h2;exact h2
  subst IH
  refine ⟨by rw [h3];rfl,h4.imp (λ⟨r0,h5,h6⟩=>⟨r0,h5,h6▸h.1.Ar h5⟩) id⟩
 ·obtain ⟨h3,h4,h5⟩:=hr r h1
  have IH:c=r.g:=by rw [h3] at h2;exact h2
  subst IH
  refine ⟨?_,h5,λm r0 hm h6 h7=>?_⟩
  ·rcases h4 with ⟨r0,h6,h7⟩|h6
   ·rw [<-h7];exact (h.1.lt h6).2
   ·exact .inl (Nat.le_trans h.1.below.size h6)
  ·rcases h4 with ⟨r1,h8,h9⟩|h8
   ·exact hm (h.1.inj m l r0 r1 r.g h6 h8 h7 (h9▸h.1.sub l r1 _ h8 (h.1.Ar h8)))
   ·have:=(h.1.place m r0 _ h6 h7).2;omega
theorem Hb.drop (h:Hb X w π H) {f:AC->AC} (l:Nat) (m:Move X w w π (Oe π l none) H H' f) (h0:Ad H' l=none) (hH: ∀k,k≠l->Ad H' k=(Ad H k).map (OB.map f)):Hb X w (Oe π l none) H':=by
 have un: ∀k r,Oe π l none k=some r->k≠l/\π k=some r:= λk r hk=>by
  by_cases e:k=l
  ·subst e;rw [Ct] at hk;cases hk
  ·rw [Cs π none e] at hk;exact ⟨e,hk⟩
 refine ⟨h.below,h.sc,λk r c h1 h2=>h.sub k r c (un k r h1).2 h2,λk r c h1 h2=>h.place k r c (un k r h1).2 h2,λl1 l2 r1 r2 c h1 h2 h3 h4=>h.inj _ _ r1 r2 c (un _ _ h1).2 (un _ _ h2).2 h3 h4,λk hp Ev=>?_,λk=>?_⟩
 ·have e:k≠l:= λe=>by subst e;exact Ev h0
  rw [hH k e] at Ev
  rw [Cs π none e]
  exact h.bk k hp λh1=>Ev (by rw [h1];rfl)
 ·by_cases e:k=l
  ·subst e
   exact Cv.Nr (by rw [Ct]) h0
  ·have hn:=hH k e
   have ho:=h.heap k
   cases fe:Ad H k with
   |none=>rw [fe] at hn;exact Cv.Nr (by rw [Cs π none e];exact ho.emp fe) hn
   |some c=>
    rw [fe] at hn
    refine Cv.Hq ?_ hn
    rw [Cs π none e]
    exact (ho.La fe).move m (Nat.le_refl _) (λr0 c h0 h1=>h.sub _ r0 c h0 h1) λr0 c h0 h1 Gu=>rfl
theorem Af.forget {st:St} {a:Act} (h:Af X π st a w) (l:Nat):Af X (Oe π l none) (st.forget l) a w:=by
 have m:Move X w w π (Oe π l none) st.heap (st.forget l).heap (As l):=
  Move.forget (Nat.le_refl _) (λ_ _ _=>rfl) (λr c hr=>by cases hr) (λm hm=>St.aR st l m hm) (λ_ _ _ _ _ _=>rfl)
 refine ⟨h.1.drop l m (St.gx st l) λk e=>St.aR st l k e,?_⟩
 have hh:jV X w (Oe π l none) {tmps:=st.tmps.map (·.map (As l)),heap:=(st.forget l).heap} a:=m.wo rfl h.2
 exact hh
theorem cellOf {w:World} {g:Nat} {cur:Array Value} {tid:TypeId} (h:w.heap[g]?=some (.cells cur tid (0,0))) (i:Nat):w.cell? ⟨g,i,none⟩=cur[i]?:=by
 simp [World.cell?,h]
theorem Ij {l off len:Nat} {v:Value} {fr tr:Bool} {e:Ty} {tid:TypeId} {xs:List e.den} (h:Dk X w π H (.own l off len) v) (hl:Ad H l=some (.arr fr tr e tid xs)):off+len<=xs.length/\Di (π l) e.size off len v:=by
 obtain ⟨b,sz,n,h1,h0,h2,h3⟩:=h
 rw [hl] at h1;cases h1
 simp only [OB.row,Option.some.injEq,Prod.mk.injEq] at h0
 obtain ⟨rfl,rfl⟩:=h0
 exact ⟨h2,h3⟩
theorem Tv {l off len:Nat} {v:Value} {e:Ty} {tid:TypeId} {xs:List e.den} (h:Dk X w π H (.own l off len) v) (hl:Ad H l=some (.Cu e tid xs)):off+len<=xs.length/\Di (π l) e.size off len v:=by
 obtain ⟨b,sz,n,h1,h0,h2,h3⟩:=h
 rw [hl] at h1;cases h1
 simp only [OB.row,Option.some.injEq,Prod.mk.injEq] at h0
 obtain ⟨rfl,rfl⟩:=h0
 exact ⟨h2,h3⟩
theorem vQ {l off len:Nat} {v:Value} {fr tr:Bool} {e:Ty} {tid:TypeId} {xs:List e.den} (hl:Ad H l=some (.arr fr tr e tid xs)) (h1:off+len<=xs.length) (h2:Di (π l) e.size off len v):Dk X w π H (.own l off len) v:=
 ⟨_,e.size,xs.length,hl,rfl,h1,h2⟩
theorem oF {r:Real} {off len:Nat} {v:Value} {e:Ty} {tid:TypeId} {xs:List e.den} {S:Nat->Prop} {cur:Array Value} (h2:w.heap[r.g]?=some (.cells cur tid (0,0)))
  (hlen:off+len<=xs.length) (hv:Di (some r) e.size off len v) (hg: ¬S r.g)
  (hA: ∀(i:Nat) (x:e.den),xs[i]?=some x-> ∃es:List Value,es.length=e.size/\(∀j u,es[j]?=some u->cur[(r.o+i)*e.size+j]?=some u)/\Cells w S e es x):Cells w S (.slice e) [v] ((xs.drop off).take len):=by
 have EW:((xs.drop off).take len).length=len:=by simp;omega
 obtain ⟨ad,rfl,hc,ha⟩:=hv
 refine ⟨some ad,len,r.cap-off,rfl,EW.symm,by omega,?_⟩
 rcases Nat.eq_zero_or_pos len with h0|h0
 ·left;subst h0;simp
 ·right
  refine ⟨r.g,(r.o+off)*e.size,by rw [ha (by omega)],Cr h2,hg,λi x hx=>?_⟩
  have hi:i<len:=by
   have:=(List.getElem?_eq_some_iff.1 hx).1
   rw [EW] at this;exact this
  have MC:xs[off+i]?=some x:=by
   rw [List.getElem?_take,if_pos hi,List.getElem?_drop] at hx;exact hx
  obtain ⟨es,he,hj,pz⟩:=hA (off+i) x MC
  refine ⟨es,he,λj u hu=>?_,pz⟩
  rw [cellOf h2]
  have:=hj j u hu
  rw [<-this]
  congr 1
  rw [<-Nat.add_assoc,Nat.add_mul (r.o+off) i]
theorem gP {l off len:Nat} {v:Value} {fr tr:Bool} {e:Ty} {tid:TypeId} {xs:List e.den} {S:Nat->Prop} (h:Hb X w π H) (hl:Ad H l=some (.arr fr tr e tid xs))
  (hlen:off+len<=xs.length) (hv:Di (π l) e.size off len v)
  (hS: ∀k,S k->(∃r,π l=some r/\r.Ar k)->False) (hA: ∀k,k<w.heap.size->S k->Ay X.w0.heap.size X.Sc π fr k):Cells w S (.slice e) [v] ((xs.drop off).take len):=by
 have hb:=(h.heap l).La hl
 simp only [Ao,Ew] at hb
 cases hp:π l with
 |none=>
  rw [hp] at hb hv
  obtain ⟨rfl,rfl,rfl⟩:=hv
  exact ⟨none,0,0,rfl,by simp,Nat.le_refl _, .inl (by simp)⟩
 |some r=>
  rw [hp] at hb hv
  obtain ⟨h1,cur,_,h2,h3,h4,h5,h6,_⟩:=hb
  refine oF h2 hlen hv (λhs=>hS _ hs ⟨r,hp,h1.1⟩) λi x hx=>?_
  obtain ⟨es,he,hj,pz⟩:=h6 i x hx
  exact ⟨es,he,hj,Cells.Cj (Nat.le_refl _) (λ_ _ _=>rfl) hA e es x pz⟩
theorem Ld.slice {D S:Nat->Prop} {R:Option Real} {e:Ty} {x:List e.den} {u:Value} (h:Ld w D R e x) (hv:Di R e.size 0 (List.length x) u) (hD: ∀k,S k->D k) (hg: ∀q,R=some q-> ¬S q.g):Cells w S (.slice e) [u] x:=by
 cases R with
 |none=>
  have hx:x= []:=h
  subst hx
  obtain ⟨rfl,_,_⟩:=hv
  exact ⟨none,0,0,rfl,rfl,Nat.le_refl _, .inl rfl⟩
 |some q=>
  obtain ⟨h1,cur,ti,h2,h3,h4,h5,h6⟩:=h
  obtain ⟨ad,rfl,g1,g2⟩:=hv
  refine ⟨some ad,List.length x,_,rfl,rfl,by omega,?_⟩
  rcases Nat.eq_zero_or_pos (List.length x) with hx|hx
  ·exact .inl (List.eq_nil_of_length_eq_zero hx)
  ·have AU:=g2 (by omega)
   subst AU
   refine .inr ⟨q.g,(q.o+0)*e.size,rfl,Cr h2,hg q rfl,λi y hy=>?_⟩
   obtain ⟨es,k1,k2,k3⟩:=h6 i y hy
   refine ⟨es,k1,λj u hu=>?_,Cells.Cj (Nat.le_refl _) (λ_ _ _=>rfl) (λk _ hk=>hD k hk) e es y k3⟩
   rw [cellOf h2,Nat.add_zero,<-Nat.add_mul]
   exact k2 j u hu
theorem fI {l off len:Nat} {v:Value} {e:Ty} {te:TypeId} {rows:List (List e.den)} {out:Option Nat} {kp:Option (Nat×Nat)} (h:Dk X w π H (.own l off len) v) (hl:Ad H l=some (.Ai e te rows out kp)):off+len<=rows.length/\Di (π l) 1 off len v:=by
 obtain ⟨b,sz,n,h1,h2,h3,h4⟩:=h
 rw [hl] at h1;cases h1
 simp only [OB.row,Option.some.injEq,Prod.mk.injEq] at h2
 obtain ⟨rfl,rfl⟩:=h2
 exact ⟨h3,h4⟩
theorem kG {l off len:Nat} {v:Value} {e:Ty} {te:TypeId} {rows:List (List e.den)} {kp:Option (Nat×Nat)} {S:Nat->Prop} (h:Hb X w π H) (hl:Ad H l=some (.Ai e te rows none kp))
  (hlen:off+len<=rows.length) (hv:Di (π l) 1 off len v)
  (hS: ∀k,S k->(∃r,π l=some r/\r.Ar k)->False) (hA: ∀k,S k->Ay X.w0.heap.size X.Sc π false k):Cells w S (.slice (.slice e)) [v] ((rows.drop off).take len):=by
 have hb:=(h.heap l).La hl
 simp only [Ao] at hb
 have hb:=hb.1
 cases hp:π l with
 |none=>
  rw [hp] at hb hv
  have hb:rows= []:=hb
  obtain ⟨rfl,rfl,rfl⟩:=hv
  exact ⟨none,0,0,rfl,by simp,Nat.le_refl _, .inl (by simp)⟩
 |some r=>
  rw [hp] at hb hv
  obtain ⟨h1,cur,ti,h2,h3,h4,h5,Rs,h6,h7,h8,h9⟩:=hb
  obtain ⟨ad,rfl,g1,g2⟩:=hv
  refine ⟨some ad,len,_,rfl,by simp;omega,by omega,?_⟩
  rcases Nat.eq_zero_or_pos len with hx|hx
  ·subst hx;exact .inl (by simp)
  ·have AU:=g2 (by omega)
   subst AU
   refine .inr ⟨r.g,(r.o+off)*1,rfl,Cr h2,λhs=>hS _ hs ⟨r,hp,h1⟩,λi x hx=>?_⟩
   have hx:((rows.drop off).take len)[i]?=some x:=hx
   rw [List.getElem?_take] at hx
   split at hx
   ·rw [List.getElem?_drop] at hx
    obtain ⟨u,R,k1,k2,k3,k4⟩:=h9 _ x hx (by simp)
    refine ⟨[u],rfl,λj u' ah=>?_,k4.slice k3 hA λq hq hs=>hS _ hs ⟨r,hp,(h7 _ q (by rw [k2,hq])).1⟩⟩
    rcases j with _|j
    ·simp only [List.getElem?_cons_zero,Option.some.injEq] at ah
     subst ah
     rw [cellOf h2,<-k1]
     congr 1
     simp only [Ty.size];omega
    ·simp at ah
   ·cases hx
theorem sn {l i c:Nat} {v:Value} {e:Ty} {te:TypeId} {rows:List (List e.den)} {out:Option Nat} {kp:Option (Nat×Nat)} (hv:Dk X w π H (.sub l i c) v) (hl:Ad H l=some (.Ai e te rows out kp)):rows[i]?=some (rows.getD i []):=by
 obtain ⟨r,b,sz,n,h1,h0,_,h3,_⟩:=hv
 rw [hl] at h1;cases h1
 simp only [OB.Zq,Option.some.injEq,Prod.mk.injEq] at h0
 obtain ⟨rfl,rfl⟩:=h0
 rw [List.getD_eq_getElem?_getD,List.getElem?_eq_getElem h3];rfl
theorem eZ {l i:Nat} {e:Ty} {te:TypeId} {rows:List (List e.den)} {out:Option Nat} {kp:Option (Nat×Nat)} {r:Real} (h:Hb X w π H) (hl:Ad H l=some (.Ai e te rows out kp)) (hp:π l=some r) (hi:i<rows.length) (ho:out≠some i):
  ∃u R,w.cell? ⟨r.g,r.o+i,none⟩=some u/\Di R e.size 0 (rows.getD i []).length u/\Ld w (Ay X.w0.heap.size X.Sc π false) R e (rows.getD i []):=by
 have hb:=(h.heap l).La hl
 simp only [Ao] at hb
 have hb:=hb.1
 rw [hp] at hb
 obtain ⟨h1,cur,ti,h2,h3,h4',h5',Rs,h6,h7,h8,h9⟩:=hb
 have hx:rows[i]?=some (rows.getD i []):=by rw [List.getD_eq_getElem?_getD,List.getElem?_eq_getElem hi];rfl
 obtain ⟨u,R,k1,k2,k3,k4⟩:=h9 _ _ hx ho
 exact ⟨u,R,by rw [cellOf h2];exact k1,k3,k4⟩
theorem Se {R:Option Real} {sz off len:Nat} {u:Value} (h:Di R sz off len u): ∃a n m,u= .slice a n m:=by
 cases R with
 |none=>exact ⟨_,_,_,h.1⟩
 |some q=>obtain ⟨ad,rfl,_⟩:=h;exact ⟨_,_,_,rfl⟩
theorem kH {l i c:Nat} {v:Value} {e:Ty} {te:TypeId} {rows:List (List e.den)} {kp:Option (Nat×Nat)} {x:List e.den} {S:Nat->Prop} (h:Hb X w π H) (hl:Ad H l=some (.Ai e te rows none kp)) (hx:rows[i]?=some x)
  (hv:Dk X w π H (.sub l i c) v)
  (hS: ∀k,S k->(∃r,π l=some r/\r.Ar k)->False) (hA: ∀k,S k->Ay X.w0.heap.size X.Sc π false k):Cells w S (.slice e) [v] x:=by
 obtain ⟨r,b,sz,n,h1,h0,hp,h3,⟨h4,_⟩,h5⟩:=hv
 rw [hl] at h1;cases h1
 simp only [OB.Zq,Option.some.injEq,Prod.mk.injEq] at h0
 obtain ⟨rfl,rfl⟩:=h0
 have hb:=(h.heap l).La hl
 simp only [Ao] at hb
 have hb:=hb.1
 rw [hp] at hb
 obtain ⟨h1,cur,ti,h2,h3,h4',h5',Rs,h6,h7,h8,h9⟩:=hb
 obtain ⟨u,R,k1,k2,k3,k4⟩:=h9 _ x hx (by simp)
 have:c=0:=by omega
 subst this
 rw [cellOf h2,Nat.mul_one,Nat.add_zero,k1] at h5
 have hv:=Option.some.inj h5
 subst hv
 exact k4.slice k3 hA λq hq hs=>hS _ hs ⟨r,hp,(h7 _ q (by rw [k2,hq])).1⟩
theorem er {l off len:Nat} {v:Value} {e:Ty} {tid:TypeId} {xs:List e.den} {S:Nat->Prop} (h:Hb X w π H) (hl:Ad H l=some (.Cu e tid xs))
  (hlen:off+len<=xs.length) (hv:Di (π l) e.size off len v)
  (hS: ∀k,S k->(∃r,π l=some r/\r.Ar k)->False):Cells w S (.slice e) [v] ((xs.drop off).take len):=by
 have hb:=(h.heap l).La hl
 simp only [Ao,Hs] at hb
 cases hp:π l with
 |none=>
  rw [hp] at hb hv
  obtain ⟨rfl,rfl,rfl⟩:=hv
  exact ⟨none,0,0,rfl,by simp,Nat.le_refl _, .inl (by simp)⟩
 |some r=>
  rw [hp] at hb hv
  obtain ⟨h1,cur,_,h2,h3,h4,h5,Fs,k1,k2,k3,k4⟩:=hb
  refine oF h2 hlen hv (λhs=>hS _ hs ⟨r,hp,h1⟩) λi x hx=>?_
  have hi:i<Fs.length:=by have:=(List.getElem?_eq_some_iff.1 hx).1;omega
  obtain ⟨es,he,hj,pz⟩:=k4 i x _ hx (List.getElem?_eq_getElem hi)
  exact ⟨es,he,hj,pz.cells _ _ _ _ λb hb hs=>hS b hs ⟨r,hp,k3 b (List.mem_flatten.2 ⟨_,List.getElem_mem hi,hb⟩)⟩⟩
theorem St.Kj (st:St) (l m:Nat) (fr:Bool) (e:Ty) (xs:List e.den) (h:m≠l):Ad (st.freeze l fr e xs).heap m=(Ad st.heap m).map (OB.map (At l fr e xs)):=by
 simp only [St.freeze,St.Fp]
 rw [Ho _ _ _ h,Io]
theorem St.Gl (st:St) (l:Nat) (fr:Bool) (e:Ty) (xs:List e.den):Ad (st.freeze l fr e xs).heap l=none:=by
 simp only [St.freeze,St.Fp]
 exact Gt _ _
theorem kh {l:Nat} {B:Nat} {Sc:Nat->Prop} {fr:Bool} {k:Nat} (hA:Ay B Sc (Oe π l none) fr k):Ay B Sc π fr k:=by
 rcases hA with ⟨m,r,hm,hg⟩|h2
 ·by_cases cA:m=l
  ·subst cA;rw [Ct] at hm;cases hm
  ·rw [Cs π none cA] at hm
   exact .inl ⟨m,r,hm,hg⟩
 ·exact .inr h2
theorem Hb.let (h:Hb X w π H) {l:Nat} {fr:Bool} (ss:fr=true-> ∀r,π l=some r-> ∀b,r.Ar b->X.w0.heap.size<=b) {k:Nat} (hS:Ay X.w0.heap.size X.Sc (Oe π l none) fr k) (hk: ∃r,π l=some r/\r.Ar k):False:=by
 obtain ⟨r,hr,vA⟩:=hk
 rcases hS with ⟨m,r',hm,hg⟩|hS|⟨hf,hS⟩
 ·by_cases cA:m=l
  ·subst cA;rw [Ct] at hm;cases hm
  ·rw [Cs π none cA] at hm
   exact cA (h.apart hm hr hg vA)
 ·have h1:=h.sc k hS
  rcases (h.own ⟨l,r,hr,vA⟩).2 with h2|h2
  ·omega
  ·exact h1.2 h2
 ·have:=ss hf r hr k vA;omega
theorem Move.xo {l:Nat} {f:AC->AC} (hf: ∀c v,Dk X w π H c v->(∀k∈c.refs,k≠l)->f c=c)
  (hl: ∀c v,Dk X w π H c v->l∈c.refs->Dk X w (Oe π l none) H' (f c) v)
  (hH: ∀m,m≠l->Ad H' m=(Ad H m).map (OB.map f)):Move X w w π (Oe π l none) H H' f:=by
 have hc: ∀Nj τ cs x,Cells w (Ay X.w0.heap.size X.Sc π Nj) τ cs x->Cells w (Ay X.w0.heap.size X.Sc (Oe π l none) Nj) τ cs x:=
  fun Nj τ cs x hh=>Cells.Cj (Nat.le_refl _) (λ_ _ _=>rfl) (λk _ hA=>kh hA) τ cs x hh
 refine ⟨λc v vg=>?_,hc⟩
 by_cases GD:l∈c.refs
 ·exact hl c v vg GD
 ·rw [hf c v vg λk hk e=>GD (e▸hk)]
  cases c with
  |data Nj τ x=>obtain ⟨cs,h1,h2⟩:=vg;exact ⟨cs,hc _ _ _ _ h1,h2⟩
  |own k off len=>
   have Lt:k≠l:= λe=>GD (by simp [AC.refs,e])
   obtain ⟨b,sz,n,h1,h0,h2,h3⟩:=vg
   exact ⟨b.map f,sz,n,by rw [hH k Lt,h1];rfl,by cases b<;>exact h0,h2,by rw [Cs π none Lt];exact h3⟩
  |Dj k i=>
   have Lt:k≠l:= λe=>GD (by simp [AC.refs,e])
   obtain ⟨r,Mp,vs,h1,h2,h3⟩:=vg
   exact ⟨r,Mp,vs.map f,by rw [hH k Lt,h1];rfl,by rw [Cs π none Lt];exact h2,h3⟩
  |Fc k i=>
   have Lt:k≠l:= λe=>GD (by simp [AC.refs,e])
   obtain ⟨r,b,sz,n,h1,h0,h2,h3,h4⟩:=vg
   exact ⟨r,b.map f,sz,n,by rw [hH k Lt,h1];rfl,by cases b<;>exact h0,h2,by rw [Cs π none Lt];exact h3,h4⟩
  |sub k i c=>
   have Lt:k≠l:= λe=>GD (by simp [AC.refs,e])
   obtain ⟨r,b,sz,n,h1,h0,h2,h3⟩:=vg
   exact ⟨r,b.map f,sz,n,by rw [hH k Lt,h1];rfl,by cases b<;>exact h0,by rw [Cs π none Lt];exact h2,h3⟩
  |Fa k i c=>
   have Lt:k≠l:= λe=>GD (by simp [AC.refs,e])
   obtain ⟨r,b,n,sz,g,o,len,cap,h1,h0,h2,h3⟩:=vg
   exact ⟨r,b.map f,n,sz,g,o,len,cap,by rw [hH k Lt,h1];rfl,by cases b<;>exact h0,by rw [Cs π none Lt];exact h2,h3⟩
  |clo g Bp=>
   obtain ⟨us,h1,h2,h3⟩:=vg
   refine ⟨us,h1,h2,λj p hp=>?_⟩
   obtain ⟨r,tid,vs,h4,h5,h6⟩:=h3 j p hp
   have cQ:p.1≠l:= λe=>GD (by simp only [AC.refs,List.mem_map];exact ⟨p,List.mem_of_getElem? hp,e⟩)
   exact ⟨r,tid,vs.map f,by rw [hH _ cQ,h4];rfl,by rw [Cs π none cQ];exact h5,h6⟩
  |Fq k=>
   have Lt:k≠l:= λe=>GD (by simp [AC.refs,e])
   obtain ⟨r,vt,m,h1,h2,h3⟩:=vg
   exact ⟨r,vt,m,by rw [hH k Lt,h1];rfl,by rw [Cs π none Lt];exact h2,h3⟩
  |_=>exact vg
theorem aF {l:Nat} {ls:List Nat} (h: ∀k∈ls,k≠l):ls.contains l=false:=by
 cases hc:ls.contains l with
 |false=>rfl
 |true=>exact absurd rfl (h l (by simpa using hc))
theorem aS {l:Nat} {fr:Bool} {e:Ty} {xs:List e.den} {c:AC} (h: ∀k∈c.refs,k≠l):At l fr e xs c=c:=by
 cases c<;>simp only [At]<;>first|rfl|skip
 case clo f Bp=>rw [if_neg (by rw [aF (show ∀k∈Bp.map (·.1),k≠l from h)];simp)]
 all_goals rw [if_neg (h _ (by simp [AC.refs]))]
theorem kE {l:Nat} {v:Ty} {m:ByteArray->Option v.den} {c:AC} (h: ∀k∈c.refs,k≠l):Cw l v m c=c:=by
 cases c<;>simp only [Cw]<;>first|rfl|skip
 case clo f Bp=>rw [if_neg (by rw [aF (show ∀k∈Bp.map (·.1),k≠l from h)];simp)]
 all_goals rw [if_neg (h _ (by simp [AC.refs]))]
theorem Move.freeze {l:Nat} {fr:Bool} {e:Ty} {xs:List e.den}
  (RI: ∀off len v,Dk X w π H (.own l off len) v->Cells w (Ay X.w0.heap.size X.Sc (Oe π l none) fr) (.slice e) [v] ((xs.drop off).take len))
  (hH: ∀m,m≠l->Ad H' m=(Ad H m).map (OB.map (At l fr e xs))):Move X w w π (Oe π l none) H H' (At l fr e xs):=by
 refine Move.xo (λc v _ h=>aS h) (λc v vg hr=>?_) hH
 cases c with
 |own k off len=>
  have:k=l:=(List.mem_singleton.1 hr).symm
  subst this
  simp only [At,if_pos]
  exact ⟨[v],RI off len v vg,by simp [Am,Ty.Ab]⟩
 |Dj k i=>have:k=l:=(List.mem_singleton.1 hr).symm
          subst this;simp only [At,if_pos];trivial
 |Fc k i=>have:k=l:=(List.mem_singleton.1 hr).symm
          subst this;simp only [At,if_pos];trivial
 |sub k i c=>have:k=l:=(List.mem_singleton.1 hr).symm
             subst this;simp only [At,if_pos];trivial
 |Fa k i c=>have:k=l:=(List.mem_singleton.1 hr).symm
            subst this;simp only [At,if_pos];trivial
 |Fq k=>have:k=l:=(List.mem_singleton.1 hr).symm
        subst this;simp only [At,if_pos];trivial
 |clo f Bp=>
  simp only [At]
  rw [if_pos (by simpa [AC.refs] using hr)];trivial
 |_=>simp [AC.refs] at hr
theorem Af.freeze {st:St} {a:Act} (h:Af X π st a w) {l:Nat} {fr:Bool} {e:Ty} {xs:List e.den}
  (hl:(∃tr tid,Ad st.heap l=some (.arr fr tr e tid xs))\/(fr=false/\ ∃tid,Ad st.heap l=some (.Cu e tid xs))):
  Af X (Oe π l none) (st.freeze l fr e xs) a w/\Move X w w π (Oe π l none) st.heap (st.freeze l fr e xs).heap (At l fr e xs):=by
 have m:Move X w w π (Oe π l none) st.heap (st.freeze l fr e xs).heap (At l fr e xs):=by
  refine Move.freeze (λoff len v hv=>?_) (λm hm=>St.Kj st l m fr e xs hm)
  rcases hl with ⟨tr,tid,hl⟩|⟨rfl,tid,hl⟩
  ·obtain ⟨h2,h3⟩:=Ij hv hl
   refine gP h.1 hl h2 h3 (λk hk=>?_) λk _ hk=>kh hk
   intro ⟨r,hr,vA⟩
   have hb:=(h.1.heap l).La hl
   simp only [Ao,Ew,hr] at hb
   by_cases LI:k=r.g
   ·subst LI
    rcases hk with ⟨m,r',hm,hg⟩|hS|⟨hf,hS⟩
    ·by_cases cA:m=l
     ·subst cA;rw [Ct] at hm;cases hm
     ·rw [Cs π none cA] at hm
      exact cA (h.1.apart hm hr hg vA)
    ·have h1:=h.1.sc _ hS
     rcases (h.1.own ⟨l,r,hr,vA⟩).2 with h2|h2
     ·omega
     ·exact h1.2 h2
    ·have:=hb.1.2.2 hf;omega
   ·exact absurd (hb.1.2.1 k vA) LI
  ·obtain ⟨h2,h3⟩:=Tv hv hl
   exact er h.1 hl h2 h3 λk hk hr=>h.1.let (λhf=>by cases hf) hk hr
 refine ⟨⟨h.1.drop l m (St.Gl st l fr e xs) λk e'=>St.Kj st l k fr e xs e',?_⟩,m⟩
 have hh:jV X w (Oe π l none) {tmps:=st.tmps.map (·.map (At l fr e xs)),heap:=(st.freeze l fr e xs).heap} a:=m.wo rfl h.2
 exact hh
theorem St.Jy (st:St) (l k:Nat) (v:Ty) (m:ByteArray->Option v.den) (h:k≠l):Ad (st.Eb l v m).heap k=(Ad st.heap k).map (OB.map (Cw l v m)):=by
 simp only [St.Eb,St.Fp]
 rw [Ho _ _ _ h,Io]
theorem St.Lh (st:St) (l:Nat) (v:Ty) (m:ByteArray->Option v.den):Ad (st.Eb l v m).heap l=none:=by
 simp only [St.Eb,St.Fp]
 exact Gt _ _
theorem oO {r:Option Real} {v:Ty} {m:ByteArray->Option v.den} {g:Nat} {S:Nat->Prop} (h:AF w r v m) (hg:r.map (·.g)=some g) (hS: ¬S g):Cells w S (.smap v) [.map (some g)] m:=by
 obtain ⟨r',h0,h1,h2,h3⟩:=h
 rw [h0] at hg
 simp only [Option.map_some,Option.some.injEq] at hg
 subst hg
 simp only [Cells] at h3⊢
 rcases h3 with ⟨h3,_⟩|⟨g,h3,hg,_,es,clock,h4,h5,h6,h7⟩
 ·simp at h3
 ·simp only [List.cons.injEq,Value.map.injEq,Option.some.injEq,and_true] at h3
  subst h3
  refine .inr ⟨r'.g,rfl,hg,hS,es,clock,h4,h5,h6,λs y hy=>?_⟩
  obtain ⟨u,h8,h9⟩:=h7 s y hy
  exact ⟨u,h8,Cells.flat v [u] y h2.1 h9⟩
theorem Af.Eb {st:St} {a:Act} (h:Af X π st a w) {l:Nat} {v:Ty} {m:ByteArray->Option v.den} (hl:Ad st.heap l=some (.Nd v m)):
  Af X (Oe π l none) (st.Eb l v m) a w/\Move X w w π (Oe π l none) st.heap (st.Eb l v m).heap (Cw l v m):=by
 have mv:Move X w w π (Oe π l none) st.heap (st.Eb l v m).heap (Cw l v m):=by
  refine Move.xo (λc u _ h=>kE h) (λc u vg hr=>?_) (λk hk=>St.Jy st l k v m hk)
  cases c with
  |Fq k=>
   have:k=l:=(List.mem_singleton.1 hr).symm
   subst this
   simp only [Cw,if_pos]
   obtain ⟨r,vt,m',h1,h2,rfl⟩:=vg
   exact ⟨[_],oO ((h.1.heap k).La hl) (by rw [h2];rfl) λhS=>h.1.let (λhf=>by cases hf) hS ⟨r,h2,h.1.Ar h2⟩,by simp [Am,Ty.Ab]⟩
  |own k off len=>have:k=l:=(List.mem_singleton.1 hr).symm
                  subst this;simp only [Cw,if_pos];trivial
  |Dj k i=>have:k=l:=(List.mem_singleton.1 hr).symm
           subst this;simp only [Cw,if_pos];trivial
  |Fc k i=>have:k=l:=(List.mem_singleton.1 hr).symm
           subst this;simp only [Cw,if_pos];trivial
  |sub k i c=>have:k=l:=(List.mem_singleton.1 hr).symm
              subst this;simp only [Cw,if_pos];trivial
  |Fa k i c=>have:k=l:=(List.mem_singleton.1 hr).symm
             subst this;simp only [Cw,if_pos];trivial
  |clo f Bp=>
   simp only [Cw]
   rw [if_pos (by simpa [AC.refs] using hr)];trivial
  |_=>simp [AC.refs] at hr
 refine ⟨⟨h.1.drop l mv (St.Lh st l v m) λk e'=>St.Jy st l k v m e',?_⟩,mv⟩
 have hh:jV X w (Oe π l none) {tmps:=st.tmps.map (·.map (Cw l v m)),heap:=(st.Eb l v m).heap} a:=mv.wo rfl h.2
 exact hh
def OB.fits:OB->OB->Prop
 | .arr _ _ e _ xs, .arr _ _ e' _ TV=>e=e'/\xs.length<=TV.length
 | .var _ _, .var _ _=>True
 | .Nd _ _, .Nd _ _=>True
 |_,_=>False
theorem Move.JX {tc:Nat->Prop} {π':Pi} (hs:w.heap.size<=w'.heap.size)
  (hk: ∀k,k<w.heap.size->(∀l r,tc l->π l=some r-> ¬r.Ar k)->w'.heap[k]?=w.heap[k]?)
  (hO: ∀b,b<w.heap.size->Nf π' b->Nf π b)
  (hH: ∀m,¬tc m->Ad H' m=Ad H m/\π' m=π m) (IJ: ∀m,tc m->Sy (π m) (π' m)/\ ∀b0,Ad H m=some b0-> ∃b,Ad H' m=some b/\b0.fits b)
  (hx: ∀m r,¬tc m->π m=some r->(∃b,Ad H m=some b/\b.Zq≠none)->r.g<w.heap.size->w'.heap[r.g]?=w.heap[r.g]?):Move X w w' π π' H H' (λc=>c):=by
 have hc: ∀fr τ cs x,Cells w (Ay X.w0.heap.size X.Sc π fr) τ cs x->Cells w' (Ay X.w0.heap.size X.Sc π' fr) τ cs x:=by
  intro fr τ cs x h
  exact Cells.Cj hs (λk ew hn=>hk k ew λl r _ h0 h1=>hn (.inl ⟨l,r,h0,h1⟩)) (λk Gu hA=>hA.imp (hO k Gu) id) τ cs x h
 have same: ∀m r,π m=some r-> ∃r',π' m=some r'/\r.g=r'.g/\r.o=r'.o/\r.cap=r'.cap:=by
  intro m r hm
  by_cases ht:tc m
  ·have:=(IJ m ht).1
   rw [hm] at this
   cases hp:π' m with
   |none=>rw [hp] at this;exact this.elim
   |some r'=>rw [hp] at this;exact ⟨r',rfl,this.1,this.2.1,this.2.2.1⟩
  ·exact ⟨r,by rw [(hH m ht).2];exact hm,rfl,rfl,rfl⟩
 have fit: ∀m b,Ad H m=some b-> ∃b',Ad H' m=some b'/\(b'=b\/b.fits b'):=by
  intro m b hm
  by_cases ht:tc m
  ·obtain ⟨b',h1,h2⟩:=(IJ m ht).2 b hm;exact ⟨b',h1, .inr h2⟩
  ·exact ⟨b,by rw [(hH m ht).1];exact hm, .inl rfl⟩
 refine ⟨λc v h=>?_,hc⟩
 cases c with
 |data fr τ x=>obtain ⟨cs,h1,h2⟩:=h;exact ⟨cs,hc _ _ _ _ h1,h2⟩
 |own k off len=>
  obtain ⟨b,sz,n,h1,h0,h2,h3⟩:=h
  have mn:Di (π' k) sz off len v:=by
   cases hp:π k with
   |none=>
    rw [hp] at h3
    have:π' k=none:=by
     by_cases ht:tc k
     ·have:=(IJ k ht).1
      rw [hp] at this
      cases xC:π' k with
      |none=>rfl
      |some r'=>rw [xC] at this;exact this.elim
     ·rw [(hH k ht).2];exact hp
    rw [this];exact h3
   |some r=>
    rw [hp] at h3
    obtain ⟨r',h4,h5,h6,h7⟩:=same k r hp
    rw [h4]
    unfold Di at h3⊢
    simp only at h3⊢
    rw [<-h5,<-h6,<-h7]
    exact h3
  obtain ⟨b',h4,h5⟩:=fit k b h1
  rcases h5 with rfl|h5
  ·exact ⟨_,sz,n,h4,h0,h2,mn⟩
  ·cases b<;>cases b'<;>first|exact h5.elim|(simp [OB.row] at h0;done)|skip
   ·obtain ⟨rfl,hlen⟩:=h5
    simp only [OB.row,Option.some.injEq,Prod.mk.injEq] at h0
    obtain ⟨rfl,rfl⟩:=h0
    exact ⟨_,_,_,h4,rfl,by omega,mn⟩
 |Dj k i=>
  obtain ⟨r,tid,vs,h1,h2,h3⟩:=h
  obtain ⟨r',h4,h5,_⟩:=same k r h2
  obtain ⟨b',h6,h7⟩:=fit k _ h1
  rcases h7 with rfl|h7
  ·exact ⟨r',tid,vs,h6,h4,by rw [<-h5];exact h3⟩
  ·cases b'<;>first|exact h7.elim|exact ⟨r',_,_,h6,h4,by rw [<-h5];exact h3⟩
 |Fc k i=>
  obtain ⟨r,b,sz,n,h1,h0,h2,h3,h4⟩:=h
  obtain ⟨r',h5,h6,h7,_⟩:=same k r h3
  obtain ⟨b',h8,h9⟩:=fit k _ h1
  rcases h9 with rfl|h9
  ·exact ⟨r',_,sz,n,h8,h0,h2,h5,by rw [<-h6,<-h7];exact h4⟩
  ·cases b<;>cases b'<;>first|exact h9.elim|(simp [OB.row] at h0;done)|skip
   obtain ⟨rfl,hlen⟩:=h9
   simp only [OB.row,Option.some.injEq,Prod.mk.injEq] at h0
   obtain ⟨rfl,rfl⟩:=h0
   exact ⟨r',_,_,_,h8,rfl,by omega,h5,by rw [<-h6,<-h7];exact h4⟩
 |sub k i c=>
  obtain ⟨r,b,sz,n,h1,h0,h2,h3,h4,h5⟩:=h
  by_cases ht:tc k
  ·obtain ⟨b',h6,h7⟩:=(IJ k ht).2 _ h1
   cases b<;>first|(cases h0;done)|skip
   all_goals (cases b'<;>exact h7.elim)
  ·exact ⟨r,b,sz,n,by rw [(hH k ht).1];exact h1,h0,by rw [(hH k ht).2];exact h2,h3,h4,by rw [World.cell?_of_block (hx k r ht h2 ⟨b,h1,by rw [h0];simp⟩ (Ug h5))];exact h5⟩
 |Fa k i c=>
  obtain ⟨r,b,n,sz,g,o,len,cap,h1,h0,h2,h3,h4,h5,h6⟩:=h
  by_cases ht:tc k
  ·obtain ⟨b',h6,h7⟩:=(IJ k ht).2 _ h1
   cases b<;>first|(cases h0;done)|skip
   all_goals (cases b'<;>exact h7.elim)
  ·exact ⟨r,b,n,sz,g,o,len,cap,by rw [(hH k ht).1];exact h1,h0,by rw [(hH k ht).2];exact h2,h3,h4,by rw [World.cell?_of_block (hx k r ht h2 ⟨b,h1,by cases b<;>first|(cases h0;done)|simp [OB.Zq]⟩ (Ug h5))];exact h5,h6⟩
 |clo f Bp=>
  obtain ⟨us,h1,h2,h3⟩:=h
  refine ⟨us,h1,h2,λj p hp=>?_⟩
  obtain ⟨r,tid,vs,h4,h5,h6⟩:=h3 j p hp
  obtain ⟨r',h7,h8,_⟩:=same _ r h5
  obtain ⟨b',h9,iH⟩:=fit _ _ h4
  rcases iH with rfl|iH
  ·exact ⟨r',tid,vs,h9,h7,by rw [<-h8];exact h6⟩
  ·cases b'<;>first|exact iH.elim|exact ⟨r',_,_,h9,h7,by rw [<-h8];exact h6⟩
 |Fq k=>
  obtain ⟨r,vt,m,h1,h2,h3⟩:=h
  obtain ⟨r',h4,h5,_⟩:=same k r h2
  obtain ⟨b',h6,h7⟩:=fit k _ h1
  rcases h7 with rfl|h7
  ·exact ⟨r',vt,m,h6,h4,by rw [<-h5];exact h3⟩
  ·cases b'<;>first|exact h7.elim|exact ⟨r',_,_,h6,h4,by rw [<-h5];exact h3⟩
 |_=>exact h
def Real.plus (r:Real) (N:List Nat):Real:= {r with cl:= λc=>r.cl c\/c∈N}
theorem Af.ZV {st:St} {a:Act} (h:Af X π st a w) {l:Nat} {b0 b:OB} (hl:Ad st.heap l=some b0) (hf:b0.fits b) {r:Real} (hr:π l=some r) {N:List Nat}
  (hN: ∀c∈N,(X.w0.heap.size<=c\/X.gv c)/\c<w.heap.size/\ ∀m r0,m≠l->π m=some r0-> ¬r0.cl c) (hg:w.grownBy w' (some r.g))
  (hb:Move X w w' π (Oe π l (some (r.plus N))) st.heap (st.Ff l b).heap (λc=>c)->Ao X w' (Oe π l (some (r.plus N))) (st.Ff l b).heap (some (r.plus N)) b):Af X (Oe π l (some (r.plus N))) (st.Ff l b) a w':=by
 have hk: ∀k,k<w.heap.size-> ¬r.Ar k->w'.heap[k]?=w.heap[k]?:= λk hk hn=>hg.block k hk (by
  intro e
  simp only [Option.some.injEq] at e
  exact hn (e▸h.1.Ar hr))
 have mo: ∀k q,Oe π l (some (r.plus N)) k=some q-> ∃q0,π k=some q0/\(q=q0\/(k=l/\q0=r/\q=r.plus N)):= λk q hq=>by
  by_cases e:k=l
  ·subst e;rw [Ct] at hq;exact ⟨r,hr, .inr ⟨rfl,rfl,(Option.some.inj hq).symm⟩⟩
  ·rw [Cs π _ e] at hq;exact ⟨q,hq, .inl rfl⟩
 have VV: ∀k q q0 c,(q=q0\/(k=l/\q0=r/\q=r.plus N))->q.cl c->q0.cl c\/(k=l/\c∈N):= λk q q0 c h1 h2=>by
  rcases h1 with rfl|⟨rfl,rfl,rfl⟩
  ·exact .inl h2
  ·rcases h2 with h2|h2
   ·exact .inl h2
   ·exact .inr ⟨rfl,h2⟩
 have ft: ∀k q q0 c,(q=q0\/(k=l/\q0=r/\q=r.plus N))->(q.Ar c↔q0.Ar c):= λk q q0 c h1=>by
  rcases h1 with rfl|⟨rfl,rfl,rfl⟩<;>exact Iff.rfl
 have m:Move X w w' π (Oe π l (some (r.plus N))) st.heap (st.Ff l b).heap (λc=>c):=Move.JX (tc:= λk=>k=l) hg.size (λk Gu hn=>hk k Gu (hn l r rfl hr)) (λc _ ⟨k,q,h1,h2⟩=>by
   obtain ⟨q0,h3,h4⟩:=mo k q h1
   exact ⟨k,q0,h3,(ft k q q0 c h4).1 h2⟩)
  (λm hm=>⟨Cc _ _ _ _ hm,Cs π _ hm⟩) (λm hm=>by subst hm;exact ⟨by rw [hr,Ct];exact ⟨rfl,rfl,rfl,λ_=>Iff.rfl⟩,λb1 h1=>by rw [hl] at h1;cases h1;exact ⟨b,Ch _ _ _ _ hl,hf⟩⟩)
  (λm r' hm h1 _ Gu=>hk _ Gu λh3=>hm (h.1.apart h1 hr (h.1.Ar h1) h3))
 refine ⟨⟨?_,h.1.sc,λk q c h1 h2=>?_,λk q c h1 h2=>?_,λk k' q q' c h1 h2 h3 h4=>?_,λk hp Ev=>?_,λk=>?_⟩,?_⟩
 ·exact h.1.below.grown hg h.1.below.size λk hk=>by cases hk;exact (h.1.lt hr).2
 ·obtain ⟨q0,h3,h4⟩:=mo k q h1
  have:=h.1.sub k q0 c h3 ((ft k q q0 c h4).1 h2)
  rcases h4 with rfl|⟨rfl,rfl,rfl⟩
  ·exact this
  ·exact .inl this
 ·obtain ⟨q0,h3,h4⟩:=mo k q h1
  rcases VV k q q0 c h4 h2 with h5|⟨_,h5⟩
  ·exact ⟨(h.1.place k q0 c h3 h5).1,Nat.lt_of_lt_of_le (h.1.place k q0 c h3 h5).2 hg.size⟩
  ·exact ⟨(hN c h5).1,Nat.lt_of_lt_of_le (hN c h5).2.1 hg.size⟩
 ·obtain ⟨q0,g1,g2⟩:=mo k q h1
  obtain ⟨NC,g3,g4⟩:=mo k' q' h2
  rcases VV k q q0 c g2 h3 with h5|⟨h5,h6⟩<;>rcases VV k' q' NC c g4 h4 with h7|⟨h7,h8⟩
  ·exact h.1.inj k k' q0 NC c g1 g3 h5 h7
  ·refine Classical.byContradiction λhn=>(hN c h8).2.2 k q0 (λe=>hn (e.trans h7.symm)) g1 h5
  ·refine Classical.byContradiction λhn=>(hN c h6).2.2 k' NC (λe=>hn (h5.trans e.symm)) g3 h7
  ·rw [h5,h7]
 ·by_cases e:k=l
  ·subst e
   have:=h.1.bk k hp (by rw [hl];simp)
   rw [hr] at this
   rw [Ct]
   cases hx:X.bk k with
   |none=>rw [hx] at this;exact this.elim
   |some q=>rw [hx] at this;exact this
  ·rw [Cs π _ e]
   exact h.1.bk k hp λh0=>Ev (by rw [show Ad (st.Ff l b).heap k=Ad st.heap k from Cc _ _ _ _ e];exact h0)
 ·by_cases e:k=l
  ·subst e
   exact Cv.Hq (by rw [Ct];exact hb m) (Ch _ _ _ _ hl)
  ·have hn:Ad (st.Ff l b).heap k=Ad st.heap k:=Cc _ _ _ _ e
   have ho:=h.1.heap k
   cases fe:Ad st.heap k with
   |none=>rw [fe] at hn;exact Cv.Nr (by rw [Cs π _ e];exact ho.emp fe) hn
   |some c=>
    rw [fe] at hn
    refine Cv.Hq ?_ hn
    rw [Cs π _ e]
    have:=(ho.La fe).move m hg.size (λr0 c h0 h1=>h.1.sub _ r0 c h0 h1) λr0 c h0 h1 Gu=>hk _ Gu λh3=>e (h.1.inj _ _ r0 r c h0 hr h1 (h.1.sub _ _ _ hr h3))
    cases c with
    |var tid vs=>simpa [OB.map] using this
    |_=>exact this
 ·exact ⟨h.2.size,h.2.defers,λt=>by have:=m.av (h.2.tmps t);rwa [AC.map_id] at this⟩
theorem Af.set {st:St} {a:Act} (h:Af X π st a w) {l:Nat} {b0 b:OB} (hl:Ad st.heap l=some b0) (hf:b0.fits b)
  (hg:w.grownBy w' ((π l).map (·.g)))
  (hb:Move X w w' π π st.heap (st.Ff l b).heap (λc=>c)->Ao X w' π (st.Ff l b).heap (π l) b):Af X π (st.Ff l b) a w':=by
 have hk: ∀k,k<w.heap.size->(∀r,π l=some r-> ¬r.Ar k)->w'.heap[k]?=w.heap[k]?:= λk hk hn=>hg.block k hk (by
  intro e
  cases hp:π l with
  |none=>rw [hp] at e;cases e
  |some r=>rw [hp] at e;simp only [Option.map_some,Option.some.injEq] at e;exact hn r hp (e▸h.1.Ar hp))
 have m:Move X w w' π π st.heap (st.Ff l b).heap (λc=>c):=Move.JX (tc:= λk=>k=l) hg.size (λk Gu hn=>hk k Gu λr hr=>hn l r rfl hr) (λ_ _ h=>h)
  (λm hm=>⟨Cc _ _ _ _ hm,rfl⟩) (λm hm=>by subst hm;exact ⟨Sy.rfl' _,λb1 h1=>by rw [hl] at h1;cases h1;exact ⟨b,Ch _ _ _ _ hl,hf⟩⟩)
  (λm r hm h1 _ Gu=>hk _ Gu λr1 h2 h3=>hm (h.1.apart h1 h2 (h.1.Ar h1) h3))
 refine ⟨⟨?_,h.1.sc,h.1.sub,λk r c h1 h2=>⟨(h.1.place k r c h1 h2).1,Nat.lt_of_lt_of_le (h.1.place k r c h1 h2).2 hg.size⟩,h.1.inj,λk hp Ev=>h.1.bk k hp λh0=>Ev ?_,λk=>?_⟩,?_⟩
 ·refine h.1.below.grown hg h.1.below.size λk hk=>?_
  cases hp:π l with
  |none=>rw [hp] at hk;cases hk
  |some r=>rw [hp] at hk;simp only [Option.map_some,Option.some.injEq] at hk;rw [<-hk];exact (h.1.lt hp).2
 ·have:k≠l:= λe=>by subst e;rw [hl] at h0;cases h0
  rw [show Ad (st.Ff l b).heap k=Ad st.heap k from Cc _ _ _ _ this];exact h0
 ·by_cases e:k=l
  ·subst e
   exact Cv.Hq (hb m) (Ch _ _ _ _ hl)
  ·have hn:Ad (st.Ff l b).heap k=Ad st.heap k:=Cc _ _ _ _ e
   have ho:=h.1.heap k
   cases fe:Ad st.heap k with
   |none=>rw [fe] at hn;exact Cv.Nr (ho.emp fe) hn
   |some c=>
    rw [fe] at hn
    refine Cv.Hq ?_ hn
    have:=(ho.La fe).move m hg.size (λr0 c h0 h1=>h.1.sub _ r0 c h0 h1) λr0 c h0 h1 Gu=>hk _ Gu λr1 h2 h3=>e (h.1.inj _ _ r0 r1 c h0 h2 h1 (h.1.sub _ _ _ h2 h3))
    cases c with
    |var tid vs=>simpa [OB.map] using this
    |_=>exact this
 ·exact ⟨h.2.size,h.2.defers,λt=>by have:=m.av (h.2.tmps t);rwa [AC.map_id] at this⟩
end
end Go.Proofs.Ytjbdmibbbpdnnaa
