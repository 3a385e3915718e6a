/-
  Part 5 of the proof that the statement FnExactIterationNodes holds.
-/
import Derived.Test.YtfolipnappekaaaGreatCIterationNodes03
namespace Go.Proofs.YtfolipnappekaaaGreat
open Go.RowKit
def Xa (π:Pi) (l:Nat) (r:Option Real):Pi:= λk=>if k=l then r else π k
theorem Gj (π:Pi) (l:Nat) (r:Option Real):Xa π l r l=r:=by simp [Xa]
theorem Gg (π:Pi) {l m:Nat} (r:Option Real) (h:m≠l):Xa π l r m=π m:=by simp [Xa,h]
section
variable {X:Ctx} {w w':World} {π:Pi} {H H':List (Nat×OB)}
def Cj (X:Ctx) (w:World) (π:Pi) (H:List (Nat×OB)) (r:Option Real):OB->Prop
 | .arr fr tr e tid xs=>Jw X w π r fr tr e tid xs
 | .Gu e tid xs=>Ny w r e tid xs
 | .var tid vs=>Agm X w π H r tid vs
 | .Bm e _ rows out kp=>ig X w π r e rows out kp
 | .Vv v m=>ZD w r v m
theorem Ge.Qm {l:Nat} {b:OB} (h:Ge X w π H l) (hb:Au H l=some b):Cj X w π H (π l) b:=by
 unfold Ge at h
 rw [hb] at h
 cases b<;>exact h
theorem Ge.Lj {l:Nat} {b:OB} (h:Cj X w π H (π l) b) (hb:Au H l=some b):Ge X w π H l:=by
 unfold Ge
 rw [hb]
 cases b<;>exact h
theorem Ge.Uj {l:Nat} (h:π l=none) (hb:Au H l=none):Ge X w π H l:=by
 unfold Ge;rw [hb];exact h
theorem Ge.emp {l:Nat} (h:Ge X w π H l) (hb:Au H l=none):π l=none:=by
 unfold Ge at h;rw [hb] at h;exact h
theorem Cj.move {f:AC->AC} {π':Pi} (m:Move X w w' π π' H H' f) {r:Option Real} {b:OB} (h:Cj X w π H r b) (hs:w.heap.size<=w'.heap.size)
  (Qa: ∀r' c,r=some r'->r'.Cu c->r'.cl c) (hk: ∀r' c,r=some r'->r'.cl c->c<w.heap.size->w'.heap[c]?=w.heap[c]?):
  Cj X w' π' H' r (b.map f):=by
 cases b with
 |arr fr tr e tid xs=>
  simp only [Cj,Jw,OB.map] at h⊢
  cases hr:r with
  |none=>rw [hr] at h;exact h
  |some r=>
   rw [hr] at h
   obtain ⟨h1,cur,ti,h2,h3,h4,h5,h6,h7⟩:=h
   refine ⟨h1,cur,ti,(hk r _ hr (Qa r _ hr h1.1) (Fk h2)).trans h2,h3,h4,h5,λi x hx=>?_,λht=>(h7 ht).Ex hs (λc _ It hc=>hk r c hr hc It) λ_ hb=>hb⟩
   obtain ⟨es,he,hj,hc⟩:=h6 i x hx
   exact ⟨es,he,hj,m.cells _ _ _ _ hc⟩
 |Gu e tid xs=>
  simp only [Cj,Ny,OB.map] at h⊢
  cases hr:r with
  |none=>rw [hr] at h;exact h
  |some r=>
   rw [hr] at h
   obtain ⟨h1,cur,ti,h2,h3,h4,h5,h7⟩:=h
   exact ⟨h1,cur,ti,(hk r _ hr (Qa r _ hr h1) (Fk h2)).trans h2,h3,h4,h5,h7.Ex hs (λc _ It hc=>hk r c hr (Qa r c hr hc) It) λ_ hb=>hb⟩
 |var tid vs=>
  obtain ⟨r',h0,h1,cur,h2,h3⟩:=h
  exact ⟨r',h0,h1,cur,(hk r' _ h0 (Qa r' _ h0 h1) (Fk h2)).trans h2,m.acs h3⟩
 |Bm e te rows out kp=>exact ig.Ex h (λq b hq hf It=>hk q b hq (Qa q b hq hf) It) (λes x=>m.cells false e es x)
 |Vv v g=>
  obtain ⟨r',h0,h1,h2,h3⟩:=h
  refine ⟨r',h0,h1,h2,?_⟩
  simp only [Cells] at h3⊢
  rcases h3 with ⟨h3,_⟩|⟨g,h3,hg,_,es,clock,h4,h5,h6,h7⟩
  ·simp at h3
  ·simp only [Gc,Value.map.injEq,Aa,Ol] at h3
   subst h3
   refine .inr ⟨r'.g,rfl,by omega,λh=>h,es,clock,(hk r' _ h0 (Qa r' _ h0 h1) hg).trans h4,h5,h6,λs y hy=>?_⟩
   obtain ⟨u,h8,h9⟩:=h7 s y hy
   exact ⟨u,h8,Cells.flat v [u] y h2.1 h9⟩
theorem Move.forget {l:Nat} {r':Option Real} (hs:w.heap.size<=w'.heap.size)
  (hk: ∀k,k<w.heap.size->(∀r,π l=some r-> ¬r.Cu k)->w'.heap[k]?=w.heap[k]?)
  (hr: ∀r b,r'=some r->r.Cu b->(∃r0,π l=some r0/\r0.Cu b)\/w.heap.size<=b)
  (hH: ∀m,m≠l->Au H' m=(Au H m).map (OB.map (Cr l)))
  (hx: ∀m r,m≠l->π m=some r->(∃b,Au H m=some b/\b.gz≠none)->r.g<w.heap.size->w'.heap[r.g]?=w.heap[r.g]?):Move X w w' π (Xa π l r') H H' (Cr l):=by
 have hc: ∀fr τ cs x,Cells w (Dc X.w0.heap.size X.Sc π fr) τ cs x->Cells w' (Dc X.w0.heap.size X.Sc (Xa π l r') fr) τ cs x:=by
  intro fr τ cs x h
  refine Cells.Ex hs (λk uk hn=>hk k uk λr h0 h1=>hn (.inl ⟨l,r,h0,h1⟩)) (λk uk hA=>?_) τ cs x h
  rcases hA with ⟨m,r,hm,hg⟩|h2
  ·by_cases kS:m=l
   ·subst kS
    rw [Gj] at hm
    rcases hr r k hm hg with ⟨r0,h0,h1⟩|h1
    ·exact .inl ⟨m,r0,h0,h1⟩
    ·omega
   ·rw [Gg π r' kS] at hm
    exact .inl ⟨m,r,hm,hg⟩
  ·exact .inr h2
 refine ⟨λc v h=>?_,hc⟩
 cases c with
 |data fr τ x=>obtain ⟨cs,h1,h2⟩:=h;exact ⟨cs,hc _ _ _ _ h1,h2⟩
 |own k off len=>
  simp only [Cr]
  split
  ·trivial
  ·rename_i Se
   obtain ⟨b,sz,n,h1,h0,h2,h3⟩:=h
   exact ⟨b.map (Cr l),sz,n,by rw [hH k Se,h1];rfl,by cases b<;>exact h0,h2,by rw [Gg π r' Se];exact h3⟩
 |Hj k i=>
  simp only [Cr]
  split
  ·trivial
  ·rename_i Se
   obtain ⟨r,tid,vs,h1,h2,h3⟩:=h
   exact ⟨r,tid,vs.map (Cr l),by rw [hH k Se,h1];rfl,by rw [Gg π r' Se];exact h2,h3⟩
 |Jz k i=>
  simp only [Cr]
  split
  ·trivial
  ·rename_i Se
   obtain ⟨r,b,sz,n,h1,h0,h2,h3,h4⟩:=h
   exact ⟨r,b.map (Cr l),sz,n,by rw [hH k Se,h1];rfl,by cases b<;>exact h0,h2,by rw [Gg π r' Se];exact h3,h4⟩
 |sub k i c=>
  simp only [Cr]
  split
  ·trivial
  ·rename_i Se
   obtain ⟨r,b,sz,n,h1,h0,h2,h3,h4,h5⟩:=h
   exact ⟨r,b.map (Cr l),sz,n,by rw [hH k Se,h1];rfl,by cases b<;>exact h0,by rw [Gg π r' Se];exact h2,h3,h4,by rw [World.cell?_of_block (hx k r Se h2 ⟨b,h1,by rw [h0];simp⟩ (cJ h5))];exact h5⟩
 |Jv k i c=>
  simp only [Cr]
  split
  ·trivial
  ·rename_i Se
   obtain ⟨r,b,n,sz,g,o,len,cap,h1,h0,h2,h3,h4,h5,h6⟩:=h
   exact ⟨r,b.map (Cr l),n,sz,g,o,len,cap,by rw [hH k Se,h1];rfl,by cases b<;>exact h0,by rw [Gg π r' Se];exact h2,h3,h4,by rw [World.cell?_of_block (hx k r Se h2 ⟨b,h1,by cases b<;>first|(cases h0;done)|simp [OB.gz]⟩ (cJ h5))];exact h5,h6⟩
 |clo f Ee=>
  simp only [Cr]
  split
  ·trivial
  ·rename_i Se
   obtain ⟨us,h1,h2,h3⟩:=h
   refine ⟨us,h1,h2,λj p hp=>?_⟩
   obtain ⟨r,tid,vs,h4,h5,h6⟩:=h3 j p hp
   have km:p.1≠l:= λe=>Se (by simp only [Jk,Bj];exact ⟨p,Bs hp,e⟩)
   exact ⟨r,tid,vs.map (Cr l),by rw [hH _ km,h4];rfl,by rw [Gg π r' km];exact h5,h6⟩
 |Kh k=>
  simp only [Cr]
  split
  ·trivial
  ·rename_i Se
   obtain ⟨r,vt,m,h1,h2,h3⟩:=h
   exact ⟨r,vt,m,by rw [hH k Se,h1];rfl,by rw [Gg π r' Se];exact h2,h3⟩
 |_=>exact h
theorem St.ae (st:St) (l m:Nat) (b:OB) (h:m≠l):Au (st.new l b).heap m=(Au st.heap m).map (OB.map (Cr l)):=by
 simp only [St.new,St.forget,St.Ks]
 rw [Pk _ _ _ _ h,Nt _ _ _ h,Ox]
theorem St.Gw (st:St) (l:Nat) (b:OB):Au (st.new l b).heap l=some b:=by
 simp only [St.new,St.forget,St.Ks]
 exact Qn _ _ _ (Ml _ _)
theorem St.iR (st:St) (l m:Nat) (h:m≠l):Au (st.forget l).heap m=(Au st.heap m).map (OB.map (Cr l)):=by
 simp only [St.forget,St.Ks]
 rw [Nt _ _ _ h,Ox]
theorem St.py (st:St) (l:Nat):Au (st.forget l).heap l=none:=by
 simp only [St.forget,St.Ks]
 exact Ml _ _
theorem Bl.jq {st:St} {a:Act} (h:Bl X π st a w) (l:Nat) (hl:l<Bn) (r':Option Real) (b:OB)
  (hg:w.grownBy w' ((π l).map (·.g)))
  (hf: ∀r b,r'=some r->r.Cu b->r.cl b/\((∃r0,π l=some r0/\r0.Cu b)\/w.heap.size<=b))
  (hr: ∀r b,r'=some r->r.cl b->(X.w0.heap.size<=b\/X.gv b)/\b<w'.heap.size/\ ∀m r0,m≠l->π m=some r0-> ¬r0.cl b)
  (hb:Move X w w' π (Xa π l r') st.heap (st.new l b).heap (Cr l)->Cj X w' (Xa π l r') (st.new l b).heap r' b):Bl X (Xa π l r') (st.new l b) a w':=by
 have hk: ∀k,k<w.heap.size->(∀r,π l=some r-> ¬r.Cu k)->w'.heap[k]?=w.heap[k]?:= λk hk hn=>hg.block k hk (by
  intro e
  cases hp:π l with
  |none=>rw [hp] at e;cases e
  |some r=>rw [hp] at e;simp only [Am,Aa] at e;exact hn r hp (e▸h.1.Cu hp))
 have m:Move X w w' π (Xa π l r') st.heap (st.new l b).heap (Cr l):=Move.forget hg.size hk (λr c h1 h2=>(hf r c h1 h2).2) (λm hm=>St.ae st l m b hm)
  (λm r hm h1 _ It=>hk _ It λr1 h2 h3=>hm (h.1.apart h1 h2 (h.1.Cu h1) h3))
 refine ⟨⟨?_,h.1.sc,?_,?_,?_,?_,λk=>?_⟩,?_⟩
 ·refine h.1.below.grown hg h.1.below.size λk hk=>?_
  cases hp:π l with
  |none=>rw [hp] at hk;cases hk
  |some r=>rw [hp] at hk;simp only [Am,Aa] at hk;rw [<-hk];exact (h.1.lt hp).2
 ·intro k r c h1 h2
  by_cases e1:k=l
  ·subst e1;rw [Gj] at h1;exact (hf r c h1 h2).1
  ·rw [Gg π r' e1] at h1;exact h.1.sub k r c h1 h2
 ·intro k r c h1 h2
  by_cases e1:k=l
  ·subst e1;rw [Gj] at h1;have:=hr r c h1 h2;exact ⟨this.1,this.2.1⟩
  ·rw [Gg π r' e1] at h1;have:=h.1.place k r c h1 h2;exact ⟨this.1,Di this.2 hg.size⟩
 ·intro l1 l2 r1 r2 c h1 h2 h3 h4
  by_cases e1:l1=l<;>by_cases e2:l2=l
  ·rw [e1,e2]
  ·subst e1
   rw [Gj] at h1;rw [Gg π r' e2] at h2
   exact absurd h4 ((hr r1 c h1 h3).2.2 l2 r2 e2 h2)
  ·subst e2
   rw [Gj] at h2;rw [Gg π r' e1] at h1
   exact absurd h3 ((hr r2 c h2 h4).2.2 l1 r1 e1 h1)
  ·rw [Gg π r' e1] at h1;rw [Gg π r' e2] at h2
   exact h.1.inj _ _ r1 r2 c h1 h2 h3 h4
 ·intro k hpk Ik
  have e:k≠l:= λe=>by subst e;omega
  rw [St.ae st l k b e] at Ik
  rw [Gg π r' e]
  exact h.1.ia k hpk λh0=>Ik (by rw [h0];rfl)
 ·by_cases e:k=l
  ·subst e
   exact Ge.Lj (by rw [Gj];exact hb m) (St.Gw st k b)
  ·have hn:=St.ae st l k b e
   have ho:=h.1.heap k
   cases ki:Au st.heap k with
   |none=>rw [ki] at hn;exact Ge.Uj (by rw [Gg π r' e];exact ho.emp ki) hn
   |some c=>
    rw [ki] at hn
    refine Ge.Lj ?_ hn
    rw [Gg π r' e]
    exact (ho.Qm ki).move m hg.size (λr0 c h0 h1=>h.1.sub _ r0 c h0 h1) λr0 c h0 h1 It=>hk _ It λr1 h2 h3=>e (h.1.inj _ _ r0 r1 c h0 h2 h1 (h.1.sub _ _ _ h2 h3))
 ·have hh:tn X w' (Xa π l r') {tmps:=st.tmps.map (·.map (Cr l)),heap:=(st.new l b).heap} a:=m.PK rfl h.2
  exact hh
def Real.one (g o cap:Nat):Real:=⟨g,o,cap,λb=>b=g,λb=>b=g⟩
theorem Bl.replace {st:St} {a:Act} (h:Bl X π st a w) (l:Nat) (hl:l<Bn) (r':Option Real) (b:OB)
  (hg:w.grownBy w' ((π l).map (·.g)))
  (hr: ∀r,r'=some r->r=Real.one r.g r.o r.cap/\((∃r0,π l=some r0/\r0.g=r.g)\/w.heap.size<=r.g)/\r.g<w'.heap.size)
  (hb:Move X w w' π (Xa π l r') st.heap (st.new l b).heap (Cr l)->Cj X w' (Xa π l r') (st.new l b).heap r' b):Bl X (Xa π l r') (st.new l b) a w':=by
 refine h.jq l hl r' b hg (λr c h1 h2=>?_) (λr c h1 h2=>?_) hb
 ·obtain ⟨h3,h4,_⟩:=hr r h1
  have h2':c=r.g:=by rw [h3] at h2;exact h2
  subst h2'
  refine ⟨by rw [h3];rfl,h4.imp (λ⟨r0,h5,h6⟩=>⟨r0,h5,h6▸h.1.Cu h5⟩) id⟩
 ·obtain ⟨h3,h4,h5⟩:=hr r h1
  have h2':c=r.g:=by rw [h3] at h2;exact h2
  subst h2'
  refine ⟨?_,h5,λm r0 hm h6 h7=>?_⟩
  ·rcases h4 with ⟨r0,h6,h7⟩|h6
   ·rw [<-h7];exact (h.1.lt h6).2
   ·exact .inl (Ix h.1.below.size h6)
  ·rcases h4 with ⟨r1,h8,h9⟩|h8
   ·exact hm (h.1.inj m l r0 r1 r.g h6 h8 h7 (h9▸h.1.sub l r1 _ h8 (h.1.Cu h8)))
   ·have:=(h.1.place m r0 _ h6 h7).2;omega
theorem Mx.drop (h:Mx X w π H) {f:AC->AC} (l:Nat) (m:Move X w w π (Xa π l none) H H' f) (h0:Au H' l=none) (hH: ∀k,k≠l->Au H' k=(Au H k).map (OB.map f)):Mx X w (Xa π l none) H':=by
 have un: ∀k r,Xa π l none k=some r->k≠l/\π k=some r:= λk r hk=>by
  by_cases e:k=l
  ·subst e;rw [Gj] at hk;cases hk
  ·rw [Gg π none e] at hk;exact ⟨e,hk⟩
 refine ⟨h.below,h.sc,λk r c h1 h2=>h.sub k r c (un k r h1).2 h2,λk r c h1 h2=>h.place k r c (un k r h1).2 h2,λl1 l2 r1 r2 c h1 h2 h3 h4=>h.inj _ _ r1 r2 c (un _ _ h1).2 (un _ _ h2).2 h3 h4,λk hp Ik=>?_,λk=>?_⟩
 ·have e:k≠l:= λe=>by subst e;exact Ik h0
  rw [hH k e] at Ik
  rw [Gg π none e]
  exact h.ia k hp λh1=>Ik (by rw [h1];rfl)
 ·by_cases e:k=l
  ·subst e
   exact Ge.Uj (by rw [Gj]) h0
  ·have hn:=hH k e
   have ho:=h.heap k
   cases ki:Au H k with
   |none=>rw [ki] at hn;exact Ge.Uj (by rw [Gg π none e];exact ho.emp ki) hn
   |some c=>
    rw [ki] at hn
    refine Ge.Lj ?_ hn
    rw [Gg π none e]
    exact (ho.Qm ki).move m (Ao _) (λr0 c h0 h1=>h.sub _ r0 c h0 h1) λr0 c h0 h1 It=>rfl
theorem Bl.forget {st:St} {a:Act} (h:Bl X π st a w) (l:Nat):Bl X (Xa π l none) (st.forget l) a w:=by
 have m:Move X w w π (Xa π l none) st.heap (st.forget l).heap (Cr l):=
  Move.forget (Ao _) (λ_ _ _=>rfl) (λr c hr=>by cases hr) (λm hm=>St.iR st l m hm) (λ_ _ _ _ _ _=>rfl)
 refine ⟨h.1.drop l m (St.py st l) λk e=>St.iR st l k e,?_⟩
 have hh:tn X w (Xa π l none) {tmps:=st.tmps.map (·.map (Cr l)),heap:=(st.forget l).heap} a:=m.PK rfl h.2
 exact hh
theorem cellOf {w:World} {g:Nat} {cur:Array Value} {tid:TypeId} (h:w.heap[g]?=some (.cells cur tid (0,0))) (i:Nat):w.cell? ⟨g,i,none⟩=cur[i]?:=by
 simp [World.cell?,h]
theorem On {l off len:Nat} {v:Value} {fr tr:Bool} {e:Ty} {tid:TypeId} {xs:List e.den} (h:Hm X w π H (.own l off len) v) (hl:Au H l=some (.arr fr tr e tid xs)):off+len<=xs.length/\Hw (π l) e.size off len v:=by
 obtain ⟨b,sz,n,h1,h0,h2,h3⟩:=h
 rw [hl] at h1;cases h1
 simp only [OB.row,Aa,Ad] at h0
 obtain ⟨rfl,rfl⟩:=h0
 exact ⟨h2,h3⟩
theorem ck {l off len:Nat} {v:Value} {e:Ty} {tid:TypeId} {xs:List e.den} (h:Hm X w π H (.own l off len) v) (hl:Au H l=some (.Gu e tid xs)):off+len<=xs.length/\Hw (π l) e.size off len v:=by
 obtain ⟨b,sz,n,h1,h0,h2,h3⟩:=h
 rw [hl] at h1;cases h1
 simp only [OB.row,Aa,Ad] at h0
 obtain ⟨rfl,rfl⟩:=h0
 exact ⟨h2,h3⟩
theorem OA {l off len:Nat} {v:Value} {fr tr:Bool} {e:Ty} {tid:TypeId} {xs:List e.den} (hl:Au H l=some (.arr fr tr e tid xs)) (h1:off+len<=xs.length) (h2:Hw (π l) e.size off len v):Hm X w π H (.own l off len) v:=
 ⟨_,e.size,xs.length,hl,rfl,h1,h2⟩
theorem zb {r:Real} {off len:Nat} {v:Value} {e:Ty} {tid:TypeId} {xs:List e.den} {S:Nat->Prop} {cur:Array Value} (h2:w.heap[r.g]?=some (.cells cur tid (0,0)))
  (hlen:off+len<=xs.length) (hv:Hw (some r) e.size off len v) (hg: ¬S r.g)
  (hA: ∀(i:Nat) (x:e.den),xs[i]?=some x-> ∃es:List Value,es.length=e.size/\(∀j u,es[j]?=some u->cur[(r.o+i)*e.size+j]?=some u)/\Cells w S e es x):Cells w S (.slice e) [v] ((xs.drop off).take len):=by
 have hll:((xs.drop off).take len).length=len:=by simp;omega
 obtain ⟨ad,rfl,hc,ha⟩:=hv
 refine ⟨some ad,len,r.cap-off,rfl,hll.symm,by omega,?_⟩
 rcases aL len with h0|h0
 ·left;subst h0;simp
 ·right
  refine ⟨r.g,(r.o+off)*e.size,by rw [ha (by omega)],Fk h2,hg,λi x hx=>?_⟩
  have hi:i<len:=by
   have:=(An.1 hx).1
   rw [hll] at this;exact this
  have hx':xs[off+i]?=some x:=by
   rw [Cx,Ab hi,Cw] at hx;exact hx
  obtain ⟨es,he,hj,s9⟩:=hA (off+i) x hx'
  refine ⟨es,he,λj u hu=>?_,s9⟩
  rw [cellOf h2]
  have:=hj j u hu
  rw [<-this]
  congr 1
  rw [<-Gq,Dd (r.o+off) i]
theorem pO {l off len:Nat} {v:Value} {fr tr:Bool} {e:Ty} {tid:TypeId} {xs:List e.den} {S:Nat->Prop} (h:Mx X w π H) (hl:Au H l=some (.arr fr tr e tid xs))
  (hlen:off+len<=xs.length) (hv:Hw (π l) e.size off len v)
  (hS: ∀k,S k->(∃r,π l=some r/\r.Cu k)->False) (hA: ∀k,k<w.heap.size->S k->Dc X.w0.heap.size X.Sc π fr k):Cells w S (.slice e) [v] ((xs.drop off).take len):=by
 have hb:=(h.heap l).Qm hl
 simp only [Cj,Jw] at hb
 cases hp:π l with
 |none=>
  rw [hp] at hb hv
  obtain ⟨rfl,rfl,rfl⟩:=hv
  exact ⟨none,0,0,rfl,by simp,Ao _, .inl (by simp)⟩
 |some r=>
  rw [hp] at hb hv
  obtain ⟨h1,cur,_,h2,h3,h4,h5,h6,_⟩:=hb
  refine zb h2 hlen hv (λhs=>hS _ hs ⟨r,hp,h1.1⟩) λi x hx=>?_
  obtain ⟨es,he,hj,s9⟩:=h6 i x hx
  exact ⟨es,he,hj,Cells.Ex (Ao _) (λ_ _ _=>rfl) hA e es x s9⟩
theorem Ta.slice {D S:Nat->Prop} {R:Option Real} {e:Ty} {x:List e.den} {u:Value} (h:Ta w D R e x) (hv:Hw R e.size 0 (List.length x) u) (hD: ∀k,S k->D k) (hg: ∀q,R=some q-> ¬S q.g):Cells w S (.slice e) [u] x:=by
 cases R with
 |none=>
  have hx:x= []:=h
  subst hx
  obtain ⟨rfl,_,_⟩:=hv
  exact ⟨none,0,0,rfl,rfl,Ao _, .inl rfl⟩
 |some q=>
  obtain ⟨h1,cur,ti,h2,h3,h4,h5,h6⟩:=h
  obtain ⟨ad,rfl,g1,g2⟩:=hv
  refine ⟨some ad,List.length x,_,rfl,rfl,by omega,?_⟩
  rcases aL (List.length x) with hx|hx
  ·exact .inl (Ck hx)
  ·have MV:=g2 (by omega)
   subst MV
   refine .inr ⟨q.g,(q.o+0)*e.size,rfl,Fk h2,hg q rfl,λi y hy=>?_⟩
   obtain ⟨es,k1,k2,k3⟩:=h6 i y hy
   refine ⟨es,k1,λj u hu=>?_,Cells.Ex (Ao _) (λ_ _ _=>rfl) (λk _ hk=>hD k hk) e es y k3⟩
   rw [cellOf h2,Ez,<-Dd]
   exact k2 j u hu
theorem og {l off len:Nat} {v:Value} {e:Ty} {te:TypeId} {rows:List (List e.den)} {out:Option Nat} {kp:Option (Nat×Nat)} (h:Hm X w π H (.own l off len) v) (hl:Au H l=some (.Bm e te rows out kp)):off+len<=rows.length/\Hw (π l) 1 off len v:=by
 obtain ⟨b,sz,n,h1,h2,h3,h4⟩:=h
 rw [hl] at h1;cases h1
 simp only [OB.row,Aa,Ad] at h2
 obtain ⟨rfl,rfl⟩:=h2
 exact ⟨h3,h4⟩
theorem uc {l off len:Nat} {v:Value} {e:Ty} {te:TypeId} {rows:List (List e.den)} {kp:Option (Nat×Nat)} {S:Nat->Prop} (h:Mx X w π H) (hl:Au H l=some (.Bm e te rows none kp))
  (hlen:off+len<=rows.length) (hv:Hw (π l) 1 off len v)
  (hS: ∀k,S k->(∃r,π l=some r/\r.Cu k)->False) (hA: ∀k,S k->Dc X.w0.heap.size X.Sc π false k):Cells w S (.slice (.slice e)) [v] ((rows.drop off).take len):=by
 have hb:=(h.heap l).Qm hl
 simp only [Cj] at hb
 have hb:=hb.1
 cases hp:π l with
 |none=>
  rw [hp] at hb hv
  have hb:rows= []:=hb
  obtain ⟨rfl,rfl,rfl⟩:=hv
  exact ⟨none,0,0,rfl,by simp,Ao _, .inl (by simp)⟩
 |some r=>
  rw [hp] at hb hv
  obtain ⟨h1,cur,ti,h2,h3,h4,h5,Rs,h6,h7,h8,h9⟩:=hb
  obtain ⟨ad,rfl,g1,g2⟩:=hv
  refine ⟨some ad,len,_,rfl,by simp;omega,by omega,?_⟩
  rcases aL len with hx|hx
  ·subst hx;exact .inl (by simp)
  ·have MV:=g2 (by omega)
   subst MV
   refine .inr ⟨r.g,(r.o+off)*1,rfl,Fk h2,λhs=>hS _ hs ⟨r,hp,h1⟩,λi x hx=>?_⟩
   have hx:((rows.drop off).take len)[i]?=some x:=hx
   rw [Cx] at hx
   split at hx
   ·rw [Cw] at hx
    obtain ⟨u,R,k1,k2,k3,k4⟩:=h9 _ x hx (by simp)
    refine ⟨[u],rfl,λj u' fj=>?_,k4.slice k3 hA λq hq hs=>hS _ hs ⟨r,hp,(h7 _ q (by rw [k2,hq])).1⟩⟩
    rcases j with _|j
    ·simp only [Cb,Aa] at fj
     subst fj
     rw [cellOf h2,<-k1]
     congr 1
     simp only [Ty.size];omega
    ·simp at fj
   ·cases hx
theorem FZ {l i c:Nat} {v:Value} {e:Ty} {te:TypeId} {rows:List (List e.den)} {out:Option Nat} {kp:Option (Nat×Nat)} (hv:Hm X w π H (.sub l i c) v) (hl:Au H l=some (.Bm e te rows out kp)):rows[i]?=some (rows.getD i []):=by
 obtain ⟨r,b,sz,n,h1,h0,_,h3,_⟩:=hv
 rw [hl] at h1;cases h1
 simp only [OB.gz,Aa,Ad] at h0
 obtain ⟨rfl,rfl⟩:=h0
 rw [Ak,Ac h3];rfl
theorem nH {l i:Nat} {e:Ty} {te:TypeId} {rows:List (List e.den)} {out:Option Nat} {kp:Option (Nat×Nat)} {r:Real} (h:Mx X w π H) (hl:Au H l=some (.Bm e te rows out kp)) (hp:π l=some r) (hi:i<rows.length) (ho:out≠some i):
  ∃u R,w.cell? ⟨r.g,r.o+i,none⟩=some u/\Hw R e.size 0 (rows.getD i []).length u/\Ta w (Dc X.w0.heap.size X.Sc π false) R e (rows.getD i []):=by
 have hb:=(h.heap l).Qm hl
 simp only [Cj] at hb
 have hb:=hb.1
 rw [hp] at hb
 obtain ⟨h1,cur,ti,h2,h3,h4',h5',Rs,h6,h7,h8,h9⟩:=hb
 have hx:rows[i]?=some (rows.getD i []):=by rw [Ak,Ac hi];rfl
 obtain ⟨u,R,k1,k2,k3,k4⟩:=h9 _ _ hx ho
 exact ⟨u,R,by rw [cellOf h2];exact k1,k3,k4⟩
theorem bl {R:Option Real} {sz off len:Nat} {u:Value} (h:Hw R sz off len u): ∃a n m,u= .slice a n m:=by
 cases R with
 |none=>exact ⟨_,_,_,h.1⟩
 |some q=>obtain ⟨ad,rfl,_⟩:=h;exact ⟨_,_,_,rfl⟩
theorem ud {l i c:Nat} {v:Value} {e:Ty} {te:TypeId} {rows:List (List e.den)} {kp:Option (Nat×Nat)} {x:List e.den} {S:Nat->Prop} (h:Mx X w π H) (hl:Au H l=some (.Bm e te rows none kp)) (hx:rows[i]?=some x)
  (hv:Hm X w π H (.sub l i c) v)
  (hS: ∀k,S k->(∃r,π l=some r/\r.Cu k)->False) (hA: ∀k,S k->Dc X.w0.heap.size X.Sc π false k):Cells w S (.slice e) [v] x:=by
 obtain ⟨r,b,sz,n,h1,h0,hp,h3,⟨h4,_⟩,h5⟩:=hv
 rw [hl] at h1;cases h1
 simp only [OB.gz,Aa,Ad] at h0
 obtain ⟨rfl,rfl⟩:=h0
 have hb:=(h.heap l).Qm hl
 simp only [Cj] at hb
 have hb:=hb.1
 rw [hp] at hb
 obtain ⟨h1,cur,ti,h2,h3,h4',h5',Rs,h6,h7,h8,h9⟩:=hb
 obtain ⟨u,R,k1,k2,k3,k4⟩:=h9 _ x hx (by simp)
 have:c=0:=by omega
 subst this
 rw [cellOf h2,Ft,Ez,k1] at h5
 have hv:=Ba h5
 subst hv
 exact k4.slice k3 hA λq hq hs=>hS _ hs ⟨r,hp,(h7 _ q (by rw [k2,hq])).1⟩
theorem mS {l off len:Nat} {v:Value} {e:Ty} {tid:TypeId} {xs:List e.den} {S:Nat->Prop} (h:Mx X w π H) (hl:Au H l=some (.Gu e tid xs))
  (hlen:off+len<=xs.length) (hv:Hw (π l) e.size off len v)
  (hS: ∀k,S k->(∃r,π l=some r/\r.Cu k)->False):Cells w S (.slice e) [v] ((xs.drop off).take len):=by
 have hb:=(h.heap l).Qm hl
 simp only [Cj,Ny] at hb
 cases hp:π l with
 |none=>
  rw [hp] at hb hv
  obtain ⟨rfl,rfl,rfl⟩:=hv
  exact ⟨none,0,0,rfl,by simp,Ao _, .inl (by simp)⟩
 |some r=>
  rw [hp] at hb hv
  obtain ⟨h1,cur,_,h2,h3,h4,h5,Fs,k1,k2,k3,k4⟩:=hb
  refine zb h2 hlen hv (λhs=>hS _ hs ⟨r,hp,h1⟩) λi x hx=>?_
  have hi:i<Fs.length:=by have:=(An.1 hx).1;omega
  obtain ⟨es,he,hj,s9⟩:=k4 i x _ hx (Ac hi)
  exact ⟨es,he,hj,s9.cells _ _ _ _ λb hb hs=>hS b hs ⟨r,hp,k3 b (Fg.2 ⟨_,Aj hi,hb⟩)⟩⟩
theorem St.Rp (st:St) (l m:Nat) (fr:Bool) (e:Ty) (xs:List e.den) (h:m≠l):Au (st.freeze l fr e xs).heap m=(Au st.heap m).map (OB.map (Da l fr e xs)):=by
 simp only [St.freeze,St.Ks]
 rw [Nt _ _ _ h,Ox]
theorem St.Ma (st:St) (l:Nat) (fr:Bool) (e:Ty) (xs:List e.den):Au (st.freeze l fr e xs).heap l=none:=by
 simp only [St.freeze,St.Ks]
 exact Ml _ _
theorem tD {l:Nat} {B:Nat} {Sc:Nat->Prop} {fr:Bool} {k:Nat} (hA:Dc B Sc (Xa π l none) fr k):Dc B Sc π fr k:=by
 rcases hA with ⟨m,r,hm,hg⟩|h2
 ·by_cases kS:m=l
  ·subst kS;rw [Gj] at hm;cases hm
  ·rw [Gg π none kS] at hm
   exact .inl ⟨m,r,hm,hg⟩
 ·exact .inr h2
theorem Mx.let (h:Mx X w π H) {l:Nat} {fr:Bool} (GJ:fr=true-> ∀r,π l=some r-> ∀b,r.Cu b->X.w0.heap.size<=b) {k:Nat} (hS:Dc X.w0.heap.size X.Sc (Xa π l none) fr k) (hk: ∃r,π l=some r/\r.Cu k):False:=by
 obtain ⟨r,hr,NF⟩:=hk
 rcases hS with ⟨m,r',hm,hg⟩|hS|⟨hf,hS⟩
 ·by_cases kS:m=l
  ·subst kS;rw [Gj] at hm;cases hm
  ·rw [Gg π none kS] at hm
   exact kS (h.apart hm hr hg NF)
 ·have h1:=h.sc k hS
  rcases (h.own ⟨l,r,hr,NF⟩).2 with h2|h2
  ·omega
  ·exact h1.2 h2
 ·have:=GJ hf r hr k NF;omega
theorem Move.SC {l:Nat} {f:AC->AC} (hf: ∀c v,Hm X w π H c v->(∀k∈c.refs,k≠l)->f c=c)
  (hl: ∀c v,Hm X w π H c v->l∈c.refs->Hm X w (Xa π l none) H' (f c) v)
  (hH: ∀m,m≠l->Au H' m=(Au H m).map (OB.map f)):Move X w w π (Xa π l none) H H' f:=by
 have hc: ∀Wf τ cs x,Cells w (Dc X.w0.heap.size X.Sc π Wf) τ cs x->Cells w (Dc X.w0.heap.size X.Sc (Xa π l none) Wf) τ cs x:=
  fun Wf τ cs x hh=>Cells.Ex (Ao _) (λ_ _ _=>rfl) (λk _ hA=>tD hA) τ cs x hh
 refine ⟨λc v GG=>?_,hc⟩
 by_cases hlr:l∈c.refs
 ·exact hl c v GG hlr
 ·rw [hf c v GG λk hk e=>hlr (e▸hk)]
  cases c with
  |data Wf τ x=>obtain ⟨cs,h1,h2⟩:=GG;exact ⟨cs,hc _ _ _ _ h1,h2⟩
  |own k off len=>
   have Se:k≠l:= λe=>hlr (by simp [AC.refs,e])
   obtain ⟨b,sz,n,h1,h0,h2,h3⟩:=GG
   exact ⟨b.map f,sz,n,by rw [hH k Se,h1];rfl,by cases b<;>exact h0,h2,by rw [Gg π none Se];exact h3⟩
  |Hj k i=>
   have Se:k≠l:= λe=>hlr (by simp [AC.refs,e])
   obtain ⟨r,Vb,vs,h1,h2,h3⟩:=GG
   exact ⟨r,Vb,vs.map f,by rw [hH k Se,h1];rfl,by rw [Gg π none Se];exact h2,h3⟩
  |Jz k i=>
   have Se:k≠l:= λe=>hlr (by simp [AC.refs,e])
   obtain ⟨r,b,sz,n,h1,h0,h2,h3,h4⟩:=GG
   exact ⟨r,b.map f,sz,n,by rw [hH k Se,h1];rfl,by cases b<;>exact h0,h2,by rw [Gg π none Se];exact h3,h4⟩
  |sub k i c=>
   have Se:k≠l:= λe=>hlr (by simp [AC.refs,e])
   obtain ⟨r,b,sz,n,h1,h0,h2,h3⟩:=GG
   exact ⟨r,b.map f,sz,n,by rw [hH k Se,h1];rfl,by cases b<;>exact h0,by rw [Gg π none Se];exact h2,h3⟩
  |Jv k i c=>
   have Se:k≠l:= λe=>hlr (by simp [AC.refs,e])
   obtain ⟨r,b,n,sz,g,o,len,cap,h1,h0,h2,h3⟩:=GG
   exact ⟨r,b.map f,n,sz,g,o,len,cap,by rw [hH k Se,h1];rfl,by cases b<;>exact h0,by rw [Gg π none Se];exact h2,h3⟩
  |clo g Ee=>
   obtain ⟨us,h1,h2,h3⟩:=GG
   refine ⟨us,h1,h2,λj p hp=>?_⟩
   obtain ⟨r,tid,vs,h4,h5,h6⟩:=h3 j p hp
   have km:p.1≠l:= λe=>hlr (by simp only [AC.refs,Bj];exact ⟨p,Bs hp,e⟩)
   exact ⟨r,tid,vs.map f,by rw [hH _ km,h4];rfl,by rw [Gg π none km];exact h5,h6⟩
  |Kh k=>
   have Se:k≠l:= λe=>hlr (by simp [AC.refs,e])
   obtain ⟨r,vt,m,h1,h2,h3⟩:=GG
   exact ⟨r,vt,m,by rw [hH k Se,h1];rfl,by rw [Gg π none Se];exact h2,h3⟩
  |_=>exact GG
theorem iB {l:Nat} {ls:List Nat} (h: ∀k∈ls,k≠l):ls.contains l=false:=by
 cases hc:ls.contains l with
 |false=>rfl
 |true=>exact absurd rfl (h l (by simpa using hc))
theorem iS {l:Nat} {fr:Bool} {e:Ty} {xs:List e.den} {c:AC} (h: ∀k∈c.refs,k≠l):Da l fr e xs c=c:=by
 cases c<;>simp only [Da]<;>first|rfl|skip
 case clo f Ee=>rw [Ag (by rw [iB (show ∀k∈Ee.map (·.1),k≠l from h)];simp)]
 all_goals rw [Ag (h _ (by simp [AC.refs]))]
theorem ua {l:Nat} {v:Ty} {m:ByteArray->Option v.den} {c:AC} (h: ∀k∈c.refs,k≠l):Hb l v m c=c:=by
 cases c<;>simp only [Hb]<;>first|rfl|skip
 case clo f Ee=>rw [Ag (by rw [iB (show ∀k∈Ee.map (·.1),k≠l from h)];simp)]
 all_goals rw [Ag (h _ (by simp [AC.refs]))]
theorem Move.freeze {l:Nat} {fr:Bool} {e:Ty} {xs:List e.den}
  (Aob: ∀off len v,Hm X w π H (.own l off len) v->Cells w (Dc X.w0.heap.size X.Sc (Xa π l none) fr) (.slice e) [v] ((xs.drop off).take len))
  (hH: ∀m,m≠l->Au H' m=(Au H m).map (OB.map (Da l fr e xs))):Move X w w π (Xa π l none) H H' (Da l fr e xs):=by
 refine Move.SC (λc v _ h=>iS h) (λc v GG hr=>?_) hH
 cases c with
 |own k off len=>
  have:k=l:=(Ae.1 hr).symm
  subst this
  simp only [Da,Ab]
  exact ⟨[v],Aob off len v GG,by simp [Cf,Ty.Aq]⟩
 |Hj k i=>have:k=l:=(Ae.1 hr).symm
          subst this;simp only [Da,Ab];trivial
 |Jz k i=>have:k=l:=(Ae.1 hr).symm
          subst this;simp only [Da,Ab];trivial
 |sub k i c=>have:k=l:=(Ae.1 hr).symm
             subst this;simp only [Da,Ab];trivial
 |Jv k i c=>have:k=l:=(Ae.1 hr).symm
            subst this;simp only [Da,Ab];trivial
 |Kh k=>have:k=l:=(Ae.1 hr).symm
        subst this;simp only [Da,Ab];trivial
 |clo f Ee=>
  simp only [Da]
  rw [Ab (by simpa [AC.refs] using hr)];trivial
 |_=>simp [AC.refs] at hr
theorem Bl.freeze {st:St} {a:Act} (h:Bl X π st a w) {l:Nat} {fr:Bool} {e:Ty} {xs:List e.den}
  (hl:(∃tr tid,Au st.heap l=some (.arr fr tr e tid xs))\/(fr=false/\ ∃tid,Au st.heap l=some (.Gu e tid xs))):
  Bl X (Xa π l none) (st.freeze l fr e xs) a w/\Move X w w π (Xa π l none) st.heap (st.freeze l fr e xs).heap (Da l fr e xs):=by
 have m:Move X w w π (Xa π l none) st.heap (st.freeze l fr e xs).heap (Da l fr e xs):=by
  refine Move.freeze (λoff len v hv=>?_) (λm hm=>St.Rp st l m fr e xs hm)
  rcases hl with ⟨tr,tid,hl⟩|⟨rfl,tid,hl⟩
  ·obtain ⟨h2,h3⟩:=On hv hl
   refine pO h.1 hl h2 h3 (λk hk=>?_) λk _ hk=>tD hk
   intro ⟨r,hr,NF⟩
   have hb:=(h.1.heap l).Qm hl
   simp only [Cj,Jw,hr] at hb
   by_cases hkg:k=r.g
   ·subst hkg
    rcases hk with ⟨m,r',hm,hg⟩|hS|⟨hf,hS⟩
    ·by_cases kS:m=l
     ·subst kS;rw [Gj] at hm;cases hm
     ·rw [Gg π none kS] at hm
      exact kS (h.1.apart hm hr hg NF)
    ·have h1:=h.1.sc _ hS
     rcases (h.1.own ⟨l,r,hr,NF⟩).2 with h2|h2
     ·omega
     ·exact h1.2 h2
    ·have:=hb.1.2.2 hf;omega
   ·exact absurd (hb.1.2.1 k NF) hkg
  ·obtain ⟨h2,h3⟩:=ck hv hl
   exact mS h.1 hl h2 h3 λk hk hr=>h.1.let (λhf=>by cases hf) hk hr
 refine ⟨⟨h.1.drop l m (St.Ma st l fr e xs) λk e'=>St.Rp st l k fr e xs e',?_⟩,m⟩
 have hh:tn X w (Xa π l none) {tmps:=st.tmps.map (·.map (Da l fr e xs)),heap:=(st.freeze l fr e xs).heap} a:=m.PK rfl h.2
 exact hh
theorem St.Qz (st:St) (l k:Nat) (v:Ty) (m:ByteArray->Option v.den) (h:k≠l):Au (st.Ir l v m).heap k=(Au st.heap k).map (OB.map (Hb l v m)):=by
 simp only [St.Ir,St.Ks]
 rw [Nt _ _ _ h,Ox]
theorem St.Td (st:St) (l:Nat) (v:Ty) (m:ByteArray->Option v.den):Au (st.Ir l v m).heap l=none:=by
 simp only [St.Ir,St.Ks]
 exact Ml _ _
theorem zl {r:Option Real} {v:Ty} {m:ByteArray->Option v.den} {g:Nat} {S:Nat->Prop} (h:ZD w r v m) (hg:r.map (·.g)=some g) (hS: ¬S g):Cells w S (.smap v) [.map (some g)] m:=by
 obtain ⟨r',h0,h1,h2,h3⟩:=h
 rw [h0] at hg
 simp only [Am,Aa] at hg
 subst hg
 simp only [Cells] at h3⊢
 rcases h3 with ⟨h3,_⟩|⟨g,h3,hg,_,es,clock,h4,h5,h6,h7⟩
 ·simp at h3
 ·simp only [Gc,Value.map.injEq,Aa,Ol] at h3
  subst h3
  refine .inr ⟨r'.g,rfl,hg,hS,es,clock,h4,h5,h6,λs y hy=>?_⟩
  obtain ⟨u,h8,h9⟩:=h7 s y hy
  exact ⟨u,h8,Cells.flat v [u] y h2.1 h9⟩
theorem Bl.Ir {st:St} {a:Act} (h:Bl X π st a w) {l:Nat} {v:Ty} {m:ByteArray->Option v.den} (hl:Au st.heap l=some (.Vv v m)):
  Bl X (Xa π l none) (st.Ir l v m) a w/\Move X w w π (Xa π l none) st.heap (st.Ir l v m).heap (Hb l v m):=by
 have mv:Move X w w π (Xa π l none) st.heap (st.Ir l v m).heap (Hb l v m):=by
  refine Move.SC (λc u _ h=>ua h) (λc u GG hr=>?_) (λk hk=>St.Qz st l k v m hk)
  cases c with
  |Kh k=>
   have:k=l:=(Ae.1 hr).symm
   subst this
   simp only [Hb,Ab]
   obtain ⟨r,vt,m',h1,h2,rfl⟩:=GG
   exact ⟨[_],zl ((h.1.heap k).Qm hl) (by rw [h2];rfl) λhS=>h.1.let (λhf=>by cases hf) hS ⟨r,h2,h.1.Cu h2⟩,by simp [Cf,Ty.Aq]⟩
  |own k off len=>have:k=l:=(Ae.1 hr).symm
                  subst this;simp only [Hb,Ab];trivial
  |Hj k i=>have:k=l:=(Ae.1 hr).symm
           subst this;simp only [Hb,Ab];trivial
  |Jz k i=>have:k=l:=(Ae.1 hr).symm
           subst this;simp only [Hb,Ab];trivial
  |sub k i c=>have:k=l:=(Ae.1 hr).symm
              subst this;simp only [Hb,Ab];trivial
  |Jv k i c=>have:k=l:=(Ae.1 hr).symm
             subst this;simp only [Hb,Ab];trivial
  |clo f Ee=>
   simp only [Hb]
   rw [Ab (by simpa [AC.refs] using hr)];trivial
  |_=>simp [AC.refs] at hr
 refine ⟨⟨h.1.drop l mv (St.Td st l v m) λk e'=>St.Qz st l k v m e',?_⟩,mv⟩
 have hh:tn X w (Xa π l none) {tmps:=st.tmps.map (·.map (Hb l v m)),heap:=(st.Ir l v m).heap} a:=mv.PK rfl h.2
 exact hh
def OB.fits:OB->OB->Prop
 | .arr _ _ e _ xs, .arr _ _ e' _ xs'=>e=e'/\xs.length<=xs'.length
 | .var _ _, .var _ _=>True
 | .Vv _ _, .Vv _ _=>True
 |_,_=>False
theorem Move.Aia {tc:Nat->Prop} {π':Pi} (hs:w.heap.size<=w'.heap.size)
  (hk: ∀k,k<w.heap.size->(∀l r,tc l->π l=some r-> ¬r.Cu k)->w'.heap[k]?=w.heap[k]?)
  (hO: ∀b,b<w.heap.size->Uf π' b->Uf π b)
  (hH: ∀m,¬tc m->Au H' m=Au H m/\π' m=π m) (hH': ∀m,tc m->bO (π m) (π' m)/\ ∀b0,Au H m=some b0-> ∃b,Au H' m=some b/\b0.fits b)
  (hx: ∀m r,¬tc m->π m=some r->(∃b,Au H m=some b/\b.gz≠none)->r.g<w.heap.size->w'.heap[r.g]?=w.heap[r.g]?):Move X w w' π π' H H' (λc=>c):=by
 have hc: ∀fr τ cs x,Cells w (Dc X.w0.heap.size X.Sc π fr) τ cs x->Cells w' (Dc X.w0.heap.size X.Sc π' fr) τ cs x:=by
  intro fr τ cs x h
  exact Cells.Ex hs (λk uk hn=>hk k uk λl r _ h0 h1=>hn (.inl ⟨l,r,h0,h1⟩)) (λk It hA=>hA.imp (hO k It) id) τ cs x h
 have same: ∀m r,π m=some r-> ∃r',π' m=some r'/\r.g=r'.g/\r.o=r'.o/\r.cap=r'.cap:=by
  intro m r hm
  by_cases ht:tc m
  ·have:=(hH' m ht).1
   rw [hm] at this
   cases hp:π' m with
   |none=>rw [hp] at this;exact this.elim
   |some r'=>rw [hp] at this;exact ⟨r',rfl,this.1,this.2.1,this.2.2.1⟩
  ·exact ⟨r,by rw [(hH m ht).2];exact hm,rfl,rfl,rfl⟩
 have fit: ∀m b,Au H m=some b-> ∃b',Au H' m=some b'/\(b'=b\/b.fits b'):=by
  intro m b hm
  by_cases ht:tc m
  ·obtain ⟨b',h1,h2⟩:=(hH' m ht).2 b hm;exact ⟨b',h1, .inr h2⟩
  ·exact ⟨b,by rw [(hH m ht).1];exact hm, .inl rfl⟩
 refine ⟨λc v h=>?_,hc⟩
 cases c with
 |data fr τ x=>obtain ⟨cs,h1,h2⟩:=h;exact ⟨cs,hc _ _ _ _ h1,h2⟩
 |own k off len=>
  obtain ⟨b,sz,n,h1,h0,h2,h3⟩:=h
  have wE:Hw (π' k) sz off len v:=by
   cases hp:π k with
   |none=>
    rw [hp] at h3
    have:π' k=none:=by
     by_cases ht:tc k
     ·have:=(hH' k ht).1
      rw [hp] at this
      cases nM:π' k with
      |none=>rfl
      |some r'=>rw [nM] at this;exact this.elim
     ·rw [(hH k ht).2];exact hp
    rw [this];exact h3
   |some r=>
    rw [hp] at h3
    obtain ⟨r',h4,h5,h6,h7⟩:=same k r hp
    rw [h4]
    unfold Hw at h3⊢
    simp only at h3⊢
    rw [<-h5,<-h6,<-h7]
    exact h3
  obtain ⟨b',h4,h5⟩:=fit k b h1
  rcases h5 with rfl|h5
  ·exact ⟨_,sz,n,h4,h0,h2,wE⟩
  ·cases b<;>cases b'<;>first|exact h5.elim|(simp [OB.row] at h0;done)|skip
   ·obtain ⟨rfl,hlen⟩:=h5
    simp only [OB.row,Aa,Ad] at h0
    obtain ⟨rfl,rfl⟩:=h0
    exact ⟨_,_,_,h4,rfl,by omega,wE⟩
 |Hj k i=>
  obtain ⟨r,tid,vs,h1,h2,h3⟩:=h
  obtain ⟨r',h4,h5,_⟩:=same k r h2
  obtain ⟨b',h6,h7⟩:=fit k _ h1
  rcases h7 with rfl|h7
  ·exact ⟨r',tid,vs,h6,h4,by rw [<-h5];exact h3⟩
  ·cases b'<;>first|exact h7.elim|exact ⟨r',_,_,h6,h4,by rw [<-h5];exact h3⟩
 |Jz k i=>
  obtain ⟨r,b,sz,n,h1,h0,h2,h3,h4⟩:=h
  obtain ⟨r',h5,h6,h7,_⟩:=same k r h3
  obtain ⟨b',h8,h9⟩:=fit k _ h1
  rcases h9 with rfl|h9
  ·exact ⟨r',_,sz,n,h8,h0,h2,h5,by rw [<-h6,<-h7];exact h4⟩
  ·cases b<;>cases b'<;>first|exact h9.elim|(simp [OB.row] at h0;done)|skip
   obtain ⟨rfl,hlen⟩:=h9
   simp only [OB.row,Aa,Ad] at h0
   obtain ⟨rfl,rfl⟩:=h0
   exact ⟨r',_,_,_,h8,rfl,by omega,h5,by rw [<-h6,<-h7];exact h4⟩
 |sub k i c=>
  obtain ⟨r,b,sz,n,h1,h0,h2,h3,h4,h5⟩:=h
  by_cases ht:tc k
  ·obtain ⟨b',h6,h7⟩:=(hH' k ht).2 _ h1
   cases b<;>first|(cases h0;done)|skip
   all_goals (cases b'<;>exact h7.elim)
  ·exact ⟨r,b,sz,n,by rw [(hH k ht).1];exact h1,h0,by rw [(hH k ht).2];exact h2,h3,h4,by rw [World.cell?_of_block (hx k r ht h2 ⟨b,h1,by rw [h0];simp⟩ (cJ h5))];exact h5⟩
 |Jv k i c=>
  obtain ⟨r,b,n,sz,g,o,len,cap,h1,h0,h2,h3,h4,h5,h6⟩:=h
  by_cases ht:tc k
  ·obtain ⟨b',h6,h7⟩:=(hH' k ht).2 _ h1
   cases b<;>first|(cases h0;done)|skip
   all_goals (cases b'<;>exact h7.elim)
  ·exact ⟨r,b,n,sz,g,o,len,cap,by rw [(hH k ht).1];exact h1,h0,by rw [(hH k ht).2];exact h2,h3,h4,by rw [World.cell?_of_block (hx k r ht h2 ⟨b,h1,by cases b<;>first|(cases h0;done)|simp [OB.gz]⟩ (cJ h5))];exact h5,h6⟩
 |clo f Ee=>
  obtain ⟨us,h1,h2,h3⟩:=h
  refine ⟨us,h1,h2,λj p hp=>?_⟩
  obtain ⟨r,tid,vs,h4,h5,h6⟩:=h3 j p hp
  obtain ⟨r',h7,h8,_⟩:=same _ r h5
  obtain ⟨b',h9,oY⟩:=fit _ _ h4
  rcases oY with rfl|oY
  ·exact ⟨r',tid,vs,h9,h7,by rw [<-h8];exact h6⟩
  ·cases b'<;>first|exact oY.elim|exact ⟨r',_,_,h9,h7,by rw [<-h8];exact h6⟩
 |Kh k=>
  obtain ⟨r,vt,m,h1,h2,h3⟩:=h
  obtain ⟨r',h4,h5,_⟩:=same k r h2
  obtain ⟨b',h6,h7⟩:=fit k _ h1
  rcases h7 with rfl|h7
  ·exact ⟨r',vt,m,h6,h4,by rw [<-h5];exact h3⟩
  ·cases b'<;>first|exact h7.elim|exact ⟨r',_,_,h6,h4,by rw [<-h5];exact h3⟩
 |_=>exact h
def Real.plus (r:Real) (N:List Nat):Real:= {r with cl:= λc=>r.cl c\/c∈N}
theorem Bl.Aux {st:St} {a:Act} (h:Bl X π st a w) {l:Nat} {b0 b:OB} (hl:Au st.heap l=some b0) (hf:b0.fits b) {r:Real} (hr:π l=some r) {N:List Nat}
  (hN: ∀c∈N,(X.w0.heap.size<=c\/X.gv c)/\c<w.heap.size/\ ∀m r0,m≠l->π m=some r0-> ¬r0.cl c) (hg:w.grownBy w' (some r.g))
  (hb:Move X w w' π (Xa π l (some (r.plus N))) st.heap (st.Ju l b).heap (λc=>c)->Cj X w' (Xa π l (some (r.plus N))) (st.Ju l b).heap (some (r.plus N)) b):Bl X (Xa π l (some (r.plus N))) (st.Ju l b) a w':=by
 have hk: ∀k,k<w.heap.size-> ¬r.Cu k->w'.heap[k]?=w.heap[k]?:= λk hk hn=>hg.block k hk (by
  intro e
  simp only [Aa] at e
  exact hn (e▸h.1.Cu hr))
 have wF: ∀k q,Xa π l (some (r.plus N)) k=some q-> ∃q0,π k=some q0/\(q=q0\/(k=l/\q0=r/\q=r.plus N)):= λk q hq=>by
  by_cases e:k=l
  ·subst e;rw [Gj] at hq;exact ⟨r,hr, .inr ⟨rfl,rfl,(Ba hq).symm⟩⟩
  ·rw [Gg π _ e] at hq;exact ⟨q,hq, .inl rfl⟩
 have cl': ∀k q q0 c,(q=q0\/(k=l/\q0=r/\q=r.plus N))->q.cl c->q0.cl c\/(k=l/\c∈N):= λk q q0 c h1 h2=>by
  rcases h1 with rfl|⟨rfl,rfl,rfl⟩
  ·exact .inl h2
  ·rcases h2 with h2|h2
   ·exact .inl h2
   ·exact .inr ⟨rfl,h2⟩
 have ft: ∀k q q0 c,(q=q0\/(k=l/\q0=r/\q=r.plus N))->(q.Cu c↔q0.Cu c):= λk q q0 c h1=>by
  rcases h1 with rfl|⟨rfl,rfl,rfl⟩<;>exact Iff.rfl
 have m:Move X w w' π (Xa π l (some (r.plus N))) st.heap (st.Ju l b).heap (λc=>c):=Move.Aia (tc:= λk=>k=l) hg.size (λk It hn=>hk k It (hn l r rfl hr)) (λc _ ⟨k,q,h1,h2⟩=>by
   obtain ⟨q0,h3,h4⟩:=wF k q h1
   exact ⟨k,q0,h3,(ft k q q0 c h4).1 h2⟩)
  (λm hm=>⟨Dy _ _ _ _ hm,Gg π _ hm⟩) (λm hm=>by subst hm;exact ⟨by rw [hr,Gj];exact ⟨rfl,rfl,rfl,λ_=>Iff.rfl⟩,λb1 h1=>by rw [hl] at h1;cases h1;exact ⟨b,Em _ _ _ _ hl,hf⟩⟩)
  (λm r' hm h1 _ It=>hk _ It λh3=>hm (h.1.apart h1 hr (h.1.Cu h1) h3))
 refine ⟨⟨?_,h.1.sc,λk q c h1 h2=>?_,λk q c h1 h2=>?_,λk k' q q' c h1 h2 h3 h4=>?_,λk hp Ik=>?_,λk=>?_⟩,?_⟩
 ·exact h.1.below.grown hg h.1.below.size λk hk=>by cases hk;exact (h.1.lt hr).2
 ·obtain ⟨q0,h3,h4⟩:=wF k q h1
  have:=h.1.sub k q0 c h3 ((ft k q q0 c h4).1 h2)
  rcases h4 with rfl|⟨rfl,rfl,rfl⟩
  ·exact this
  ·exact .inl this
 ·obtain ⟨q0,h3,h4⟩:=wF k q h1
  rcases cl' k q q0 c h4 h2 with h5|⟨_,h5⟩
  ·exact ⟨(h.1.place k q0 c h3 h5).1,Di (h.1.place k q0 c h3 h5).2 hg.size⟩
  ·exact ⟨(hN c h5).1,Di (hN c h5).2.1 hg.size⟩
 ·obtain ⟨q0,g1,g2⟩:=wF k q h1
  obtain ⟨q0',g3,g4⟩:=wF k' q' h2
  rcases cl' k q q0 c g2 h3 with h5|⟨h5,h6⟩<;>rcases cl' k' q' q0' c g4 h4 with h7|⟨h7,h8⟩
  ·exact h.1.inj k k' q0 q0' c g1 g3 h5 h7
  ·refine Ce λhn=>(hN c h8).2.2 k q0 (λe=>hn (e.trans h7.symm)) g1 h5
  ·refine Ce λhn=>(hN c h6).2.2 k' q0' (λe=>hn (h5.trans e.symm)) g3 h7
  ·rw [h5,h7]
 ·by_cases e:k=l
  ·subst e
   have:=h.1.ia k hp (by rw [hl];simp)
   rw [hr] at this
   rw [Gj]
   cases hx:X.ia k with
   |none=>rw [hx] at this;exact this.elim
   |some q=>rw [hx] at this;exact this
  ·rw [Gg π _ e]
   exact h.1.ia k hp λh0=>Ik (by rw [show Au (st.Ju l b).heap k=Au st.heap k from Dy _ _ _ _ e];exact h0)
 ·by_cases e:k=l
  ·subst e
   exact Ge.Lj (by rw [Gj];exact hb m) (Em _ _ _ _ hl)
  ·have hn:Au (st.Ju l b).heap k=Au st.heap k:=Dy _ _ _ _ e
   have ho:=h.1.heap k
   cases ki:Au st.heap k with
   |none=>rw [ki] at hn;exact Ge.Uj (by rw [Gg π _ e];exact ho.emp ki) hn
   |some c=>
    rw [ki] at hn
    refine Ge.Lj ?_ hn
    rw [Gg π _ e]
    have:=(ho.Qm ki).move m hg.size (λr0 c h0 h1=>h.1.sub _ r0 c h0 h1) λr0 c h0 h1 It=>hk _ It λh3=>e (h.1.inj _ _ r0 r c h0 hr h1 (h.1.sub _ _ _ hr h3))
    cases c with
    |var tid vs=>simpa [OB.map] using this
    |_=>exact this
 ·exact ⟨h.2.size,h.2.defers,λt=>by have:=m.av (h.2.tmps t);rwa [AC.map_id] at this⟩
theorem Bl.set {st:St} {a:Act} (h:Bl X π st a w) {l:Nat} {b0 b:OB} (hl:Au st.heap l=some b0) (hf:b0.fits b)
  (hg:w.grownBy w' ((π l).map (·.g)))
  (hb:Move X w w' π π st.heap (st.Ju l b).heap (λc=>c)->Cj X w' π (st.Ju l b).heap (π l) b):Bl X π (st.Ju l b) a w':=by
 have hk: ∀k,k<w.heap.size->(∀r,π l=some r-> ¬r.Cu k)->w'.heap[k]?=w.heap[k]?:= λk hk hn=>hg.block k hk (by
  intro e
  cases hp:π l with
  |none=>rw [hp] at e;cases e
  |some r=>rw [hp] at e;simp only [Am,Aa] at e;exact hn r hp (e▸h.1.Cu hp))
 have m:Move X w w' π π st.heap (st.Ju l b).heap (λc=>c):=Move.Aia (tc:= λk=>k=l) hg.size (λk It hn=>hk k It λr hr=>hn l r rfl hr) (λ_ _ h=>h)
  (λm hm=>⟨Dy _ _ _ _ hm,rfl⟩) (λm hm=>by subst hm;exact ⟨bO.rfl' _,λb1 h1=>by rw [hl] at h1;cases h1;exact ⟨b,Em _ _ _ _ hl,hf⟩⟩)
  (λm r hm h1 _ It=>hk _ It λr1 h2 h3=>hm (h.1.apart h1 h2 (h.1.Cu h1) h3))
 refine ⟨⟨?_,h.1.sc,h.1.sub,λk r c h1 h2=>⟨(h.1.place k r c h1 h2).1,Di (h.1.place k r c h1 h2).2 hg.size⟩,h.1.inj,λk hp Ik=>h.1.ia k hp λh0=>Ik ?_,λk=>?_⟩,?_⟩
 ·refine h.1.below.grown hg h.1.below.size λk hk=>?_
  cases hp:π l with
  |none=>rw [hp] at hk;cases hk
  |some r=>rw [hp] at hk;simp only [Am,Aa] at hk;rw [<-hk];exact (h.1.lt hp).2
 ·have:k≠l:= λe=>by subst e;rw [hl] at h0;cases h0
  rw [show Au (st.Ju l b).heap k=Au st.heap k from Dy _ _ _ _ this];exact h0
 ·by_cases e:k=l
  ·subst e
   exact Ge.Lj (hb m) (Em _ _ _ _ hl)
  ·have hn:Au (st.Ju l b).heap k=Au st.heap k:=Dy _ _ _ _ e
   have ho:=h.1.heap k
   cases ki:Au st.heap k with
   |none=>rw [ki] at hn;exact Ge.Uj (ho.emp ki) hn
   |some c=>
    rw [ki] at hn
    refine Ge.Lj ?_ hn
    have:=(ho.Qm ki).move m hg.size (λr0 c h0 h1=>h.1.sub _ r0 c h0 h1) λr0 c h0 h1 It=>hk _ It λr1 h2 h3=>e (h.1.inj _ _ r0 r1 c h0 h2 h1 (h.1.sub _ _ _ h2 h3))
    cases c with
    |var tid vs=>simpa [OB.map] using this
    |_=>exact this
 ·exact ⟨h.2.size,h.2.defers,λt=>by have:=m.av (h.2.tmps t);rwa [AC.map_id] at this⟩
end
end Go.Proofs.YtfolipnappekaaaGreat
