/-
  Part 5 of the proof that the statement FnCommutatorMacros holds.
-/
import Derived.Test.YtfgfigkbgecfnaaCFCommutatorMacros03
namespace Go.Proofs.Ytfgfigkbgecfnaa
open Go.RowKit
def Ry (π:Pi) (l:Nat) (r:Option Real):Pi:= λk=>if k=l then r else π k
theorem Eo (π:Pi) (l:Nat) (r:Option Real):Ry π l r l=r:=by simp [Ry]
theorem Ek (π:Pi) {l m:Nat} (r:Option Real) (h:m≠l):Ry π l r m=π m:=by simp [Ry,h]
section
variable {X:Ctx} {w w':World} {π:Pi} {H H':List (Nat×OB)}
def Bn (X:Ctx) (w:World) (π:Pi) (H:List (Nat×OB)) (r:Option Real):OB->Prop
 | .arr fr tr e tid xs=>Hg X w π r fr tr e tid xs
 | .Ev e tid xs=>Kz w r e tid xs
 | .var tid vs=>HQ X w π H r tid vs
 | .Bc e _ rows out kp=>cH X w π r e rows out kp
 | .Qy v m=>AH w r v m
theorem Ei.Ns {l:Nat} {b:OB} (h:Ei X w π H l) (hb:Ap H l=some b):Bn X w π H (π l) b:=by
 unfold Ei at h
 rw [hb] at h
 cases b<;>exact h
theorem Ei.Ix {l:Nat} {b:OB} (h:Bn X w π H (π l) b) (hb:Ap H l=some b):Ei X w π H l:=by
 unfold Ei
 rw [hb]
 cases b<;>exact h
theorem Ei.Pz {l:Nat} (h:π l=none) (hb:Ap H l=none):Ei X w π H l:=by
 unfold Ei;rw [hb];exact h
theorem Ei.emp {l:Nat} (h:Ei X w π H l) (hb:Ap H l=none):π l=none:=by
 unfold Ei at h;rw [hb] at h;exact h
theorem Bn.move {f:AC->AC} {π':Pi} (m:Move X w w' π π' H H' f) {r:Option Real} {b:OB} (h:Bn X w π H r b) (hs:w.heap.size<=w'.heap.size)
  (dm: ∀r' c,r=some r'->r'.Bu c->r'.cl c) (hk: ∀r' c,r=some r'->r'.cl c->c<w.heap.size->w'.heap[c]?=w.heap[c]?):
  Bn X w' π' H' r (b.map f):=by
 cases b with
 |arr fr tr e tid xs=>
  simp only [Bn,Hg,OB.map] at h⊢
  cases hr:r with
  |none=>rw [hr] at h;exact h
  |some r=>
   rw [hr] at h
   obtain ⟨h1,cur,ti,h2,h3,h4,h5,h6,h7⟩:=h
   refine ⟨h1,cur,ti,(hk r _ hr (dm r _ hr h1.1) (Ej h2)).trans h2,h3,h4,h5,λi x hx=>?_,λht=>(h7 ht).Ep hs (λc _ Im hc=>hk r c hr hc Im) λ_ hb=>hb⟩
   obtain ⟨es,he,hj,hc⟩:=h6 i x hx
   exact ⟨es,he,hj,m.cells _ _ _ _ hc⟩
 |Ev e tid xs=>
  simp only [Bn,Kz,OB.map] at h⊢
  cases hr:r with
  |none=>rw [hr] at h;exact h
  |some r=>
   rw [hr] at h
   obtain ⟨h1,cur,ti,h2,h3,h4,h5,h7⟩:=h
   exact ⟨h1,cur,ti,(hk r _ hr (dm r _ hr h1) (Ej h2)).trans h2,h3,h4,h5,h7.Ep hs (λc _ Im hc=>hk r c hr (dm r c hr hc) Im) λ_ hb=>hb⟩
 |var tid vs=>
  obtain ⟨r',h0,h1,cur,h2,h3⟩:=h
  exact ⟨r',h0,h1,cur,(hk r' _ h0 (dm r' _ h0 h1) (Ej h2)).trans h2,m.EW h3⟩
 |Bc e te rows out kp=>exact cH.Ep h (λq b hq hf Im=>hk q b hq (dm q b hq hf) Im) (λes x=>m.cells false e es x)
 |Qy v g=>
  obtain ⟨r',h0,h1,h2,h3⟩:=h
  refine ⟨r',h0,h1,h2,?_⟩
  simp only [Cells] at h3⊢
  rcases h3 with ⟨h3,_⟩|⟨g,h3,hg,_,es,clock,h4,h5,h6,h7⟩
  ·simp at h3
  ·simp only [Es,Value.map.injEq,Aa,cA] at h3
   subst h3
   refine .inr ⟨r'.g,rfl,by omega,λh=>h,es,clock,(hk r' _ h0 (dm r' _ h0 h1) hg).trans h4,h5,h6,λs y hy=>?_⟩
   obtain ⟨u,h8,h9⟩:=h7 s y hy
   exact ⟨u,h8,Cells.flat v [u] y h2.1 h9⟩
theorem Move.forget {l:Nat} {r':Option Real} (hs:w.heap.size<=w'.heap.size)
  (hk: ∀k,k<w.heap.size->(∀r,π l=some r-> ¬r.Bu k)->w'.heap[k]?=w.heap[k]?)
  (hr: ∀r b,r'=some r->r.Bu b->(∃r0,π l=some r0/\r0.Bu b)\/w.heap.size<=b)
  (hH: ∀m,m≠l->Ap H' m=(Ap H m).map (OB.map (Bs l)))
  (hx: ∀m r,m≠l->π m=some r->(∃b,Ap H m=some b/\b.c6≠none)->r.g<w.heap.size->w'.heap[r.g]?=w.heap[r.g]?):Move X w w' π (Ry π l r') H H' (Bs l):=by
 have hc: ∀fr τ cs x,Cells w (Cb X.w0.heap.size X.Sc π fr) τ cs x->Cells w' (Cb X.w0.heap.size X.Sc (Ry π l r') fr) τ cs x:=by
  intro fr τ cs x h
  refine Cells.Ep hs (λk mc hn=>hk k mc λr h0 h1=>hn (.inl ⟨l,r,h0,h1⟩)) (λk mc hA=>?_) τ cs x h
  rcases hA with ⟨m,r,hm,hg⟩|h2
  ·by_cases cB:m=l
   ·subst cB
    rw [Eo] at hm
    rcases hr r k hm hg with ⟨r0,h0,h1⟩|h1
    ·exact .inl ⟨m,r0,h0,h1⟩
    ·omega
   ·rw [Ek π r' cB] at hm
    exact .inl ⟨m,r,hm,hg⟩
  ·exact .inr h2
 refine ⟨λc v h=>?_,hc⟩
 cases c with
 |data fr τ x=>obtain ⟨cs,h1,h2⟩:=h;exact ⟨cs,hc _ _ _ _ h1,h2⟩
 |own k off len=>
  simp only [Bs]
  split
  ·trivial
  ·rename_i Om
   obtain ⟨b,sz,n,h1,h0,h2,h3⟩:=h
   exact ⟨b.map (Bs l),sz,n,by rw [hH k Om,h1];rfl,by cases b<;>exact h0,h2,by rw [Ek π r' Om];exact h3⟩
 |Ez k i=>
  simp only [Bs]
  split
  ·trivial
  ·rename_i Om
   obtain ⟨r,tid,vs,h1,h2,h3⟩:=h
   exact ⟨r,tid,vs.map (Bs l),by rw [hH k Om,h1];rfl,by rw [Ek π r' Om];exact h2,h3⟩
 |Hj k i=>
  simp only [Bs]
  split
  ·trivial
  ·rename_i Om
   obtain ⟨r,b,sz,n,h1,h0,h2,h3,h4⟩:=h
   exact ⟨r,b.map (Bs l),sz,n,by rw [hH k Om,h1];rfl,by cases b<;>exact h0,h2,by rw [Ek π r' Om];exact h3,h4⟩
 |sub k i c=>
  simp only [Bs]
  split
  ·trivial
  ·rename_i Om
   obtain ⟨r,b,sz,n,h1,h0,h2,h3,h4,h5⟩:=h
   exact ⟨r,b.map (Bs l),sz,n,by rw [hH k Om,h1];rfl,by cases b<;>exact h0,by rw [Ek π r' Om];exact h2,h3,h4,by rw [World.cell?_of_block (hx k r Om h2 ⟨b,h1,by rw [h0];simp⟩ (Xy h5))];exact h5⟩
 |Hf k i c=>
  simp only [Bs]
  split
  ·trivial
  ·rename_i Om
   obtain ⟨r,b,n,sz,g,o,len,cap,h1,h0,h2,h3,h4,h5,h6⟩:=h
   exact ⟨r,b.map (Bs l),n,sz,g,o,len,cap,by rw [hH k Om,h1];rfl,by cases b<;>exact h0,by rw [Ek π r' Om];exact h2,h3,h4,by rw [World.cell?_of_block (hx k r Om h2 ⟨b,h1,by cases b<;>first|(cases h0;done)|simp [OB.c6]⟩ (Xy h5))];exact h5,h6⟩
 |clo f Cx=>
  simp only [Bs]
  split
  ·trivial
  ·rename_i Om
   obtain ⟨us,h1,h2,h3⟩:=h
   refine ⟨us,h1,h2,λj p hp=>?_⟩
   obtain ⟨r,tid,vs,h4,h5,h6⟩:=h3 j p hp
   have fa:p.1≠l:= λe=>Om (by simp only [Gx,Bq];exact ⟨p,Bo hp,e⟩)
   exact ⟨r,tid,vs.map (Bs l),by rw [hH _ fa,h4];rfl,by rw [Ek π r' fa];exact h5,h6⟩
 |Hv k=>
  simp only [Bs]
  split
  ·trivial
  ·rename_i Om
   obtain ⟨r,vt,m,h1,h2,h3⟩:=h
   exact ⟨r,vt,m,by rw [hH k Om,h1];rfl,by rw [Ek π r' Om];exact h2,h3⟩
 |_=>exact h
theorem St.Uj (st:St) (l m:Nat) (b:OB) (h:m≠l):Ap (st.new l b).heap m=(Ap st.heap m).map (OB.map (Bs l)):=by
 simp only [St.new,St.forget,St.Ih]
 rw [Md _ _ _ _ h,Kt _ _ _ h,Lr]
theorem St.Ew (st:St) (l:Nat) (b:OB):Ap (st.new l b).heap l=some b:=by
 simp only [St.new,St.forget,St.Ih]
 exact Mz _ _ _ (Ju _ _)
theorem St.dh (st:St) (l m:Nat) (h:m≠l):Ap (st.forget l).heap m=(Ap st.heap m).map (OB.map (Bs l)):=by
 simp only [St.forget,St.Ih]
 rw [Kt _ _ _ h,Lr]
theorem St.j8 (st:St) (l:Nat):Ap (st.forget l).heap l=none:=by
 simp only [St.forget,St.Ih]
 exact Ju _ _
theorem Ax.dK {st:St} {a:Act} (h:Ax X π st a w) (l:Nat) (hl:l<Az) (r':Option Real) (b:OB)
  (hg:w.grownBy w' ((π l).map (·.g)))
  (hf: ∀r b,r'=some r->r.Bu b->r.cl b/\((∃r0,π l=some r0/\r0.Bu b)\/w.heap.size<=b))
  (hr: ∀r b,r'=some r->r.cl b->(X.w0.heap.size<=b\/X.gv b)/\b<w'.heap.size/\ ∀m r0,m≠l->π m=some r0-> ¬r0.cl b)
  (hb:Move X w w' π (Ry π l r') st.heap (st.new l b).heap (Bs l)->Bn X w' (Ry π l r') (st.new l b).heap r' b):Ax X (Ry π l r') (st.new l b) a w':=by
 have hk: ∀k,k<w.heap.size->(∀r,π l=some r-> ¬r.Bu k)->w'.heap[k]?=w.heap[k]?:= λk hk hn=>hg.block k hk (by
  intro e
  cases hp:π l with
  |none=>rw [hp] at e;cases e
  |some r=>rw [hp] at e;simp only [Ah,Aa] at e;exact hn r hp (e▸h.1.Bu hp))
 have m:Move X w w' π (Ry π l r') st.heap (st.new l b).heap (Bs l):=Move.forget hg.size hk (λr c h1 h2=>(hf r c h1 h2).2) (λm hm=>St.Uj st l m b hm)
  (λm r hm h1 _ Im=>hk _ Im λr1 h2 h3=>hm (h.1.apart h1 h2 (h.1.Bu h1) h3))
 refine ⟨⟨?_,h.1.sc,?_,?_,?_,?_,λk=>?_⟩,?_⟩
 ·refine h.1.below.grown hg h.1.below.size λk hk=>?_
  cases hp:π l with
  |none=>rw [hp] at hk;cases hk
  |some r=>rw [hp] at hk;simp only [Ah,Aa] at hk;rw [<-hk];exact (h.1.lt hp).2
 ·intro k r c h1 h2
  by_cases e1:k=l
  ·subst e1;rw [Eo] at h1;exact (hf r c h1 h2).1
  ·rw [Ek π r' e1] at h1;exact h.1.sub k r c h1 h2
 ·intro k r c h1 h2
  by_cases e1:k=l
  ·subst e1;rw [Eo] at h1;have:=hr r c h1 h2;exact ⟨this.1,this.2.1⟩
  ·rw [Ek π r' e1] at h1;have:=h.1.place k r c h1 h2;exact ⟨this.1,Cy this.2 hg.size⟩
 ·intro l1 l2 r1 r2 c h1 h2 h3 h4
  by_cases e1:l1=l<;>by_cases e2:l2=l
  ·rw [e1,e2]
  ·subst e1
   rw [Eo] at h1;rw [Ek π r' e2] at h2
   exact absurd h4 ((hr r1 c h1 h3).2.2 l2 r2 e2 h2)
  ·subst e2
   rw [Eo] at h2;rw [Ek π r' e1] at h1
   exact absurd h3 ((hr r2 c h2 h4).2.2 l1 r1 e1 h1)
  ·rw [Ek π r' e1] at h1;rw [Ek π r' e2] at h2
   exact h.1.inj _ _ r1 r2 c h1 h2 h3 h4
 ·intro k NS Hs
  have e:k≠l:= λe=>by subst e;omega
  rw [St.Uj st l k b e] at Hs
  rw [Ek π r' e]
  exact h.1.cD k NS λh0=>Hs (by rw [h0];rfl)
 ·by_cases e:k=l
  ·subst e
   exact Ei.Ix (by rw [Eo];exact hb m) (St.Ew st k b)
  ·have hn:=St.Uj st l k b e
   have ho:=h.1.heap k
   cases ia:Ap st.heap k with
   |none=>rw [ia] at hn;exact Ei.Pz (by rw [Ek π r' e];exact ho.emp ia) hn
   |some c=>
    rw [ia] at hn
    refine Ei.Ix ?_ hn
    rw [Ek π r' e]
    exact (ho.Ns ia).move m hg.size (λr0 c h0 h1=>h.1.sub _ r0 c h0 h1) λr0 c h0 h1 Im=>hk _ Im λr1 h2 h3=>e (h.1.inj _ _ r0 r1 c h0 h2 h1 (h.1.sub _ _ _ h2 h3))
 ·have hh:lv X w' (Ry π l r') {tmps:=st.tmps.map (·.map (Bs l)),heap:=(st.new l b).heap} a:=m.wB rfl h.2
  exact hh
def Real.one (g o cap:Nat):Real:=⟨g,o,cap,λb=>b=g,λb=>b=g⟩
theorem Ax.replace {st:St} {a:Act} (h:Ax X π st a w) (l:Nat) (hl:l<Az) (r':Option Real) (b:OB)
  (hg:w.grownBy w' ((π l).map (·.g)))
  (hr: ∀r,r'=some r->r=Real.one r.g r.o r.cap/\((∃r0,π l=some r0/\r0.g=r.g)\/w.heap.size<=r.g)/\r.g<w'.heap.size)
  (hb:Move X w w' π (Ry π l r') st.heap (st.new l b).heap (Bs l)->Bn X w' (Ry π l r') (st.new l b).heap r' b):Ax X (Ry π l r') (st.new l b) a w':=by
 refine h.dK l hl r' b hg (λr c h1 h2=>?_) (λr c h1 h2=>?_) hb
 ·obtain ⟨h3,h4,_⟩:=hr r h1
  have HZ:c=r.g:=by rw [h3] at h2;exact h2
  subst HZ
  refine ⟨by rw [h3];rfl,h4.imp (λ⟨r0,h5,h6⟩=>⟨r0,h5,h6▸h.1.Bu h5⟩) id⟩
 ·obtain ⟨h3,h4,h5⟩:=hr r h1
  have HZ:c=r.g:=by rw [h3] at h2;exact h2
  subst HZ
  refine ⟨?_,h5,λm r0 hm h6 h7=>?_⟩
  ·rcases h4 with ⟨r0,h6,h7⟩|h6
   ·rw [<-h7];exact (h.1.lt h6).2
   ·exact .inl (Kj h.1.below.size h6)
  ·rcases h4 with ⟨r1,h8,h9⟩|h8
   ·exact hm (h.1.inj m l r0 r1 r.g h6 h8 h7 (h9▸h.1.sub l r1 _ h8 (h.1.Bu h8)))
   ·have:=(h.1.place m r0 _ h6 h7).2;omega
theorem Kc.drop (h:Kc X w π H) {f:AC->AC} (l:Nat) (m:Move X w w π (Ry π l none) H H' f) (h0:Ap H' l=none) (hH: ∀k,k≠l->Ap H' k=(Ap H k).map (OB.map f)):Kc X w (Ry π l none) H':=by
 have un: ∀k r,Ry π l none k=some r->k≠l/\π k=some r:= λk r hk=>by
  by_cases e:k=l
  ·subst e;rw [Eo] at hk;cases hk
  ·rw [Ek π none e] at hk;exact ⟨e,hk⟩
 refine ⟨h.below,h.sc,λk r c h1 h2=>h.sub k r c (un k r h1).2 h2,λk r c h1 h2=>h.place k r c (un k r h1).2 h2,λl1 l2 r1 r2 c h1 h2 h3 h4=>h.inj _ _ r1 r2 c (un _ _ h1).2 (un _ _ h2).2 h3 h4,λk hp Hs=>?_,λk=>?_⟩
 ·have e:k≠l:= λe=>by subst e;exact Hs h0
  rw [hH k e] at Hs
  rw [Ek π none e]
  exact h.cD k hp λh1=>Hs (by rw [h1];rfl)
 ·by_cases e:k=l
  ·subst e
   exact Ei.Pz (by rw [Eo]) h0
  ·have hn:=hH k e
   have ho:=h.heap k
   cases ia:Ap H k with
   |none=>rw [ia] at hn;exact Ei.Pz (by rw [Ek π none e];exact ho.emp ia) hn
   |some c=>
    rw [ia] at hn
    refine Ei.Ix ?_ hn
    rw [Ek π none e]
    exact (ho.Ns ia).move m (Ao _) (λr0 c h0 h1=>h.sub _ r0 c h0 h1) λr0 c h0 h1 Im=>rfl
theorem Ax.forget {st:St} {a:Act} (h:Ax X π st a w) (l:Nat):Ax X (Ry π l none) (st.forget l) a w:=by
 have m:Move X w w π (Ry π l none) st.heap (st.forget l).heap (Bs l):=
  Move.forget (Ao _) (λ_ _ _=>rfl) (λr c hr=>by cases hr) (λm hm=>St.dh st l m hm) (λ_ _ _ _ _ _=>rfl)
 refine ⟨h.1.drop l m (St.j8 st l) λk e=>St.dh st l k e,?_⟩
 have hh:lv X w (Ry π l none) {tmps:=st.tmps.map (·.map (Bs l)),heap:=(st.forget l).heap} a:=m.wB rfl h.2
 exact hh
theorem cellOf {w:World} {g:Nat} {cur:Array Value} {tid:TypeId} (h:w.heap[g]?=some (.cells cur tid (0,0))) (i:Nat):w.cell? ⟨g,i,none⟩=cur[i]?:=by
 simp [World.cell?,h]
theorem Lk {l off len:Nat} {v:Value} {fr tr:Bool} {e:Ty} {tid:TypeId} {xs:List e.den} (h:Fe X w π H (.own l off len) v) (hl:Ap H l=some (.arr fr tr e tid xs)):off+len<=xs.length/\Fm (π l) e.size off len v:=by
 obtain ⟨b,sz,n,h1,h0,h2,h3⟩:=h
 rw [hl] at h1;cases h1
 simp only [OB.row,Aa,Ab] at h0
 obtain ⟨rfl,rfl⟩:=h0
 exact ⟨h2,h3⟩
theorem Xi {l off len:Nat} {v:Value} {e:Ty} {tid:TypeId} {xs:List e.den} (h:Fe X w π H (.own l off len) v) (hl:Ap H l=some (.Ev e tid xs)):off+len<=xs.length/\Fm (π l) e.size off len v:=by
 obtain ⟨b,sz,n,h1,h0,h2,h3⟩:=h
 rw [hl] at h1;cases h1
 simp only [OB.row,Aa,Ab] at h0
 obtain ⟨rfl,rfl⟩:=h0
 exact ⟨h2,h3⟩
theorem w6 {l off len:Nat} {v:Value} {fr tr:Bool} {e:Ty} {tid:TypeId} {xs:List e.den} (hl:Ap H l=some (.arr fr tr e tid xs)) (h1:off+len<=xs.length) (h2:Fm (π l) e.size off len v):Fe X w π H (.own l off len) v:=
 ⟨_,e.size,xs.length,hl,rfl,h1,h2⟩
theorem pI {r:Real} {off len:Nat} {v:Value} {e:Ty} {tid:TypeId} {xs:List e.den} {S:Nat->Prop} {cur:Array Value} (h2:w.heap[r.g]?=some (.cells cur tid (0,0)))
  (hlen:off+len<=xs.length) (hv:Fm (some r) e.size off len v) (hg: ¬S r.g)
  (hA: ∀(i:Nat) (x:e.den),xs[i]?=some x-> ∃es:List Value,es.length=e.size/\(∀j u,es[j]?=some u->cur[(r.o+i)*e.size+j]?=some u)/\Cells w S e es x):Cells w S (.slice e) [v] ((xs.drop off).take len):=by
 have FD:((xs.drop off).take len).length=len:=by simp;omega
 obtain ⟨ad,rfl,hc,ha⟩:=hv
 refine ⟨some ad,len,r.cap-off,rfl,FD.symm,by omega,?_⟩
 rcases Uz len with h0|h0
 ·left;subst h0;simp
 ·right
  refine ⟨r.g,(r.o+off)*e.size,by rw [ha (by omega)],Ej h2,hg,λi x hx=>?_⟩
  have hi:i<len:=by
   have:=(Ai.1 hx).1
   rw [FD] at this;exact this
  have LQ:xs[off+i]?=some x:=by
   rw [By,Af hi,Ce] at hx;exact hx
  obtain ⟨es,he,hj,qv⟩:=hA (off+i) x LQ
  refine ⟨es,he,λj u hu=>?_,qv⟩
  rw [cellOf h2]
  have:=hj j u hu
  rw [<-this]
  congr 1
  rw [<-Er,Ch (r.o+off) i]
theorem jn {l off len:Nat} {v:Value} {fr tr:Bool} {e:Ty} {tid:TypeId} {xs:List e.den} {S:Nat->Prop} (h:Kc X w π H) (hl:Ap H l=some (.arr fr tr e tid xs))
  (hlen:off+len<=xs.length) (hv:Fm (π l) e.size off len v)
  (hS: ∀k,S k->(∃r,π l=some r/\r.Bu k)->False) (hA: ∀k,k<w.heap.size->S k->Cb X.w0.heap.size X.Sc π fr k):Cells w S (.slice e) [v] ((xs.drop off).take len):=by
 have hb:=(h.heap l).Ns hl
 simp only [Bn,Hg] at hb
 cases hp:π l with
 |none=>
  rw [hp] at hb hv
  obtain ⟨rfl,rfl,rfl⟩:=hv
  exact ⟨none,0,0,rfl,by simp,Ao _, .inl (by simp)⟩
 |some r=>
  rw [hp] at hb hv
  obtain ⟨h1,cur,_,h2,h3,h4,h5,h6,_⟩:=hb
  refine pI h2 hlen hv (λhs=>hS _ hs ⟨r,hp,h1.1⟩) λi x hx=>?_
  obtain ⟨es,he,hj,qv⟩:=h6 i x hx
  exact ⟨es,he,hj,Cells.Ep (Ao _) (λ_ _ _=>rfl) hA e es x qv⟩
theorem Oe.slice {D S:Nat->Prop} {R:Option Real} {e:Ty} {x:List e.den} {u:Value} (h:Oe w D R e x) (hv:Fm R e.size 0 (List.length x) u) (hD: ∀k,S k->D k) (hg: ∀q,R=some q-> ¬S q.g):Cells w S (.slice e) [u] x:=by
 cases R with
 |none=>
  have hx:x= []:=h
  subst hx
  obtain ⟨rfl,_,_⟩:=hv
  exact ⟨none,0,0,rfl,rfl,Ao _, .inl rfl⟩
 |some q=>
  obtain ⟨h1,cur,ti,h2,h3,h4,h5,h6⟩:=h
  obtain ⟨ad,rfl,g1,g2⟩:=hv
  refine ⟨some ad,List.length x,_,rfl,rfl,by omega,?_⟩
  rcases Uz (List.length x) with hx|hx
  ·exact .inl (Cj hx)
  ·have yv:=g2 (by omega)
   subst yv
   refine .inr ⟨q.g,(q.o+0)*e.size,rfl,Ej h2,hg q rfl,λi y hy=>?_⟩
   obtain ⟨es,k1,k2,k3⟩:=h6 i y hy
   refine ⟨es,k1,λj u hu=>?_,Cells.Ep (Ao _) (λ_ _ _=>rfl) (λk _ hk=>hD k hk) e es y k3⟩
   rw [cellOf h2,Dc,<-Ch]
   exact k2 j u hu
theorem iE {l off len:Nat} {v:Value} {e:Ty} {te:TypeId} {rows:List (List e.den)} {out:Option Nat} {kp:Option (Nat×Nat)} (h:Fe X w π H (.own l off len) v) (hl:Ap H l=some (.Bc e te rows out kp)):off+len<=rows.length/\Fm (π l) 1 off len v:=by
 obtain ⟨b,sz,n,h1,h2,h3,h4⟩:=h
 rw [hl] at h1;cases h1
 simp only [OB.row,Aa,Ab] at h2
 obtain ⟨rfl,rfl⟩:=h2
 exact ⟨h3,h4⟩
theorem m6 {l off len:Nat} {v:Value} {e:Ty} {te:TypeId} {rows:List (List e.den)} {kp:Option (Nat×Nat)} {S:Nat->Prop} (h:Kc X w π H) (hl:Ap H l=some (.Bc e te rows none kp))
  (hlen:off+len<=rows.length) (hv:Fm (π l) 1 off len v)
  (hS: ∀k,S k->(∃r,π l=some r/\r.Bu k)->False) (hA: ∀k,S k->Cb X.w0.heap.size X.Sc π false k):Cells w S (.slice (.slice e)) [v] ((rows.drop off).take len):=by
 have hb:=(h.heap l).Ns hl
 simp only [Bn] at hb
 have hb:=hb.1
 cases hp:π l with
 |none=>
  rw [hp] at hb hv
  have hb:rows= []:=hb
  obtain ⟨rfl,rfl,rfl⟩:=hv
  exact ⟨none,0,0,rfl,by simp,Ao _, .inl (by simp)⟩
 |some r=>
  rw [hp] at hb hv
  obtain ⟨h1,cur,ti,h2,h3,h4,h5,Rs,h6,h7,h8,h9⟩:=hb
  obtain ⟨ad,rfl,g1,g2⟩:=hv
  refine ⟨some ad,len,_,rfl,by simp;omega,by omega,?_⟩
  rcases Uz len with hx|hx
  ·subst hx;exact .inl (by simp)
  ·have yv:=g2 (by omega)
   subst yv
   refine .inr ⟨r.g,(r.o+off)*1,rfl,Ej h2,λhs=>hS _ hs ⟨r,hp,h1⟩,λi x hx=>?_⟩
   have hx:((rows.drop off).take len)[i]?=some x:=hx
   rw [By] at hx
   split at hx
   ·rw [Ce] at hx
    obtain ⟨u,R,k1,k2,k3,k4⟩:=h9 _ x hx (by simp)
    refine ⟨[u],rfl,λj u' cv=>?_,k4.slice k3 hA λq hq hs=>hS _ hs ⟨r,hp,(h7 _ q (by rw [k2,hq])).1⟩⟩
    rcases j with _|j
    ·simp only [Bd,Aa] at cv
     subst cv
     rw [cellOf h2,<-k1]
     congr 1
     simp only [Ty.size];omega
    ·simp at cv
   ·cases hx
theorem ta {l i c:Nat} {v:Value} {e:Ty} {te:TypeId} {rows:List (List e.den)} {out:Option Nat} {kp:Option (Nat×Nat)} (hv:Fe X w π H (.sub l i c) v) (hl:Ap H l=some (.Bc e te rows out kp)):rows[i]?=some (rows.getD i []):=by
 obtain ⟨r,b,sz,n,h1,h0,_,h3,_⟩:=hv
 rw [hl] at h1;cases h1
 simp only [OB.c6,Aa,Ab] at h0
 obtain ⟨rfl,rfl⟩:=h0
 rw [An,Ac h3];rfl
theorem hJ {l i:Nat} {e:Ty} {te:TypeId} {rows:List (List e.den)} {out:Option Nat} {kp:Option (Nat×Nat)} {r:Real} (h:Kc X w π H) (hl:Ap H l=some (.Bc e te rows out kp)) (hp:π l=some r) (hi:i<rows.length) (ho:out≠some i):
  ∃u R,w.cell? ⟨r.g,r.o+i,none⟩=some u/\Fm R e.size 0 (rows.getD i []).length u/\Oe w (Cb X.w0.heap.size X.Sc π false) R e (rows.getD i []):=by
 have hb:=(h.heap l).Ns hl
 simp only [Bn] at hb
 have hb:=hb.1
 rw [hp] at hb
 obtain ⟨h1,cur,ti,h2,h3,h4',h5',Rs,h6,h7,h8,h9⟩:=hb
 have hx:rows[i]?=some (rows.getD i []):=by rw [An,Ac hi];rfl
 obtain ⟨u,R,k1,k2,k3,k4⟩:=h9 _ _ hx ho
 exact ⟨u,R,by rw [cellOf h2];exact k1,k3,k4⟩
theorem Vr {R:Option Real} {sz off len:Nat} {u:Value} (h:Fm R sz off len u): ∃a n m,u= .slice a n m:=by
 cases R with
 |none=>exact ⟨_,_,_,h.1⟩
 |some q=>obtain ⟨ad,rfl,_⟩:=h;exact ⟨_,_,_,rfl⟩
theorem m7 {l i c:Nat} {v:Value} {e:Ty} {te:TypeId} {rows:List (List e.den)} {kp:Option (Nat×Nat)} {x:List e.den} {S:Nat->Prop} (h:Kc X w π H) (hl:Ap H l=some (.Bc e te rows none kp)) (hx:rows[i]?=some x)
  (hv:Fe X w π H (.sub l i c) v)
  (hS: ∀k,S k->(∃r,π l=some r/\r.Bu k)->False) (hA: ∀k,S k->Cb X.w0.heap.size X.Sc π false k):Cells w S (.slice e) [v] x:=by
 obtain ⟨r,b,sz,n,h1,h0,hp,h3,⟨h4,_⟩,h5⟩:=hv
 rw [hl] at h1;cases h1
 simp only [OB.c6,Aa,Ab] at h0
 obtain ⟨rfl,rfl⟩:=h0
 have hb:=(h.heap l).Ns hl
 simp only [Bn] at hb
 have hb:=hb.1
 rw [hp] at hb
 obtain ⟨h1,cur,ti,h2,h3,h4',h5',Rs,h6,h7,h8,h9⟩:=hb
 obtain ⟨u,R,k1,k2,k3,k4⟩:=h9 _ x hx (by simp)
 have:c=0:=by omega
 subst this
 rw [cellOf h2,Dt,Dc,k1] at h5
 have hv:=Aw h5
 subst hv
 exact k4.slice k3 hA λq hq hs=>hS _ hs ⟨r,hp,(h7 _ q (by rw [k2,hq])).1⟩
theorem gw {l off len:Nat} {v:Value} {e:Ty} {tid:TypeId} {xs:List e.den} {S:Nat->Prop} (h:Kc X w π H) (hl:Ap H l=some (.Ev e tid xs))
  (hlen:off+len<=xs.length) (hv:Fm (π l) e.size off len v)
  (hS: ∀k,S k->(∃r,π l=some r/\r.Bu k)->False):Cells w S (.slice e) [v] ((xs.drop off).take len):=by
 have hb:=(h.heap l).Ns hl
 simp only [Bn,Kz] at hb
 cases hp:π l with
 |none=>
  rw [hp] at hb hv
  obtain ⟨rfl,rfl,rfl⟩:=hv
  exact ⟨none,0,0,rfl,by simp,Ao _, .inl (by simp)⟩
 |some r=>
  rw [hp] at hb hv
  obtain ⟨h1,cur,_,h2,h3,h4,h5,Fs,k1,k2,k3,k4⟩:=hb
  refine pI h2 hlen hv (λhs=>hS _ hs ⟨r,hp,h1⟩) λi x hx=>?_
  have hi:i<Fs.length:=by have:=(Ai.1 hx).1;omega
  obtain ⟨es,he,hj,qv⟩:=k4 i x _ hx (Ac hi)
  exact ⟨es,he,hj,qv.cells _ _ _ _ λb hb hs=>hS b hs ⟨r,hp,k3 b (Fc.2 ⟨_,Ar hi,hb⟩)⟩⟩
theorem St.Ny (st:St) (l m:Nat) (fr:Bool) (e:Ty) (xs:List e.den) (h:m≠l):Ap (st.freeze l fr e xs).heap m=(Ap st.heap m).map (OB.map (Ca l fr e xs)):=by
 simp only [St.freeze,St.Ih]
 rw [Kt _ _ _ h,Lr]
theorem St.Jn (st:St) (l:Nat) (fr:Bool) (e:Ty) (xs:List e.den):Ap (st.freeze l fr e xs).heap l=none:=by
 simp only [St.freeze,St.Ih]
 exact Ju _ _
theorem lL {l:Nat} {B:Nat} {Sc:Nat->Prop} {fr:Bool} {k:Nat} (hA:Cb B Sc (Ry π l none) fr k):Cb B Sc π fr k:=by
 rcases hA with ⟨m,r,hm,hg⟩|h2
 ·by_cases cB:m=l
  ·subst cB;rw [Eo] at hm;cases hm
  ·rw [Ek π none cB] at hm
   exact .inl ⟨m,r,hm,hg⟩
 ·exact .inr h2
theorem Kc.let (h:Kc X w π H) {l:Nat} {fr:Bool} (tf:fr=true-> ∀r,π l=some r-> ∀b,r.Bu b->X.w0.heap.size<=b) {k:Nat} (hS:Cb X.w0.heap.size X.Sc (Ry π l none) fr k) (hk: ∃r,π l=some r/\r.Bu k):False:=by
 obtain ⟨r,hr,vS⟩:=hk
 rcases hS with ⟨m,r',hm,hg⟩|hS|⟨hf,hS⟩
 ·by_cases cB:m=l
  ·subst cB;rw [Eo] at hm;cases hm
  ·rw [Ek π none cB] at hm
   exact cB (h.apart hm hr hg vS)
 ·have h1:=h.sc k hS
  rcases (h.own ⟨l,r,hr,vS⟩).2 with h2|h2
  ·omega
  ·exact h1.2 h2
 ·have:=tf hf r hr k vS;omega
theorem Move.xr {l:Nat} {f:AC->AC} (hf: ∀c v,Fe X w π H c v->(∀k∈c.refs,k≠l)->f c=c)
  (hl: ∀c v,Fe X w π H c v->l∈c.refs->Fe X w (Ry π l none) H' (f c) v)
  (hH: ∀m,m≠l->Ap H' m=(Ap H m).map (OB.map f)):Move X w w π (Ry π l none) H H' f:=by
 have hc: ∀Rj τ cs x,Cells w (Cb X.w0.heap.size X.Sc π Rj) τ cs x->Cells w (Cb X.w0.heap.size X.Sc (Ry π l none) Rj) τ cs x:=
  fun Rj τ cs x hh=>Cells.Ep (Ao _) (λ_ _ _=>rfl) (λk _ hA=>lL hA) τ cs x hh
 refine ⟨λc v vM=>?_,hc⟩
 by_cases GF:l∈c.refs
 ·exact hl c v vM GF
 ·rw [hf c v vM λk hk e=>GF (e▸hk)]
  cases c with
  |data Rj τ x=>obtain ⟨cs,h1,h2⟩:=vM;exact ⟨cs,hc _ _ _ _ h1,h2⟩
  |own k off len=>
   have Om:k≠l:= λe=>GF (by simp [AC.refs,e])
   obtain ⟨b,sz,n,h1,h0,h2,h3⟩:=vM
   exact ⟨b.map f,sz,n,by rw [hH k Om,h1];rfl,by cases b<;>exact h0,h2,by rw [Ek π none Om];exact h3⟩
  |Ez k i=>
   have Om:k≠l:= λe=>GF (by simp [AC.refs,e])
   obtain ⟨r,Qj,vs,h1,h2,h3⟩:=vM
   exact ⟨r,Qj,vs.map f,by rw [hH k Om,h1];rfl,by rw [Ek π none Om];exact h2,h3⟩
  |Hj k i=>
   have Om:k≠l:= λe=>GF (by simp [AC.refs,e])
   obtain ⟨r,b,sz,n,h1,h0,h2,h3,h4⟩:=vM
   exact ⟨r,b.map f,sz,n,by rw [hH k Om,h1];rfl,by cases b<;>exact h0,h2,by rw [Ek π none Om];exact h3,h4⟩
  |sub k i c=>
   have Om:k≠l:= λe=>GF (by simp [AC.refs,e])
   obtain ⟨r,b,sz,n,h1,h0,h2,h3⟩:=vM
   exact ⟨r,b.map f,sz,n,by rw [hH k Om,h1];rfl,by cases b<;>exact h0,by rw [Ek π none Om];exact h2,h3⟩
  |Hf k i c=>
   have Om:k≠l:= λe=>GF (by simp [AC.refs,e])
   obtain ⟨r,b,n,sz,g,o,len,cap,h1,h0,h2,h3⟩:=vM
   exact ⟨r,b.map f,n,sz,g,o,len,cap,by rw [hH k Om,h1];rfl,by cases b<;>exact h0,by rw [Ek π none Om];exact h2,h3⟩
  |clo g Cx=>
   obtain ⟨us,h1,h2,h3⟩:=vM
   refine ⟨us,h1,h2,λj p hp=>?_⟩
   obtain ⟨r,tid,vs,h4,h5,h6⟩:=h3 j p hp
   have fa:p.1≠l:= λe=>GF (by simp only [AC.refs,Bq];exact ⟨p,Bo hp,e⟩)
   exact ⟨r,tid,vs.map f,by rw [hH _ fa,h4];rfl,by rw [Ek π none fa];exact h5,h6⟩
  |Hv k=>
   have Om:k≠l:= λe=>GF (by simp [AC.refs,e])
   obtain ⟨r,vt,m,h1,h2,h3⟩:=vM
   exact ⟨r,vt,m,by rw [hH k Om,h1];rfl,by rw [Ek π none Om];exact h2,h3⟩
  |_=>exact vM
theorem cV {l:Nat} {ls:List Nat} (h: ∀k∈ls,k≠l):ls.contains l=false:=by
 cases hc:ls.contains l with
 |false=>rfl
 |true=>exact absurd rfl (h l (by simpa using hc))
theorem di {l:Nat} {fr:Bool} {e:Ty} {xs:List e.den} {c:AC} (h: ∀k∈c.refs,k≠l):Ca l fr e xs c=c:=by
 cases c<;>simp only [Ca]<;>first|rfl|skip
 case clo f Cx=>rw [Aj (by rw [cV (show ∀k∈Cx.map (·.1),k≠l from h)];simp)]
 all_goals rw [Aj (h _ (by simp [AC.refs]))]
theorem m5 {l:Nat} {v:Ty} {m:ByteArray->Option v.den} {c:AC} (h: ∀k∈c.refs,k≠l):Ey l v m c=c:=by
 cases c<;>simp only [Ey]<;>first|rfl|skip
 case clo f Cx=>rw [Aj (by rw [cV (show ∀k∈Cx.map (·.1),k≠l from h)];simp)]
 all_goals rw [Aj (h _ (by simp [AC.refs]))]
theorem Move.freeze {l:Nat} {fr:Bool} {e:Ty} {xs:List e.den}
  (QM: ∀off len v,Fe X w π H (.own l off len) v->Cells w (Cb X.w0.heap.size X.Sc (Ry π l none) fr) (.slice e) [v] ((xs.drop off).take len))
  (hH: ∀m,m≠l->Ap H' m=(Ap H m).map (OB.map (Ca l fr e xs))):Move X w w π (Ry π l none) H H' (Ca l fr e xs):=by
 refine Move.xr (λc v _ h=>di h) (λc v vM hr=>?_) hH
 cases c with
 |own k off len=>
  have:k=l:=(Ad.1 hr).symm
  subst this
  simp only [Ca,Af]
  exact ⟨[v],QM off len v vM,by simp [Bi,Ty.Ak]⟩
 |Ez k i=>have:k=l:=(Ad.1 hr).symm
          subst this;simp only [Ca,Af];trivial
 |Hj k i=>have:k=l:=(Ad.1 hr).symm
          subst this;simp only [Ca,Af];trivial
 |sub k i c=>have:k=l:=(Ad.1 hr).symm
             subst this;simp only [Ca,Af];trivial
 |Hf k i c=>have:k=l:=(Ad.1 hr).symm
            subst this;simp only [Ca,Af];trivial
 |Hv k=>have:k=l:=(Ad.1 hr).symm
        subst this;simp only [Ca,Af];trivial
 |clo f Cx=>
  simp only [Ca]
  rw [Af (by simpa [AC.refs] using hr)];trivial
 |_=>simp [AC.refs] at hr
theorem Ax.freeze {st:St} {a:Act} (h:Ax X π st a w) {l:Nat} {fr:Bool} {e:Ty} {xs:List e.den}
  (hl:(∃tr tid,Ap st.heap l=some (.arr fr tr e tid xs))\/(fr=false/\ ∃tid,Ap st.heap l=some (.Ev e tid xs))):
  Ax X (Ry π l none) (st.freeze l fr e xs) a w/\Move X w w π (Ry π l none) st.heap (st.freeze l fr e xs).heap (Ca l fr e xs):=by
 have m:Move X w w π (Ry π l none) st.heap (st.freeze l fr e xs).heap (Ca l fr e xs):=by
  refine Move.freeze (λoff len v hv=>?_) (λm hm=>St.Ny st l m fr e xs hm)
  rcases hl with ⟨tr,tid,hl⟩|⟨rfl,tid,hl⟩
  ·obtain ⟨h2,h3⟩:=Lk hv hl
   refine jn h.1 hl h2 h3 (λk hk=>?_) λk _ hk=>lL hk
   intro ⟨r,hr,vS⟩
   have hb:=(h.1.heap l).Ns hl
   simp only [Bn,Hg,hr] at hb
   by_cases TD:k=r.g
   ·subst TD
    rcases hk with ⟨m,r',hm,hg⟩|hS|⟨hf,hS⟩
    ·by_cases cB:m=l
     ·subst cB;rw [Eo] at hm;cases hm
     ·rw [Ek π none cB] at hm
      exact cB (h.1.apart hm hr hg vS)
    ·have h1:=h.1.sc _ hS
     rcases (h.1.own ⟨l,r,hr,vS⟩).2 with h2|h2
     ·omega
     ·exact h1.2 h2
    ·have:=hb.1.2.2 hf;omega
   ·exact absurd (hb.1.2.1 k vS) TD
  ·obtain ⟨h2,h3⟩:=Xi hv hl
   exact gw h.1 hl h2 h3 λk hk hr=>h.1.let (λhf=>by cases hf) hk hr
 refine ⟨⟨h.1.drop l m (St.Jn st l fr e xs) λk e'=>St.Ny st l k fr e xs e',?_⟩,m⟩
 have hh:lv X w (Ry π l none) {tmps:=st.tmps.map (·.map (Ca l fr e xs)),heap:=(st.freeze l fr e xs).heap} a:=m.wB rfl h.2
 exact hh
theorem St.Nm (st:St) (l k:Nat) (v:Ty) (m:ByteArray->Option v.den) (h:k≠l):Ap (st.Gf l v m).heap k=(Ap st.heap k).map (OB.map (Ey l v m)):=by
 simp only [St.Gf,St.Ih]
 rw [Kt _ _ _ h,Lr]
theorem St.Pa (st:St) (l:Nat) (v:Ty) (m:ByteArray->Option v.den):Ap (st.Gf l v m).heap l=none:=by
 simp only [St.Gf,St.Ih]
 exact Ju _ _
theorem pO {r:Option Real} {v:Ty} {m:ByteArray->Option v.den} {g:Nat} {S:Nat->Prop} (h:AH w r v m) (hg:r.map (·.g)=some g) (hS: ¬S g):Cells w S (.smap v) [.map (some g)] m:=by
 obtain ⟨r',h0,h1,h2,h3⟩:=h
 rw [h0] at hg
 simp only [Ah,Aa] at hg
 subst hg
 simp only [Cells] at h3⊢
 rcases h3 with ⟨h3,_⟩|⟨g,h3,hg,_,es,clock,h4,h5,h6,h7⟩
 ·simp at h3
 ·simp only [Es,Value.map.injEq,Aa,cA] at h3
  subst h3
  refine .inr ⟨r'.g,rfl,hg,hS,es,clock,h4,h5,h6,λs y hy=>?_⟩
  obtain ⟨u,h8,h9⟩:=h7 s y hy
  exact ⟨u,h8,Cells.flat v [u] y h2.1 h9⟩
theorem Ax.Gf {st:St} {a:Act} (h:Ax X π st a w) {l:Nat} {v:Ty} {m:ByteArray->Option v.den} (hl:Ap st.heap l=some (.Qy v m)):
  Ax X (Ry π l none) (st.Gf l v m) a w/\Move X w w π (Ry π l none) st.heap (st.Gf l v m).heap (Ey l v m):=by
 have mv:Move X w w π (Ry π l none) st.heap (st.Gf l v m).heap (Ey l v m):=by
  refine Move.xr (λc u _ h=>m5 h) (λc u vM hr=>?_) (λk hk=>St.Nm st l k v m hk)
  cases c with
  |Hv k=>
   have:k=l:=(Ad.1 hr).symm
   subst this
   simp only [Ey,Af]
   obtain ⟨r,vt,m',h1,h2,rfl⟩:=vM
   exact ⟨[_],pO ((h.1.heap k).Ns hl) (by rw [h2];rfl) λhS=>h.1.let (λhf=>by cases hf) hS ⟨r,h2,h.1.Bu h2⟩,by simp [Bi,Ty.Ak]⟩
  |own k off len=>have:k=l:=(Ad.1 hr).symm
                  subst this;simp only [Ey,Af];trivial
  |Ez k i=>have:k=l:=(Ad.1 hr).symm
           subst this;simp only [Ey,Af];trivial
  |Hj k i=>have:k=l:=(Ad.1 hr).symm
           subst this;simp only [Ey,Af];trivial
  |sub k i c=>have:k=l:=(Ad.1 hr).symm
              subst this;simp only [Ey,Af];trivial
  |Hf k i c=>have:k=l:=(Ad.1 hr).symm
             subst this;simp only [Ey,Af];trivial
  |clo f Cx=>
   simp only [Ey]
   rw [Af (by simpa [AC.refs] using hr)];trivial
  |_=>simp [AC.refs] at hr
 refine ⟨⟨h.1.drop l mv (St.Pa st l v m) λk e'=>St.Nm st l k v m e',?_⟩,mv⟩
 have hh:lv X w (Ry π l none) {tmps:=st.tmps.map (·.map (Ey l v m)),heap:=(st.Gf l v m).heap} a:=mv.wB rfl h.2
 exact hh
def OB.fits:OB->OB->Prop
 | .arr _ _ e _ xs, .arr _ _ e' _ SC=>e=e'/\xs.length<=SC.length
 | .var _ _, .var _ _=>True
 | .Qy _ _, .Qy _ _=>True
 |_,_=>False
theorem Move.JR {tc:Nat->Prop} {π':Pi} (hs:w.heap.size<=w'.heap.size)
  (hk: ∀k,k<w.heap.size->(∀l r,tc l->π l=some r-> ¬r.Bu k)->w'.heap[k]?=w.heap[k]?)
  (hO: ∀b,b<w.heap.size->Qk π' b->Qk π b)
  (hH: ∀m,¬tc m->Ap H' m=Ap H m/\π' m=π m) (IA: ∀m,tc m->Wl (π m) (π' m)/\ ∀b0,Ap H m=some b0-> ∃b,Ap H' m=some b/\b0.fits b)
  (hx: ∀m r,¬tc m->π m=some r->(∃b,Ap H m=some b/\b.c6≠none)->r.g<w.heap.size->w'.heap[r.g]?=w.heap[r.g]?):Move X w w' π π' H H' (λc=>c):=by
 have hc: ∀fr τ cs x,Cells w (Cb X.w0.heap.size X.Sc π fr) τ cs x->Cells w' (Cb X.w0.heap.size X.Sc π' fr) τ cs x:=by
  intro fr τ cs x h
  exact Cells.Ep hs (λk mc hn=>hk k mc λl r _ h0 h1=>hn (.inl ⟨l,r,h0,h1⟩)) (λk Im hA=>hA.imp (hO k Im) id) τ cs x h
 have same: ∀m r,π m=some r-> ∃r',π' m=some r'/\r.g=r'.g/\r.o=r'.o/\r.cap=r'.cap:=by
  intro m r hm
  by_cases ht:tc m
  ·have:=(IA m ht).1
   rw [hm] at this
   cases hp:π' m with
   |none=>rw [hp] at this;exact this.elim
   |some r'=>rw [hp] at this;exact ⟨r',rfl,this.1,this.2.1,this.2.2.1⟩
  ·exact ⟨r,by rw [(hH m ht).2];exact hm,rfl,rfl,rfl⟩
 have fit: ∀m b,Ap H m=some b-> ∃b',Ap H' m=some b'/\(b'=b\/b.fits b'):=by
  intro m b hm
  by_cases ht:tc m
  ·obtain ⟨b',h1,h2⟩:=(IA m ht).2 b hm;exact ⟨b',h1, .inr h2⟩
  ·exact ⟨b,by rw [(hH m ht).1];exact hm, .inl rfl⟩
 refine ⟨λc v h=>?_,hc⟩
 cases c with
 |data fr τ x=>obtain ⟨cs,h1,h2⟩:=h;exact ⟨cs,hc _ _ _ _ h1,h2⟩
 |own k off len=>
  obtain ⟨b,sz,n,h1,h0,h2,h3⟩:=h
  have nG:Fm (π' k) sz off len v:=by
   cases hp:π k with
   |none=>
    rw [hp] at h3
    have:π' k=none:=by
     by_cases ht:tc k
     ·have:=(IA k ht).1
      rw [hp] at this
      cases xD:π' k with
      |none=>rfl
      |some r'=>rw [xD] at this;exact this.elim
     ·rw [(hH k ht).2];exact hp
    rw [this];exact h3
   |some r=>
    rw [hp] at h3
    obtain ⟨r',h4,h5,h6,h7⟩:=same k r hp
    rw [h4]
    unfold Fm at h3⊢
    simp only at h3⊢
    rw [<-h5,<-h6,<-h7]
    exact h3
  obtain ⟨b',h4,h5⟩:=fit k b h1
  rcases h5 with rfl|h5
  ·exact ⟨_,sz,n,h4,h0,h2,nG⟩
  ·cases b<;>cases b'<;>first|exact h5.elim|(simp [OB.row] at h0;done)|skip
   ·obtain ⟨rfl,hlen⟩:=h5
    simp only [OB.row,Aa,Ab] at h0
    obtain ⟨rfl,rfl⟩:=h0
    exact ⟨_,_,_,h4,rfl,by omega,nG⟩
 |Ez k i=>
  obtain ⟨r,tid,vs,h1,h2,h3⟩:=h
  obtain ⟨r',h4,h5,_⟩:=same k r h2
  obtain ⟨b',h6,h7⟩:=fit k _ h1
  rcases h7 with rfl|h7
  ·exact ⟨r',tid,vs,h6,h4,by rw [<-h5];exact h3⟩
  ·cases b'<;>first|exact h7.elim|exact ⟨r',_,_,h6,h4,by rw [<-h5];exact h3⟩
 |Hj k i=>
  obtain ⟨r,b,sz,n,h1,h0,h2,h3,h4⟩:=h
  obtain ⟨r',h5,h6,h7,_⟩:=same k r h3
  obtain ⟨b',h8,h9⟩:=fit k _ h1
  rcases h9 with rfl|h9
  ·exact ⟨r',_,sz,n,h8,h0,h2,h5,by rw [<-h6,<-h7];exact h4⟩
  ·cases b<;>cases b'<;>first|exact h9.elim|(simp [OB.row] at h0;done)|skip
   obtain ⟨rfl,hlen⟩:=h9
   simp only [OB.row,Aa,Ab] at h0
   obtain ⟨rfl,rfl⟩:=h0
   exact ⟨r',_,_,_,h8,rfl,by omega,h5,by rw [<-h6,<-h7];exact h4⟩
 |sub k i c=>
  obtain ⟨r,b,sz,n,h1,h0,h2,h3,h4,h5⟩:=h
  by_cases ht:tc k
  ·obtain ⟨b',h6,h7⟩:=(IA k ht).2 _ h1
   cases b<;>first|(cases h0;done)|skip
   all_goals (cases b'<;>exact h7.elim)
  ·exact ⟨r,b,sz,n,by rw [(hH k ht).1];exact h1,h0,by rw [(hH k ht).2];exact h2,h3,h4,by rw [World.cell?_of_block (hx k r ht h2 ⟨b,h1,by rw [h0];simp⟩ (Xy h5))];exact h5⟩
 |Hf k i c=>
  obtain ⟨r,b,n,sz,g,o,len,cap,h1,h0,h2,h3,h4,h5,h6⟩:=h
  by_cases ht:tc k
  ·obtain ⟨b',h6,h7⟩:=(IA k ht).2 _ h1
   cases b<;>first|(cases h0;done)|skip
   all_goals (cases b'<;>exact h7.elim)
  ·exact ⟨r,b,n,sz,g,o,len,cap,by rw [(hH k ht).1];exact h1,h0,by rw [(hH k ht).2];exact h2,h3,h4,by rw [World.cell?_of_block (hx k r ht h2 ⟨b,h1,by cases b<;>first|(cases h0;done)|simp [OB.c6]⟩ (Xy h5))];exact h5,h6⟩
 |clo f Cx=>
  obtain ⟨us,h1,h2,h3⟩:=h
  refine ⟨us,h1,h2,λj p hp=>?_⟩
  obtain ⟨r,tid,vs,h4,h5,h6⟩:=h3 j p hp
  obtain ⟨r',h7,h8,_⟩:=same _ r h5
  obtain ⟨b',h9,lb⟩:=fit _ _ h4
  rcases lb with rfl|lb
  ·exact ⟨r',tid,vs,h9,h7,by rw [<-h8];exact h6⟩
  ·cases b'<;>first|exact lb.elim|exact ⟨r',_,_,h9,h7,by rw [<-h8];exact h6⟩
 |Hv k=>
  obtain ⟨r,vt,m,h1,h2,h3⟩:=h
  obtain ⟨r',h4,h5,_⟩:=same k r h2
  obtain ⟨b',h6,h7⟩:=fit k _ h1
  rcases h7 with rfl|h7
  ·exact ⟨r',vt,m,h6,h4,by rw [<-h5];exact h3⟩
  ·cases b'<;>first|exact h7.elim|exact ⟨r',_,_,h6,h4,by rw [<-h5];exact h3⟩
 |_=>exact h
def Real.plus (r:Real) (N:List Nat):Real:= {r with cl:= λc=>r.cl c\/c∈N}
theorem Ax.YC {st:St} {a:Act} (h:Ax X π st a w) {l:Nat} {b0 b:OB} (hl:Ap st.heap l=some b0) (hf:b0.fits b) {r:Real} (hr:π l=some r) {N:List Nat}
  (hN: ∀c∈N,(X.w0.heap.size<=c\/X.gv c)/\c<w.heap.size/\ ∀m r0,m≠l->π m=some r0-> ¬r0.cl c) (hg:w.grownBy w' (some r.g))
  (hb:Move X w w' π (Ry π l (some (r.plus N))) st.heap (st.He l b).heap (λc=>c)->Bn X w' (Ry π l (some (r.plus N))) (st.He l b).heap (some (r.plus N)) b):Ax X (Ry π l (some (r.plus N))) (st.He l b) a w':=by
 have hk: ∀k,k<w.heap.size-> ¬r.Bu k->w'.heap[k]?=w.heap[k]?:= λk hk hn=>hg.block k hk (by
  intro e
  simp only [Aa] at e
  exact hn (e▸h.1.Bu hr))
 have o0: ∀k q,Ry π l (some (r.plus N)) k=some q-> ∃q0,π k=some q0/\(q=q0\/(k=l/\q0=r/\q=r.plus N)):= λk q hq=>by
  by_cases e:k=l
  ·subst e;rw [Eo] at hq;exact ⟨r,hr, .inr ⟨rfl,rfl,(Aw hq).symm⟩⟩
  ·rw [Ek π _ e] at hq;exact ⟨q,hq, .inl rfl⟩
 have UI: ∀k q q0 c,(q=q0\/(k=l/\q0=r/\q=r.plus N))->q.cl c->q0.cl c\/(k=l/\c∈N):= λk q q0 c h1 h2=>by
  rcases h1 with rfl|⟨rfl,rfl,rfl⟩
  ·exact .inl h2
  ·rcases h2 with h2|h2
   ·exact .inl h2
   ·exact .inr ⟨rfl,h2⟩
 have ft: ∀k q q0 c,(q=q0\/(k=l/\q0=r/\q=r.plus N))->(q.Bu c↔q0.Bu c):= λk q q0 c h1=>by
  rcases h1 with rfl|⟨rfl,rfl,rfl⟩<;>exact Iff.rfl
 have m:Move X w w' π (Ry π l (some (r.plus N))) st.heap (st.He l b).heap (λc=>c):=Move.JR (tc:= λk=>k=l) hg.size (λk Im hn=>hk k Im (hn l r rfl hr)) (λc _ ⟨k,q,h1,h2⟩=>by
   obtain ⟨q0,h3,h4⟩:=o0 k q h1
   exact ⟨k,q0,h3,(ft k q q0 c h4).1 h2⟩)
  (λm hm=>⟨Cu _ _ _ _ hm,Ek π _ hm⟩) (λm hm=>by subst hm;exact ⟨by rw [hr,Eo];exact ⟨rfl,rfl,rfl,λ_=>Iff.rfl⟩,λb1 h1=>by rw [hl] at h1;cases h1;exact ⟨b,Dj _ _ _ _ hl,hf⟩⟩)
  (λm r' hm h1 _ Im=>hk _ Im λh3=>hm (h.1.apart h1 hr (h.1.Bu h1) h3))
 refine ⟨⟨?_,h.1.sc,λk q c h1 h2=>?_,λk q c h1 h2=>?_,λk k' q q' c h1 h2 h3 h4=>?_,λk hp Hs=>?_,λk=>?_⟩,?_⟩
 ·exact h.1.below.grown hg h.1.below.size λk hk=>by cases hk;exact (h.1.lt hr).2
 ·obtain ⟨q0,h3,h4⟩:=o0 k q h1
  have:=h.1.sub k q0 c h3 ((ft k q q0 c h4).1 h2)
  rcases h4 with rfl|⟨rfl,rfl,rfl⟩
  ·exact this
  ·exact .inl this
 ·obtain ⟨q0,h3,h4⟩:=o0 k q h1
  rcases UI k q q0 c h4 h2 with h5|⟨_,h5⟩
  ·exact ⟨(h.1.place k q0 c h3 h5).1,Cy (h.1.place k q0 c h3 h5).2 hg.size⟩
  ·exact ⟨(hN c h5).1,Cy (hN c h5).2.1 hg.size⟩
 ·obtain ⟨q0,g1,g2⟩:=o0 k q h1
  obtain ⟨MM,g3,g4⟩:=o0 k' q' h2
  rcases UI k q q0 c g2 h3 with h5|⟨h5,h6⟩<;>rcases UI k' q' MM c g4 h4 with h7|⟨h7,h8⟩
  ·exact h.1.inj k k' q0 MM c g1 g3 h5 h7
  ·refine Cd λhn=>(hN c h8).2.2 k q0 (λe=>hn (e.trans h7.symm)) g1 h5
  ·refine Cd λhn=>(hN c h6).2.2 k' MM (λe=>hn (h5.trans e.symm)) g3 h7
  ·rw [h5,h7]
 ·by_cases e:k=l
  ·subst e
   have:=h.1.cD k hp (by rw [hl];simp)
   rw [hr] at this
   rw [Eo]
   cases hx:X.cD k with
   |none=>rw [hx] at this;exact this.elim
   |some q=>rw [hx] at this;exact this
  ·rw [Ek π _ e]
   exact h.1.cD k hp λh0=>Hs (by rw [show Ap (st.He l b).heap k=Ap st.heap k from Cu _ _ _ _ e];exact h0)
 ·by_cases e:k=l
  ·subst e
   exact Ei.Ix (by rw [Eo];exact hb m) (Dj _ _ _ _ hl)
  ·have hn:Ap (st.He l b).heap k=Ap st.heap k:=Cu _ _ _ _ e
   have ho:=h.1.heap k
   cases ia:Ap st.heap k with
   |none=>rw [ia] at hn;exact Ei.Pz (by rw [Ek π _ e];exact ho.emp ia) hn
   |some c=>
    rw [ia] at hn
    refine Ei.Ix ?_ hn
    rw [Ek π _ e]
    have:=(ho.Ns ia).move m hg.size (λr0 c h0 h1=>h.1.sub _ r0 c h0 h1) λr0 c h0 h1 Im=>hk _ Im λh3=>e (h.1.inj _ _ r0 r c h0 hr h1 (h.1.sub _ _ _ hr h3))
    cases c with
    |var tid vs=>simpa [OB.map] using this
    |_=>exact this
 ·exact ⟨h.2.size,h.2.defers,λt=>by have:=m.av (h.2.tmps t);rwa [AC.map_id] at this⟩
theorem Ax.set {st:St} {a:Act} (h:Ax X π st a w) {l:Nat} {b0 b:OB} (hl:Ap st.heap l=some b0) (hf:b0.fits b)
  (hg:w.grownBy w' ((π l).map (·.g)))
  (hb:Move X w w' π π st.heap (st.He l b).heap (λc=>c)->Bn X w' π (st.He l b).heap (π l) b):Ax X π (st.He l b) a w':=by
 have hk: ∀k,k<w.heap.size->(∀r,π l=some r-> ¬r.Bu k)->w'.heap[k]?=w.heap[k]?:= λk hk hn=>hg.block k hk (by
  intro e
  cases hp:π l with
  |none=>rw [hp] at e;cases e
  |some r=>rw [hp] at e;simp only [Ah,Aa] at e;exact hn r hp (e▸h.1.Bu hp))
 have m:Move X w w' π π st.heap (st.He l b).heap (λc=>c):=Move.JR (tc:= λk=>k=l) hg.size (λk Im hn=>hk k Im λr hr=>hn l r rfl hr) (λ_ _ h=>h)
  (λm hm=>⟨Cu _ _ _ _ hm,rfl⟩) (λm hm=>by subst hm;exact ⟨Wl.rfl' _,λb1 h1=>by rw [hl] at h1;cases h1;exact ⟨b,Dj _ _ _ _ hl,hf⟩⟩)
  (λm r hm h1 _ Im=>hk _ Im λr1 h2 h3=>hm (h.1.apart h1 h2 (h.1.Bu h1) h3))
 refine ⟨⟨?_,h.1.sc,h.1.sub,λk r c h1 h2=>⟨(h.1.place k r c h1 h2).1,Cy (h.1.place k r c h1 h2).2 hg.size⟩,h.1.inj,λk hp Hs=>h.1.cD k hp λh0=>Hs ?_,λk=>?_⟩,?_⟩
 ·refine h.1.below.grown hg h.1.below.size λk hk=>?_
  cases hp:π l with
  |none=>rw [hp] at hk;cases hk
  |some r=>rw [hp] at hk;simp only [Ah,Aa] at hk;rw [<-hk];exact (h.1.lt hp).2
 ·have:k≠l:= λe=>by subst e;rw [hl] at h0;cases h0
  rw [show Ap (st.He l b).heap k=Ap st.heap k from Cu _ _ _ _ this];exact h0
 ·by_cases e:k=l
  ·subst e
   exact Ei.Ix (hb m) (Dj _ _ _ _ hl)
  ·have hn:Ap (st.He l b).heap k=Ap st.heap k:=Cu _ _ _ _ e
   have ho:=h.1.heap k
   cases ia:Ap st.heap k with
   |none=>rw [ia] at hn;exact Ei.Pz (ho.emp ia) hn
   |some c=>
    rw [ia] at hn
    refine Ei.Ix ?_ hn
    have:=(ho.Ns ia).move m hg.size (λr0 c h0 h1=>h.1.sub _ r0 c h0 h1) λr0 c h0 h1 Im=>hk _ Im λr1 h2 h3=>e (h.1.inj _ _ r0 r1 c h0 h2 h1 (h.1.sub _ _ _ h2 h3))
    cases c with
    |var tid vs=>simpa [OB.map] using this
    |_=>exact this
 ·exact ⟨h.2.size,h.2.defers,λt=>by have:=m.av (h.2.tmps t);rwa [AC.map_id] at this⟩
end
end Go.Proofs.Ytfgfigkbgecfnaa
