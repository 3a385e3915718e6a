/-
  Part 5 of the proof that the statement FnExactSolveTwoPhaseWithin holds.
-/
import Derived.Test.YtfgfigkbgecfnaaCSolveTwoPhaseWithin03
namespace Go.Proofs.Ytfgfigkbgecfnaa
open Go.RowKit
def Xp (π:Pi) (l:Nat) (r:Option Real):Pi:= λk=>if k=l then r else π k
theorem Gx (π:Pi) (l:Nat) (r:Option Real):Xp π l r l=r:=by simp [Xp]
theorem Gw (π:Pi) {l m:Nat} (r:Option Real) (h:m≠l):Xp π l r m=π m:=by simp [Xp,h]
section
variable {X:Ctx} {w w':World} {π:Pi} {H H':List (Nat×OB)}
def Cq (X:Ctx) (w:World) (π:Pi) (H:List (Nat×OB)) (r:Option Real):OB->Prop
 | .arr fr tr e tid xs=>Km X w π r fr tr e tid xs
 | .Hl e tid xs=>On w r e tid xs
 | .var tid vs=>Ahk X w π H r tid vs
 | .Ca e _ rows out kp=>iP X w π r e rows out kp
 | .Wl v m=>ZH w r v m
theorem Gu.Se {l:Nat} {b:OB} (h:Gu X w π H l) (hb:Ay H l=some b):Cq X w π H (π l) b:=by
 unfold Gu at h;rw [hb] at h
 cases b<;>exact h
theorem Gu.Mg {l:Nat} {b:OB} (h:Cq X w π H (π l) b) (hb:Ay H l=some b):Gu X w π H l:=by
 unfold Gu;rw [hb]
 cases b<;>exact h
theorem Gu.Vd {l:Nat} (h:π l=none) (hb:Ay H l=none):Gu X w π H l:=by
 unfold Gu;rw [hb];exact h
theorem Gu.emp {l:Nat} (h:Gu X w π H l) (hb:Ay H l=none):π l=none:=by
 unfold Gu at h;rw [hb] at h;exact h
theorem Cq.move {f:AC->AC} {π':Pi} (m:Move X w w' π π' H H' f) {r:Option Real} {b:OB} (h:Cq X w π H r b) (hs:w.heap.size<=w'.heap.size)
  (Oy: ∀r' c,r=some r'->r'.Df c->r'.cl c) (hk: ∀r' c,r=some r'->r'.cl c->c<w.heap.size->w'.heap[c]?=w.heap[c]?):
  Cq X w' π' H' r (b.map f):=by
 cases b with
 |arr fr tr e tid xs=>
  simp only [Cq,Km,OB.map] at h⊢
  cases hr:r with
  |none=>rw [hr] at h;exact h
  |some r=>
   rw [hr] at h;obtain ⟨h1,cur,ti,h2,h3,h4,h5,h6,h7⟩:=h;refine ⟨h1,cur,ti,(hk r _ hr (Oy r _ hr h1.1) (Gv h2)).trans h2,h3,h4,h5,λi x hx=>?_,λht=>(h7 ht).Gd hs (λc _ Kr hc=>hk r c hr hc Kr) λ_ hb=>hb⟩;obtain ⟨es,he,hj,hc⟩:=h6 i x hx;exact ⟨es,he,hj,m.cells _ _ _ _ hc⟩
 |Hl e tid xs=>
  simp only [Cq,On,OB.map] at h⊢
  cases hr:r with
  |none=>rw [hr] at h;exact h
  |some r=>
   rw [hr] at h;obtain ⟨h1,cur,ti,h2,h3,h4,h5,h7⟩:=h;exact ⟨h1,cur,ti,(hk r _ hr (Oy r _ hr h1) (Gv h2)).trans h2,h3,h4,h5,h7.Gd hs (λc _ Kr hc=>hk r c hr (Oy r c hr hc) Kr) λ_ hb=>hb⟩
 |var tid vs=>
  obtain ⟨r',h0,h1,cur,h2,h3⟩:=h;exact ⟨r',h0,h1,cur,(hk r' _ h0 (Oy r' _ h0 h1) (Gv h2)).trans h2,m.acs h3⟩
 |Ca e te rows out kp=>exact iP.Gd h (λq b hq hf Kr=>hk q b hq (Oy q b hq hf) Kr) (λes x=>m.cells false e es x)
 |Wl v g=>
  obtain ⟨r',h0,h1,h2,h3⟩:=h;refine ⟨r',h0,h1,h2,?_⟩;simp only [Cells] at h3⊢;rcases h3 with ⟨h3,_⟩|⟨g,h3,hg,_,es,clock,h4,h5,h6,h7⟩
  ·simp at h3
  ·simp only [Hi,Value.map.injEq,Aa,bz] at h3;subst h3;refine .inr ⟨r'.g,rfl,by omega,λh=>h,es,clock,(hk r' _ h0 (Oy r' _ h0 h1) hg).trans h4,h5,h6,λs y hy=>?_⟩;obtain ⟨u,h8,h9⟩:=h7 s y hy;exact ⟨u,h8,Cells.flat v [u] y h2.1 h9⟩
theorem Move.forget {l:Nat} {r':Option Real} (hs:w.heap.size<=w'.heap.size)
  (hk: ∀k,k<w.heap.size->(∀r,π l=some r-> ¬r.Df k)->w'.heap[k]?=w.heap[k]?)
  (hr: ∀r b,r'=some r->r.Df b->(∃r0,π l=some r0/\r0.Df b)\/w.heap.size<=b)
  (hH: ∀m,m≠l->Ay H' m=(Ay H m).map (OB.map (Cy l)))
  (hx: ∀m r,m≠l->π m=some r->(∃b,Ay H m=some b/\b.ic≠none)->r.g<w.heap.size->w'.heap[r.g]?=w.heap[r.g]?):Move X w w' π (Xp π l r') H H' (Cy l):=by
 have hc: ∀fr τ cs x,Cells w (Dk X.w0.heap.size X.Sc π fr) τ cs x->Cells w' (Dk X.w0.heap.size X.Sc (Xp π l r') fr) τ cs x:=by
  intro fr τ cs x h;refine Cells.Gd hs (λk lJ hn=>hk k lJ λr h0 h1=>hn (.inl ⟨l,r,h0,h1⟩)) (λk lJ hA=>?_) τ cs x h;rcases hA with ⟨m,r,hm,hg⟩|h2
  ·by_cases l8:m=l
   ·subst l8;rw [Gx] at hm;rcases hr r k hm hg with ⟨r0,h0,h1⟩|h1
    ·exact .inl ⟨m,r0,h0,h1⟩
    ·omega
   ·rw [Gw π r' l8] at hm;exact .inl ⟨m,r,hm,hg⟩
  ·exact .inr h2
 refine ⟨λc v h=>?_,hc⟩
 cases c with
 |data fr τ x=>obtain ⟨cs,h1,h2⟩:=h;exact ⟨cs,hc _ _ _ _ h1,h2⟩
 |own k off len=>
  simp only [Cy];split
  ·trivial
  ·rename_i Ml;obtain ⟨b,sz,n,h1,h0,h2,h3⟩:=h
   exact ⟨b.map (Cy l),sz,n,by rw [hH k Ml,h1];rfl,by cases b<;>exact h0,h2,by rw [Gw π r' Ml];exact h3⟩
 |Hs k i=>
  simp only [Cy];split
  ·trivial
  ·rename_i Ml;obtain ⟨r,tid,vs,h1,h2,h3⟩:=h;exact ⟨r,tid,vs.map (Cy l),by rw [hH k Ml,h1];rfl,by rw [Gw π r' Ml];exact h2,h3⟩
 |Kq k i=>
  simp only [Cy];split
  ·trivial
  ·rename_i Ml;obtain ⟨r,b,sz,n,h1,h0,h2,h3,h4⟩:=h
   exact ⟨r,b.map (Cy l),sz,n,by rw [hH k Ml,h1];rfl,by cases b<;>exact h0,h2,by rw [Gw π r' Ml];exact h3,h4⟩
 |sub k i c=>
  simp only [Cy];split
  ·trivial
  ·rename_i Ml;obtain ⟨r,b,sz,n,h1,h0,h2,h3,h4,h5⟩:=h
   exact ⟨r,b.map (Cy l),sz,n,by rw [hH k Ml,h1];rfl,by cases b<;>exact h0,by rw [Gw π r' Ml];exact h2,h3,h4,by rw [World.cell?_of_block (hx k r Ml h2 ⟨b,h1,by rw [h0];simp⟩ (db h5))];exact h5⟩
 |Kl k i c=>
  simp only [Cy];split
  ·trivial
  ·rename_i Ml;obtain ⟨r,b,n,sz,g,o,len,cap,h1,h0,h2,h3,h4,h5,h6⟩:=h
   exact ⟨r,b.map (Cy l),n,sz,g,o,len,cap,by rw [hH k Ml,h1];rfl,by cases b<;>exact h0,by rw [Gw π r' Ml];exact h2,h3,h4,by rw [World.cell?_of_block (hx k r Ml h2 ⟨b,h1,by cases b<;>first|(cases h0;done)|simp [OB.ic]⟩ (db h5))];exact h5,h6⟩
 |clo f En=>
  simp only [Cy];split
  ·trivial
  ·rename_i Ml;obtain ⟨us,h1,h2,h3⟩:=h;refine ⟨us,h1,h2,λj p hp=>?_⟩;obtain ⟨r,tid,vs,h4,h5,h6⟩:=h3 j p hp;have js:p.1≠l:= λe=>Ml (by simp only [Kc,Bh];exact ⟨p,Cs hp,e⟩);exact ⟨r,tid,vs.map (Cy l),by rw [hH _ js,h4];rfl,by rw [Gw π r' js];exact h5,h6⟩
 |Le k=>
  simp only [Cy];split
  ·trivial
  ·rename_i Ml;obtain ⟨r,vt,m,h1,h2,h3⟩:=h;exact ⟨r,vt,m,by rw [hH k Ml,h1];rfl,by rw [Gw π r' Ml];exact h2,h3⟩
 |_=>exact h
theorem St.aq (st:St) (l m:Nat) (b:OB) (h:m≠l):Ay (st.new l b).heap m=(Ay st.heap m).map (OB.map (Cy l)):=by
 simp only [St.new,St.forget,St.Lo];rw [Pv _ _ _ _ h,Oi _ _ _ h,Pl]
theorem St.Hm (st:St) (l:Nat) (b:OB):Ay (st.new l b).heap l=some b:=by
 simp only [St.new,St.forget,St.Lo];exact Rb _ _ _ (Mz _ _)
theorem St.jk (st:St) (l m:Nat) (h:m≠l):Ay (st.forget l).heap m=(Ay st.heap m).map (OB.map (Cy l)):=by
 simp only [St.forget,St.Lo];rw [Oi _ _ _ h,Pl]
theorem St.pH (st:St) (l:Nat):Ay (st.forget l).heap l=none:=by
 simp only [St.forget,St.Lo];exact Mz _ _
theorem Bs.jL {st:St} {a:Act} (h:Bs X π st a w) (l:Nat) (hl:l<Bv) (r':Option Real) (b:OB)
  (hg:w.grownBy w' ((π l).map (·.g)))
  (hf: ∀r b,r'=some r->r.Df b->r.cl b/\((∃r0,π l=some r0/\r0.Df b)\/w.heap.size<=b))
  (hr: ∀r b,r'=some r->r.cl b->(X.w0.heap.size<=b\/X.gv b)/\b<w'.heap.size/\ ∀m r0,m≠l->π m=some r0-> ¬r0.cl b)
  (hb:Move X w w' π (Xp π l r') st.heap (st.new l b).heap (Cy l)->Cq X w' (Xp π l r') (st.new l b).heap r' b):Bs X (Xp π l r') (st.new l b) a w':=by
 have hk: ∀k,k<w.heap.size->(∀r,π l=some r-> ¬r.Df k)->w'.heap[k]?=w.heap[k]?:= λk hk hn=>hg.block k hk (by
  intro e
  cases hp:π l with
  |none=>rw [hp] at e;cases e
  |some r=>rw [hp] at e;simp only [An,Aa] at e;exact hn r hp (e▸h.1.Df hp))
 have m:Move X w w' π (Xp π l r') st.heap (st.new l b).heap (Cy l):=Move.forget hg.size hk (λr c h1 h2=>(hf r c h1 h2).2) (λm hm=>St.aq st l m b hm)
  (λm r hm h1 _ Kr=>hk _ Kr λr1 h2 h3=>hm (h.1.apart h1 h2 (h.1.Df h1) h3))
 refine ⟨⟨?_,h.1.sc,?_,?_,?_,?_,λk=>?_⟩,?_⟩
 ·refine h.1.below.grown hg h.1.below.size λk hk=>?_
  cases hp:π l with
  |none=>rw [hp] at hk;cases hk
  |some r=>rw [hp] at hk;simp only [An,Aa] at hk;rw [<-hk];exact (h.1.lt hp).2
 ·intro k r c h1 h2
  by_cases e1:k=l
  ·subst e1;rw [Gx] at h1;exact (hf r c h1 h2).1
  ·rw [Gw π r' e1] at h1;exact h.1.sub k r c h1 h2
 ·intro k r c h1 h2
  by_cases e1:k=l
  ·subst e1;rw [Gx] at h1;have:=hr r c h1 h2;exact ⟨this.1,this.2.1⟩
  ·rw [Gw π r' e1] at h1;have:=h.1.place k r c h1 h2;exact ⟨this.1,Ep this.2 hg.size⟩
 ·intro l1 l2 r1 r2 c h1 h2 h3 h4
  by_cases e1:l1=l<;>by_cases e2:l2=l
  ·rw [e1,e2]
  ·subst e1;rw [Gx] at h1;rw [Gw π r' e2] at h2;exact absurd h4 ((hr r1 c h1 h3).2.2 l2 r2 e2 h2)
  ·subst e2;rw [Gx] at h2;rw [Gw π r' e1] at h1;exact absurd h3 ((hr r2 c h2 h4).2.2 l1 r1 e1 h1)
  ·rw [Gw π r' e1] at h1;rw [Gw π r' e2] at h2;exact h.1.inj _ _ r1 r2 c h1 h2 h3 h4
 ·intro k hpk Ii
  have e:k≠l:= λe=>by subst e;omega
  rw [St.aq st l k b e] at Ii;rw [Gw π r' e];exact h.1.iM k hpk λh0=>Ii (by rw [h0];rfl)
 ·by_cases e:k=l
  ·subst e;exact Gu.Mg (by rw [Gx];exact hb m) (St.Hm st k b)
  ·have hn:=St.aq st l k b e;have ho:=h.1.heap k
   cases l7:Ay st.heap k with
   |none=>rw [l7] at hn;exact Gu.Vd (by rw [Gw π r' e];exact ho.emp l7) hn
   |some c=>
    rw [l7] at hn;refine Gu.Mg ?_ hn;rw [Gw π r' e];exact (ho.Se l7).move m hg.size (λr0 c h0 h1=>h.1.sub _ r0 c h0 h1) λr0 c h0 h1 Kr=>hk _ Kr λr1 h2 h3=>e (h.1.inj _ _ r0 r1 c h0 h2 h1 (h.1.sub _ _ _ h2 h3))
 ·have hh:sV X w' (Xp π l r') {tmps:=st.tmps.map (·.map (Cy l)),heap:=(st.new l b).heap} a:=m.PD rfl h.2;exact hh
def Real.one (g o cap:Nat):Real:=⟨g,o,cap,λb=>b=g,λb=>b=g⟩
theorem Bs.replace {st:St} {a:Act} (h:Bs X π st a w) (l:Nat) (hl:l<Bv) (r':Option Real) (b:OB)
  (hg:w.grownBy w' ((π l).map (·.g)))
  (hr: ∀r,r'=some r->r=Real.one r.g r.o r.cap/\((∃r0,π l=some r0/\r0.g=r.g)\/w.heap.size<=r.g)/\r.g<w'.heap.size)
  (hb:Move X w w' π (Xp π l r') st.heap (st.new l b).heap (Cy l)->Cq X w' (Xp π l r') (st.new l b).heap r' b):Bs X (Xp π l r') (st.new l b) a w':=by
 refine h.jL l hl r' b hg (λr c h1 h2=>?_) (λr c h1 h2=>?_) hb
 ·obtain ⟨h3,h4,_⟩:=hr r h1
  have h2':c=r.g:=by rw [h3] at h2;exact h2
  subst h2';refine ⟨by rw [h3];rfl,h4.imp (λ⟨r0,h5,h6⟩=>⟨r0,h5,h6▸h.1.Df h5⟩) id⟩
 ·obtain ⟨h3,h4,h5⟩:=hr r h1
  have h2':c=r.g:=by rw [h3] at h2;exact h2
  subst h2';refine ⟨?_,h5,λm r0 hm h6 h7=>?_⟩
  ·rcases h4 with ⟨r0,h6,h7⟩|h6
   ·rw [<-h7];exact (h.1.lt h6).2
   ·exact .inl (Gz h.1.below.size h6)
  ·rcases h4 with ⟨r1,h8,h9⟩|h8
   ·exact hm (h.1.inj m l r0 r1 r.g h6 h8 h7 (h9▸h.1.sub l r1 _ h8 (h.1.Df h8)))
   ·have:=(h.1.place m r0 _ h6 h7).2;omega
theorem Nm.drop (h:Nm X w π H) {f:AC->AC} (l:Nat) (m:Move X w w π (Xp π l none) H H' f) (h0:Ay H' l=none) (hH: ∀k,k≠l->Ay H' k=(Ay H k).map (OB.map f)):Nm X w (Xp π l none) H':=by
 have un: ∀k r,Xp π l none k=some r->k≠l/\π k=some r:= λk r hk=>by
  by_cases e:k=l
  ·subst e;rw [Gx] at hk;cases hk
  ·rw [Gw π none e] at hk;exact ⟨e,hk⟩
 refine ⟨h.below,h.sc,λk r c h1 h2=>h.sub k r c (un k r h1).2 h2,λk r c h1 h2=>h.place k r c (un k r h1).2 h2,λl1 l2 r1 r2 c h1 h2 h3 h4=>h.inj _ _ r1 r2 c (un _ _ h1).2 (un _ _ h2).2 h3 h4,λk hp Ii=>?_,λk=>?_⟩
 ·have e:k≠l:= λe=>by subst e;exact Ii h0
  rw [hH k e] at Ii;rw [Gw π none e];exact h.iM k hp λh1=>Ii (by rw [h1];rfl)
 ·by_cases e:k=l
  ·subst e;exact Gu.Vd (by rw [Gx]) h0
  ·have hn:=hH k e;have ho:=h.heap k
   cases l7:Ay H k with
   |none=>rw [l7] at hn;exact Gu.Vd (by rw [Gw π none e];exact ho.emp l7) hn
   |some c=>
    rw [l7] at hn;refine Gu.Mg ?_ hn;rw [Gw π none e];exact (ho.Se l7).move m (Ap _) (λr0 c h0 h1=>h.sub _ r0 c h0 h1) λr0 c h0 h1 Kr=>rfl
theorem Bs.forget {st:St} {a:Act} (h:Bs X π st a w) (l:Nat):Bs X (Xp π l none) (st.forget l) a w:=by
 have m:Move X w w π (Xp π l none) st.heap (st.forget l).heap (Cy l):=
  Move.forget (Ap _) (λ_ _ _=>rfl) (λr c hr=>by cases hr) (λm hm=>St.jk st l m hm) (λ_ _ _ _ _ _=>rfl)
 refine ⟨h.1.drop l m (St.pH st l) λk e=>St.jk st l k e,?_⟩;have hh:sV X w (Xp π l none) {tmps:=st.tmps.map (·.map (Cy l)),heap:=(st.forget l).heap} a:=m.PD rfl h.2;exact hh
theorem cellOf {w:World} {g:Nat} {cur:Array Value} {tid:TypeId} (h:w.heap[g]?=some (.cells cur tid (0,0))) (i:Nat):w.cell? ⟨g,i,none⟩=cur[i]?:=by
 simp [World.cell?,h]
theorem Pe {l off len:Nat} {v:Value} {fr tr:Bool} {e:Ty} {tid:TypeId} {xs:List e.den} (h:Hw X w π H (.own l off len) v) (hl:Ay H l=some (.arr fr tr e tid xs)):off+len<=xs.length/\Ih (π l) e.size off len v:=by
 obtain ⟨b,sz,n,h1,h0,h2,h3⟩:=h;rw [hl] at h1;cases h1;simp only [OB.row,Aa,Ag] at h0;obtain ⟨rfl,rfl⟩:=h0;exact ⟨h2,h3⟩
theorem cB {l off len:Nat} {v:Value} {e:Ty} {tid:TypeId} {xs:List e.den} (h:Hw X w π H (.own l off len) v) (hl:Ay H l=some (.Hl e tid xs)):off+len<=xs.length/\Ih (π l) e.size off len v:=by
 obtain ⟨b,sz,n,h1,h0,h2,h3⟩:=h;rw [hl] at h1;cases h1;simp only [OB.row,Aa,Ag] at h0;obtain ⟨rfl,rfl⟩:=h0;exact ⟨h2,h3⟩
theorem OC {l off len:Nat} {v:Value} {fr tr:Bool} {e:Ty} {tid:TypeId} {xs:List e.den} (hl:Ay H l=some (.arr fr tr e tid xs)) (h1:off+len<=xs.length) (h2:Ih (π l) e.size off len v):Hw X w π H (.own l off len) v:=
 ⟨_,e.size,xs.length,hl,rfl,h1,h2⟩
theorem yI {r:Real} {off len:Nat} {v:Value} {e:Ty} {tid:TypeId} {xs:List e.den} {S:Nat->Prop} {cur:Array Value} (h2:w.heap[r.g]?=some (.cells cur tid (0,0)))
  (hlen:off+len<=xs.length) (hv:Ih (some r) e.size off len v) (hg: ¬S r.g)
  (hA: ∀(i:Nat) (x:e.den),xs[i]?=some x-> ∃es:List Value,es.length=e.size/\(∀j u,es[j]?=some u->cur[(r.o+i)*e.size+j]?=some u)/\Cells w S e es x):Cells w S (.slice e) [v] ((xs.drop off).take len):=by
 have LF:((xs.drop off).take len).length=len:=by simp;omega
 obtain ⟨ad,rfl,hc,ha⟩:=hv;refine ⟨some ad,len,r.cap-off,rfl,LF.symm,by omega,?_⟩;rcases Uh len with h0|h0
 ·left;subst h0;simp
 ·right
  refine ⟨r.g,(r.o+off)*e.size,by rw [ha (by omega)],Gv h2,hg,λi x hx=>?_⟩
  have hi:i<len:=by
   have:=(Ao.1 hx).1;rw [LF] at this;exact this
  have hx':xs[off+i]?=some x:=by
   rw [Di,Ac hi,Cp] at hx;exact hx
  obtain ⟨es,he,hj,zJ⟩:=hA (off+i) x hx';refine ⟨es,he,λj u hu=>?_,zJ⟩;rw [cellOf h2];have:=hj j u hu;rw [<-this]
  congr 1
  rw [<-He,Dr (r.o+off) i]
theorem q6 {l off len:Nat} {v:Value} {fr tr:Bool} {e:Ty} {tid:TypeId} {xs:List e.den} {S:Nat->Prop} (h:Nm X w π H) (hl:Ay H l=some (.arr fr tr e tid xs))
  (hlen:off+len<=xs.length) (hv:Ih (π l) e.size off len v)
  (hS: ∀k,S k->(∃r,π l=some r/\r.Df k)->False) (hA: ∀k,k<w.heap.size->S k->Dk X.w0.heap.size X.Sc π fr k):Cells w S (.slice e) [v] ((xs.drop off).take len):=by
 have hb:=(h.heap l).Se hl;simp only [Cq,Km] at hb
 cases hp:π l with
 |none=>
  rw [hp] at hb hv;obtain ⟨rfl,rfl,rfl⟩:=hv;exact ⟨none,0,0,rfl,by simp,Ap _, .inl (by simp)⟩
 |some r=>
  rw [hp] at hb hv;obtain ⟨h1,cur,_,h2,h3,h4,h5,h6,_⟩:=hb;refine yI h2 hlen hv (λhs=>hS _ hs ⟨r,hp,h1.1⟩) λi x hx=>?_;obtain ⟨es,he,hj,zJ⟩:=h6 i x hx;exact ⟨es,he,hj,Cells.Gd (Ap _) (λ_ _ _=>rfl) hA e es x zJ⟩
theorem Tr.slice {D S:Nat->Prop} {R:Option Real} {e:Ty} {x:List e.den} {u:Value} (h:Tr w D R e x) (hv:Ih R e.size 0 (List.length x) u) (hD: ∀k,S k->D k) (hg: ∀q,R=some q-> ¬S q.g):Cells w S (.slice e) [u] x:=by
 cases R with
 |none=>
  have hx:x= []:=h;subst hx;obtain ⟨rfl,_,_⟩:=hv;exact ⟨none,0,0,rfl,rfl,Ap _, .inl rfl⟩
 |some q=>
  obtain ⟨h1,cur,ti,h2,h3,h4,h5,h6⟩:=h;obtain ⟨ad,rfl,g1,g2⟩:=hv;refine ⟨some ad,List.length x,_,rfl,rfl,by omega,?_⟩;rcases Uh (List.length x) with hx|hx
  ·exact .inl (Cr hx)
  ·have had:=g2 (by omega);subst had;refine .inr ⟨q.g,(q.o+0)*e.size,rfl,Gv h2,hg q rfl,λi y hy=>?_⟩;obtain ⟨es,k1,k2,k3⟩:=h6 i y hy;refine ⟨es,k1,λj u hu=>?_,Cells.Gd (Ap _) (λ_ _ _=>rfl) (λk _ hk=>hD k hk) e es y k3⟩;rw [cellOf h2,El,<-Dr];exact k2 j u hu
theorem oL {l off len:Nat} {v:Value} {e:Ty} {te:TypeId} {rows:List (List e.den)} {out:Option Nat} {kp:Option (Nat×Nat)} (h:Hw X w π H (.own l off len) v) (hl:Ay H l=some (.Ca e te rows out kp)):off+len<=rows.length/\Ih (π l) 1 off len v:=by
 obtain ⟨b,sz,n,h1,h2,h3,h4⟩:=h;rw [hl] at h1;cases h1;simp only [OB.row,Aa,Ag] at h2;obtain ⟨rfl,rfl⟩:=h2;exact ⟨h3,h4⟩
theorem tS {l off len:Nat} {v:Value} {e:Ty} {te:TypeId} {rows:List (List e.den)} {kp:Option (Nat×Nat)} {S:Nat->Prop} (h:Nm X w π H) (hl:Ay H l=some (.Ca e te rows none kp))
  (hlen:off+len<=rows.length) (hv:Ih (π l) 1 off len v)
  (hS: ∀k,S k->(∃r,π l=some r/\r.Df k)->False) (hA: ∀k,S k->Dk X.w0.heap.size X.Sc π false k):Cells w S (.slice (.slice e)) [v] ((rows.drop off).take len):=by
 have hb:=(h.heap l).Se hl;simp only [Cq] at hb;have hb:=hb.1
 cases hp:π l with
 |none=>
  rw [hp] at hb hv;have hb:rows= []:=hb;obtain ⟨rfl,rfl,rfl⟩:=hv;exact ⟨none,0,0,rfl,by simp,Ap _, .inl (by simp)⟩
 |some r=>
  rw [hp] at hb hv;obtain ⟨h1,cur,ti,h2,h3,h4,h5,Rs,h6,h7,h8,h9⟩:=hb;obtain ⟨ad,rfl,g1,g2⟩:=hv;refine ⟨some ad,len,_,rfl,by simp;omega,by omega,?_⟩;rcases Uh len with hx|hx
  ·subst hx;exact .inl (by simp)
  ·have had:=g2 (by omega);subst had;refine .inr ⟨r.g,(r.o+off)*1,rfl,Gv h2,λhs=>hS _ hs ⟨r,hp,h1⟩,λi x hx=>?_⟩;have hx:((rows.drop off).take len)[i]?=some x:=hx;rw [Di] at hx;split at hx
   ·rw [Cp] at hx;obtain ⟨u,R,k1,k2,k3,k4⟩:=h9 _ x hx (by simp);refine ⟨[u],rfl,λj u' iG=>?_,k4.slice k3 hA λq hq hs=>hS _ hs ⟨r,hp,(h7 _ q (by rw [k2,hq])).1⟩⟩;rcases j with _|j
    ·simp only [Cf,Aa] at iG;subst iG;rw [cellOf h2,<-k1]
     congr 1
     simp only [Ty.size];omega
    ·simp at iG
   ·cases hx
theorem FW {l i c:Nat} {v:Value} {e:Ty} {te:TypeId} {rows:List (List e.den)} {out:Option Nat} {kp:Option (Nat×Nat)} (hv:Hw X w π H (.sub l i c) v) (hl:Ay H l=some (.Ca e te rows out kp)):rows[i]?=some (rows.getD i []):=by
 obtain ⟨r,b,sz,n,h1,h0,_,h3,_⟩:=hv;rw [hl] at h1;cases h1;simp only [OB.ic,Aa,Ag] at h0;obtain ⟨rfl,rfl⟩:=h0;rw [Al,Ad h3];rfl
theorem o4 {l i:Nat} {e:Ty} {te:TypeId} {rows:List (List e.den)} {out:Option Nat} {kp:Option (Nat×Nat)} {r:Real} (h:Nm X w π H) (hl:Ay H l=some (.Ca e te rows out kp)) (hp:π l=some r) (hi:i<rows.length) (ho:out≠some i):
  ∃u R,w.cell? ⟨r.g,r.o+i,none⟩=some u/\Ih R e.size 0 (rows.getD i []).length u/\Tr w (Dk X.w0.heap.size X.Sc π false) R e (rows.getD i []):=by
 have hb:=(h.heap l).Se hl;simp only [Cq] at hb;have hb:=hb.1;rw [hp] at hb;obtain ⟨h1,cur,ti,h2,h3,h4',h5',Rs,h6,h7,h8,h9⟩:=hb
 have hx:rows[i]?=some (rows.getD i []):=by rw [Al,Ad hi];rfl
 obtain ⟨u,R,k1,k2,k3,k4⟩:=h9 _ _ hx ho;exact ⟨u,R,by rw [cellOf h2];exact k1,k3,k4⟩
theorem bp {R:Option Real} {sz off len:Nat} {u:Value} (h:Ih R sz off len u): ∃a n m,u= .slice a n m:=by
 cases R with
 |none=>exact ⟨_,_,_,h.1⟩
 |some q=>obtain ⟨ad,rfl,_⟩:=h;exact ⟨_,_,_,rfl⟩
theorem tT {l i c:Nat} {v:Value} {e:Ty} {te:TypeId} {rows:List (List e.den)} {kp:Option (Nat×Nat)} {x:List e.den} {S:Nat->Prop} (h:Nm X w π H) (hl:Ay H l=some (.Ca e te rows none kp)) (hx:rows[i]?=some x)
  (hv:Hw X w π H (.sub l i c) v)
  (hS: ∀k,S k->(∃r,π l=some r/\r.Df k)->False) (hA: ∀k,S k->Dk X.w0.heap.size X.Sc π false k):Cells w S (.slice e) [v] x:=by
 obtain ⟨r,b,sz,n,h1,h0,hp,h3,⟨h4,_⟩,h5⟩:=hv;rw [hl] at h1;cases h1;simp only [OB.ic,Aa,Ag] at h0;obtain ⟨rfl,rfl⟩:=h0;have hb:=(h.heap l).Se hl;simp only [Cq] at hb;have hb:=hb.1;rw [hp] at hb;obtain ⟨h1,cur,ti,h2,h3,h4',h5',Rs,h6,h7,h8,h9⟩:=hb;obtain ⟨u,R,k1,k2,k3,k4⟩:=h9 _ x hx (by simp)
 have:c=0:=by omega
 subst this;rw [cellOf h2,Gm,El,k1] at h5;have hv:=Bi h5;subst hv;exact k4.slice k3 hA λq hq hs=>hS _ hs ⟨r,hp,(h7 _ q (by rw [k2,hq])).1⟩
theorem np {l off len:Nat} {v:Value} {e:Ty} {tid:TypeId} {xs:List e.den} {S:Nat->Prop} (h:Nm X w π H) (hl:Ay H l=some (.Hl e tid xs))
  (hlen:off+len<=xs.length) (hv:Ih (π l) e.size off len v)
  (hS: ∀k,S k->(∃r,π l=some r/\r.Df k)->False):Cells w S (.slice e) [v] ((xs.drop off).take len):=by
 have hb:=(h.heap l).Se hl;simp only [Cq,On] at hb
 cases hp:π l with
 |none=>
  rw [hp] at hb hv;obtain ⟨rfl,rfl,rfl⟩:=hv;exact ⟨none,0,0,rfl,by simp,Ap _, .inl (by simp)⟩
 |some r=>
  rw [hp] at hb hv;obtain ⟨h1,cur,_,h2,h3,h4,h5,Fs,k1,k2,k3,k4⟩:=hb;refine yI h2 hlen hv (λhs=>hS _ hs ⟨r,hp,h1⟩) λi x hx=>?_
  have hi:i<Fs.length:=by have:=(Ao.1 hx).1;omega
  obtain ⟨es,he,hj,zJ⟩:=k4 i x _ hx (Ad hi);exact ⟨es,he,hj,zJ.cells _ _ _ _ λb hb hs=>hS b hs ⟨r,hp,k3 b (Hv.2 ⟨_,Ah hi,hb⟩)⟩⟩
theorem St.Sm (st:St) (l m:Nat) (fr:Bool) (e:Ty) (xs:List e.den) (h:m≠l):Ay (st.freeze l fr e xs).heap m=(Ay st.heap m).map (OB.map (Dj l fr e xs)):=by
 simp only [St.freeze,St.Lo];rw [Oi _ _ _ h,Pl]
theorem St.Mv (st:St) (l:Nat) (fr:Bool) (e:Ty) (xs:List e.den):Ay (st.freeze l fr e xs).heap l=none:=by
 simp only [St.freeze,St.Lo];exact Mz _ _
theorem tp {l:Nat} {B:Nat} {Sc:Nat->Prop} {fr:Bool} {k:Nat} (hA:Dk B Sc (Xp π l none) fr k):Dk B Sc π fr k:=by
 rcases hA with ⟨m,r,hm,hg⟩|h2
 ·by_cases l8:m=l
  ·subst l8;rw [Gx] at hm;cases hm
  ·rw [Gw π none l8] at hm;exact .inl ⟨m,r,hm,hg⟩
 ·exact .inr h2
theorem Nm.let (h:Nm X w π H) {l:Nat} {fr:Bool} (zK:fr=true-> ∀r,π l=some r-> ∀b,r.Df b->X.w0.heap.size<=b) {k:Nat} (hS:Dk X.w0.heap.size X.Sc (Xp π l none) fr k) (hk: ∃r,π l=some r/\r.Df k):False:=by
 obtain ⟨r,hr,NH⟩:=hk;rcases hS with ⟨m,r',hm,hg⟩|hS|⟨hf,hS⟩
 ·by_cases l8:m=l
  ·subst l8;rw [Gx] at hm;cases hm
  ·rw [Gw π none l8] at hm;exact l8 (h.apart hm hr hg NH)
 ·have h1:=h.sc k hS;rcases (h.own ⟨l,r,hr,NH⟩).2 with h2|h2
  ·omega
  ·exact h1.2 h2
 ·have:=zK hf r hr k NH;omega
theorem Move.RT {l:Nat} {f:AC->AC} (hf: ∀c v,Hw X w π H c v->(∀k∈c.refs,k≠l)->f c=c)
  (hl: ∀c v,Hw X w π H c v->l∈c.refs->Hw X w (Xp π l none) H' (f c) v)
  (hH: ∀m,m≠l->Ay H' m=(Ay H m).map (OB.map f)):Move X w w π (Xp π l none) H H' f:=by
 have hc: ∀Ww τ cs x,Cells w (Dk X.w0.heap.size X.Sc π Ww) τ cs x->Cells w (Dk X.w0.heap.size X.Sc (Xp π l none) Ww) τ cs x:=
  fun Ww τ cs x hh=>Cells.Gd (Ap _) (λ_ _ _=>rfl) (λk _ hA=>tp hA) τ cs x hh
 refine ⟨λc v MX=>?_,hc⟩
 by_cases hlr:l∈c.refs
 ·exact hl c v MX hlr
 ·rw [hf c v MX λk hk e=>hlr (e▸hk)]
  cases c with
  |data Ww τ x=>obtain ⟨cs,h1,h2⟩:=MX;exact ⟨cs,hc _ _ _ _ h1,h2⟩
  |own k off len=>
   have Ml:k≠l:= λe=>hlr (by simp [AC.refs,e]);obtain ⟨b,sz,n,h1,h0,h2,h3⟩:=MX
   exact ⟨b.map f,sz,n,by rw [hH k Ml,h1];rfl,by cases b<;>exact h0,h2,by rw [Gw π none Ml];exact h3⟩
  |Hs k i=>
   have Ml:k≠l:= λe=>hlr (by simp [AC.refs,e]);obtain ⟨r,Vt,vs,h1,h2,h3⟩:=MX;exact ⟨r,Vt,vs.map f,by rw [hH k Ml,h1];rfl,by rw [Gw π none Ml];exact h2,h3⟩
  |Kq k i=>
   have Ml:k≠l:= λe=>hlr (by simp [AC.refs,e]);obtain ⟨r,b,sz,n,h1,h0,h2,h3,h4⟩:=MX
   exact ⟨r,b.map f,sz,n,by rw [hH k Ml,h1];rfl,by cases b<;>exact h0,h2,by rw [Gw π none Ml];exact h3,h4⟩
  |sub k i c=>
   have Ml:k≠l:= λe=>hlr (by simp [AC.refs,e]);obtain ⟨r,b,sz,n,h1,h0,h2,h3⟩:=MX
   exact ⟨r,b.map f,sz,n,by rw [hH k Ml,h1];rfl,by cases b<;>exact h0,by rw [Gw π none Ml];exact h2,h3⟩
  |Kl k i c=>
   have Ml:k≠l:= λe=>hlr (by simp [AC.refs,e]);obtain ⟨r,b,n,sz,g,o,len,cap,h1,h0,h2,h3⟩:=MX
   exact ⟨r,b.map f,n,sz,g,o,len,cap,by rw [hH k Ml,h1];rfl,by cases b<;>exact h0,by rw [Gw π none Ml];exact h2,h3⟩
  |clo g En=>
   obtain ⟨us,h1,h2,h3⟩:=MX;refine ⟨us,h1,h2,λj p hp=>?_⟩;obtain ⟨r,tid,vs,h4,h5,h6⟩:=h3 j p hp;have js:p.1≠l:= λe=>hlr (by simp only [AC.refs,Bh];exact ⟨p,Cs hp,e⟩);exact ⟨r,tid,vs.map f,by rw [hH _ js,h4];rfl,by rw [Gw π none js];exact h5,h6⟩
  |Le k=>
   have Ml:k≠l:= λe=>hlr (by simp [AC.refs,e]);obtain ⟨r,vt,m,h1,h2,h3⟩:=MX;exact ⟨r,vt,m,by rw [hH k Ml,h1];rfl,by rw [Gw π none Ml];exact h2,h3⟩
  |_=>exact MX
theorem j7 {l:Nat} {ls:List Nat} (h: ∀k∈ls,k≠l):ls.contains l=false:=by
 cases hc:ls.contains l with
 |false=>rfl
 |true=>exact absurd rfl (h l (by simpa using hc))
theorem jl {l:Nat} {fr:Bool} {e:Ty} {xs:List e.den} {c:AC} (h: ∀k∈c.refs,k≠l):Dj l fr e xs c=c:=by
 cases c<;>simp only [Dj]<;>first|rfl|skip
 case clo f En=>rw [Ai (by rw [j7 (show ∀k∈En.map (·.1),k≠l from h)];simp)]
 all_goals rw [Ai (h _ (by simp [AC.refs]))]
theorem tP {l:Nat} {v:Ty} {m:ByteArray->Option v.den} {c:AC} (h: ∀k∈c.refs,k≠l):Hp l v m c=c:=by
 cases c<;>simp only [Hp]<;>first|rfl|skip
 case clo f En=>rw [Ai (by rw [j7 (show ∀k∈En.map (·.1),k≠l from h)];simp)]
 all_goals rw [Ai (h _ (by simp [AC.refs]))]
theorem Move.freeze {l:Nat} {fr:Bool} {e:Ty} {xs:List e.den}
  (Aq0: ∀off len v,Hw X w π H (.own l off len) v->Cells w (Dk X.w0.heap.size X.Sc (Xp π l none) fr) (.slice e) [v] ((xs.drop off).take len))
  (hH: ∀m,m≠l->Ay H' m=(Ay H m).map (OB.map (Dj l fr e xs))):Move X w w π (Xp π l none) H H' (Dj l fr e xs):=by
 refine Move.RT (λc v _ h=>jl h) (λc v MX hr=>?_) hH
 cases c with
 |own k off len=>
  have:k=l:=(Af.1 hr).symm;subst this;simp only [Dj,Ac];exact ⟨[v],Aq0 off len v MX,by simp [Cj,Ty.Ar]⟩
 |Hs k i=>have:k=l:=(Af.1 hr).symm
          subst this;simp only [Dj,Ac];trivial
 |Kq k i=>have:k=l:=(Af.1 hr).symm
          subst this;simp only [Dj,Ac];trivial
 |sub k i c=>have:k=l:=(Af.1 hr).symm
             subst this;simp only [Dj,Ac];trivial
 |Kl k i c=>have:k=l:=(Af.1 hr).symm
            subst this;simp only [Dj,Ac];trivial
 |Le k=>have:k=l:=(Af.1 hr).symm
        subst this;simp only [Dj,Ac];trivial
 |clo f En=>
  simp only [Dj];rw [Ac (by simpa [AC.refs] using hr)];trivial
 |_=>simp [AC.refs] at hr
theorem Bs.freeze {st:St} {a:Act} (h:Bs X π st a w) {l:Nat} {fr:Bool} {e:Ty} {xs:List e.den}
  (hl:(∃tr tid,Ay st.heap l=some (.arr fr tr e tid xs))\/(fr=false/\ ∃tid,Ay st.heap l=some (.Hl e tid xs))):
  Bs X (Xp π l none) (st.freeze l fr e xs) a w/\Move X w w π (Xp π l none) st.heap (st.freeze l fr e xs).heap (Dj l fr e xs):=by
 have m:Move X w w π (Xp π l none) st.heap (st.freeze l fr e xs).heap (Dj l fr e xs):=by
  refine Move.freeze (λoff len v hv=>?_) (λm hm=>St.Sm st l m fr e xs hm);rcases hl with ⟨tr,tid,hl⟩|⟨rfl,tid,hl⟩
  ·obtain ⟨h2,h3⟩:=Pe hv hl;refine q6 h.1 hl h2 h3 (λk hk=>?_) λk _ hk=>tp hk;intro ⟨r,hr,NH⟩;have hb:=(h.1.heap l).Se hl;simp only [Cq,Km,hr] at hb
   by_cases hkg:k=r.g
   ·subst hkg;rcases hk with ⟨m,r',hm,hg⟩|hS|⟨hf,hS⟩
    ·by_cases l8:m=l
     ·subst l8;rw [Gx] at hm;cases hm
     ·rw [Gw π none l8] at hm;exact l8 (h.1.apart hm hr hg NH)
    ·have h1:=h.1.sc _ hS;rcases (h.1.own ⟨l,r,hr,NH⟩).2 with h2|h2
     ·omega
     ·exact h1.2 h2
    ·have:=hb.1.2.2 hf;omega
   ·exact absurd (hb.1.2.1 k NH) hkg
  ·obtain ⟨h2,h3⟩:=cB hv hl;exact np h.1 hl h2 h3 λk hk hr=>h.1.let (λhf=>by cases hf) hk hr
 refine ⟨⟨h.1.drop l m (St.Mv st l fr e xs) λk e'=>St.Sm st l k fr e xs e',?_⟩,m⟩;have hh:sV X w (Xp π l none) {tmps:=st.tmps.map (·.map (Dj l fr e xs)),heap:=(st.freeze l fr e xs).heap} a:=m.PD rfl h.2;exact hh
theorem St.Rp (st:St) (l k:Nat) (v:Ty) (m:ByteArray->Option v.den) (h:k≠l):Ay (st.Ja l v m).heap k=(Ay st.heap k).map (OB.map (Hp l v m)):=by
 simp only [St.Ja,St.Lo];rw [Oi _ _ _ h,Pl]
theorem St.Tu (st:St) (l:Nat) (v:Ty) (m:ByteArray->Option v.den):Ay (st.Ja l v m).heap l=none:=by
 simp only [St.Ja,St.Lo];exact Mz _ _
theorem yS {r:Option Real} {v:Ty} {m:ByteArray->Option v.den} {g:Nat} {S:Nat->Prop} (h:ZH w r v m) (hg:r.map (·.g)=some g) (hS: ¬S g):Cells w S (.smap v) [.map (some g)] m:=by
 obtain ⟨r',h0,h1,h2,h3⟩:=h;rw [h0] at hg;simp only [An,Aa] at hg;subst hg;simp only [Cells] at h3⊢;rcases h3 with ⟨h3,_⟩|⟨g,h3,hg,_,es,clock,h4,h5,h6,h7⟩
 ·simp at h3
 ·simp only [Hi,Value.map.injEq,Aa,bz] at h3;subst h3;refine .inr ⟨r'.g,rfl,hg,hS,es,clock,h4,h5,h6,λs y hy=>?_⟩;obtain ⟨u,h8,h9⟩:=h7 s y hy;exact ⟨u,h8,Cells.flat v [u] y h2.1 h9⟩
theorem Bs.Ja {st:St} {a:Act} (h:Bs X π st a w) {l:Nat} {v:Ty} {m:ByteArray->Option v.den} (hl:Ay st.heap l=some (.Wl v m)):
  Bs X (Xp π l none) (st.Ja l v m) a w/\Move X w w π (Xp π l none) st.heap (st.Ja l v m).heap (Hp l v m):=by
 have mv:Move X w w π (Xp π l none) st.heap (st.Ja l v m).heap (Hp l v m):=by
  refine Move.RT (λc u _ h=>tP h) (λc u MX hr=>?_) (λk hk=>St.Rp st l k v m hk)
  cases c with
  |Le k=>
   have:k=l:=(Af.1 hr).symm;subst this;simp only [Hp,Ac];obtain ⟨r,vt,m',h1,h2,rfl⟩:=MX;exact ⟨[_],yS ((h.1.heap k).Se hl) (by rw [h2];rfl) λhS=>h.1.let (λhf=>by cases hf) hS ⟨r,h2,h.1.Df h2⟩,by simp [Cj,Ty.Ar]⟩
  |own k off len=>have:k=l:=(Af.1 hr).symm
                  subst this;simp only [Hp,Ac];trivial
  |Hs k i=>have:k=l:=(Af.1 hr).symm
           subst this;simp only [Hp,Ac];trivial
  |Kq k i=>have:k=l:=(Af.1 hr).symm
           subst this;simp only [Hp,Ac];trivial
  |sub k i c=>have:k=l:=(Af.1 hr).symm
              subst this;simp only [Hp,Ac];trivial
  |Kl k i c=>have:k=l:=(Af.1 hr).symm
             subst this;simp only [Hp,Ac];trivial
  |clo f En=>
   simp only [Hp];rw [Ac (by simpa [AC.refs] using hr)];trivial
  |_=>simp [AC.refs] at hr
 refine ⟨⟨h.1.drop l mv (St.Tu st l v m) λk e'=>St.Rp st l k v m e',?_⟩,mv⟩;have hh:sV X w (Xp π l none) {tmps:=st.tmps.map (·.map (Hp l v m)),heap:=(st.Ja l v m).heap} a:=mv.PD rfl h.2;exact hh
def OB.fits:OB->OB->Prop
 | .arr _ _ e _ xs, .arr _ _ e' _ xs'=>e=e'/\xs.length<=xs'.length
 | .var _ _, .var _ _=>True
 | .Wl _ _, .Wl _ _=>True
 |_,_=>False
theorem Move.Aje {tc:Nat->Prop} {π':Pi} (hs:w.heap.size<=w'.heap.size)
  (hk: ∀k,k<w.heap.size->(∀l r,tc l->π l=some r-> ¬r.Df k)->w'.heap[k]?=w.heap[k]?)
  (hO: ∀b,b<w.heap.size->Wn π' b->Wn π b)
  (hH: ∀m,¬tc m->Ay H' m=Ay H m/\π' m=π m) (hH': ∀m,tc m->bP (π m) (π' m)/\ ∀b0,Ay H m=some b0-> ∃b,Ay H' m=some b/\b0.fits b)
  (hx: ∀m r,¬tc m->π m=some r->(∃b,Ay H m=some b/\b.ic≠none)->r.g<w.heap.size->w'.heap[r.g]?=w.heap[r.g]?):Move X w w' π π' H H' (λc=>c):=by
 have hc: ∀fr τ cs x,Cells w (Dk X.w0.heap.size X.Sc π fr) τ cs x->Cells w' (Dk X.w0.heap.size X.Sc π' fr) τ cs x:=by
  intro fr τ cs x h;exact Cells.Gd hs (λk lJ hn=>hk k lJ λl r _ h0 h1=>hn (.inl ⟨l,r,h0,h1⟩)) (λk Kr hA=>hA.imp (hO k Kr) id) τ cs x h
 have same: ∀m r,π m=some r-> ∃r',π' m=some r'/\r.g=r'.g/\r.o=r'.o/\r.cap=r'.cap:=by
  intro m r hm
  by_cases ht:tc m
  ·have:=(hH' m ht).1;rw [hm] at this
   cases hp:π' m with
   |none=>rw [hp] at this;exact this.elim
   |some r'=>rw [hp] at this;exact ⟨r',rfl,this.1,this.2.1,this.2.2.1⟩
  ·exact ⟨r,by rw [(hH m ht).2];exact hm,rfl,rfl,rfl⟩
 have fit: ∀m b,Ay H m=some b-> ∃b',Ay H' m=some b'/\(b'=b\/b.fits b'):=by
  intro m b hm
  by_cases ht:tc m
  ·obtain ⟨b',h1,h2⟩:=(hH' m ht).2 b hm;exact ⟨b',h1, .inr h2⟩
  ·exact ⟨b,by rw [(hH m ht).1];exact hm, .inl rfl⟩
 refine ⟨λc v h=>?_,hc⟩
 cases c with
 |data fr τ x=>obtain ⟨cs,h1,h2⟩:=h;exact ⟨cs,hc _ _ _ _ h1,h2⟩
 |own k off len=>
  obtain ⟨b,sz,n,h1,h0,h2,h3⟩:=h
  have wo:Ih (π' k) sz off len v:=by
   cases hp:π k with
   |none=>
    rw [hp] at h3
    have:π' k=none:=by
     by_cases ht:tc k
     ·have:=(hH' k ht).1;rw [hp] at this
      cases SG:π' k with
      |none=>rfl
      |some r'=>rw [SG] at this;exact this.elim
     ·rw [(hH k ht).2];exact hp
    rw [this];exact h3
   |some r=>
    rw [hp] at h3;obtain ⟨r',h4,h5,h6,h7⟩:=same k r hp;rw [h4];unfold Ih at h3⊢;simp only at h3⊢;rw [<-h5,<-h6,<-h7];exact h3
  obtain ⟨b',h4,h5⟩:=fit k b h1;rcases h5 with rfl|h5
  ·exact ⟨_,sz,n,h4,h0,h2,wo⟩
  ·cases b<;>cases b'<;>first|exact h5.elim|(simp [OB.row] at h0;done)|skip
   ·obtain ⟨rfl,hlen⟩:=h5;simp only [OB.row,Aa,Ag] at h0;obtain ⟨rfl,rfl⟩:=h0;exact ⟨_,_,_,h4,rfl,by omega,wo⟩
 |Hs k i=>
  obtain ⟨r,tid,vs,h1,h2,h3⟩:=h;obtain ⟨r',h4,h5,_⟩:=same k r h2;obtain ⟨b',h6,h7⟩:=fit k _ h1;rcases h7 with rfl|h7
  ·exact ⟨r',tid,vs,h6,h4,by rw [<-h5];exact h3⟩
  ·cases b'<;>first|exact h7.elim|exact ⟨r',_,_,h6,h4,by rw [<-h5];exact h3⟩
 |Kq k i=>
  obtain ⟨r,b,sz,n,h1,h0,h2,h3,h4⟩:=h;obtain ⟨r',h5,h6,h7,_⟩:=same k r h3;obtain ⟨b',h8,h9⟩:=fit k _ h1;rcases h9 with rfl|h9
  ·exact ⟨r',_,sz,n,h8,h0,h2,h5,by rw [<-h6,<-h7];exact h4⟩
  ·cases b<;>cases b'<;>first|exact h9.elim|(simp [OB.row] at h0;done)|skip
   obtain ⟨rfl,hlen⟩:=h9;simp only [OB.row,Aa,Ag] at h0;obtain ⟨rfl,rfl⟩:=h0;exact ⟨r',_,_,_,h8,rfl,by omega,h5,by rw [<-h6,<-h7];exact h4⟩
 |sub k i c=>
  obtain ⟨r,b,sz,n,h1,h0,h2,h3,h4,h5⟩:=h
  by_cases ht:tc k
  ·obtain ⟨b',h6,h7⟩:=(hH' k ht).2 _ h1
   cases b<;>first|(cases h0;done)|skip
   all_goals (cases b'<;>exact h7.elim)
  ·exact ⟨r,b,sz,n,by rw [(hH k ht).1];exact h1,h0,by rw [(hH k ht).2];exact h2,h3,h4,by rw [World.cell?_of_block (hx k r ht h2 ⟨b,h1,by rw [h0];simp⟩ (db h5))];exact h5⟩
 |Kl k i c=>
  obtain ⟨r,b,n,sz,g,o,len,cap,h1,h0,h2,h3,h4,h5,h6⟩:=h
  by_cases ht:tc k
  ·obtain ⟨b',h6,h7⟩:=(hH' k ht).2 _ h1
   cases b<;>first|(cases h0;done)|skip
   all_goals (cases b'<;>exact h7.elim)
  ·exact ⟨r,b,n,sz,g,o,len,cap,by rw [(hH k ht).1];exact h1,h0,by rw [(hH k ht).2];exact h2,h3,h4,by rw [World.cell?_of_block (hx k r ht h2 ⟨b,h1,by cases b<;>first|(cases h0;done)|simp [OB.ic]⟩ (db h5))];exact h5,h6⟩
 |clo f En=>
  obtain ⟨us,h1,h2,h3⟩:=h;refine ⟨us,h1,h2,λj p hp=>?_⟩;obtain ⟨r,tid,vs,h4,h5,h6⟩:=h3 j p hp;obtain ⟨r',h7,h8,_⟩:=same _ r h5;obtain ⟨b',h9,qT⟩:=fit _ _ h4;rcases qT with rfl|qT
  ·exact ⟨r',tid,vs,h9,h7,by rw [<-h8];exact h6⟩
  ·cases b'<;>first|exact qT.elim|exact ⟨r',_,_,h9,h7,by rw [<-h8];exact h6⟩
 |Le k=>
  obtain ⟨r,vt,m,h1,h2,h3⟩:=h;obtain ⟨r',h4,h5,_⟩:=same k r h2;obtain ⟨b',h6,h7⟩:=fit k _ h1;rcases h7 with rfl|h7
  ·exact ⟨r',vt,m,h6,h4,by rw [<-h5];exact h3⟩
  ·cases b'<;>first|exact h7.elim|exact ⟨r',_,_,h6,h4,by rw [<-h5];exact h3⟩
 |_=>exact h
def Real.plus (r:Real) (N:List Nat):Real:= {r with cl:= λc=>r.cl c\/c∈N}
theorem Bs.Axd {st:St} {a:Act} (h:Bs X π st a w) {l:Nat} {b0 b:OB} (hl:Ay st.heap l=some b0) (hf:b0.fits b) {r:Real} (hr:π l=some r) {N:List Nat}
  (hN: ∀c∈N,(X.w0.heap.size<=c\/X.gv c)/\c<w.heap.size/\ ∀m r0,m≠l->π m=some r0-> ¬r0.cl c) (hg:w.grownBy w' (some r.g))
  (hb:Move X w w' π (Xp π l (some (r.plus N))) st.heap (st.Kk l b).heap (λc=>c)->Cq X w' (Xp π l (some (r.plus N))) (st.Kk l b).heap (some (r.plus N)) b):Bs X (Xp π l (some (r.plus N))) (st.Kk l b) a w':=by
 have hk: ∀k,k<w.heap.size-> ¬r.Df k->w'.heap[k]?=w.heap[k]?:= λk hk hn=>hg.block k hk (by
  intro e;simp only [Aa] at e
  exact hn (e▸h.1.Df hr))
 have wu: ∀k q,Xp π l (some (r.plus N)) k=some q-> ∃q0,π k=some q0/\(q=q0\/(k=l/\q0=r/\q=r.plus N)):= λk q hq=>by
  by_cases e:k=l
  ·subst e;rw [Gx] at hq;exact ⟨r,hr, .inr ⟨rfl,rfl,(Bi hq).symm⟩⟩
  ·rw [Gw π _ e] at hq;exact ⟨q,hq, .inl rfl⟩
 have cl': ∀k q q0 c,(q=q0\/(k=l/\q0=r/\q=r.plus N))->q.cl c->q0.cl c\/(k=l/\c∈N):= λk q q0 c h1 h2=>by
  rcases h1 with rfl|⟨rfl,rfl,rfl⟩
  ·exact .inl h2
  ·rcases h2 with h2|h2
   ·exact .inl h2
   ·exact .inr ⟨rfl,h2⟩
 have ft: ∀k q q0 c,(q=q0\/(k=l/\q0=r/\q=r.plus N))->(q.Df c↔q0.Df c):= λk q q0 c h1=>by
  rcases h1 with rfl|⟨rfl,rfl,rfl⟩<;>exact Iff.rfl
 have m:Move X w w' π (Xp π l (some (r.plus N))) st.heap (st.Kk l b).heap (λc=>c):=Move.Aje (tc:= λk=>k=l) hg.size (λk Kr hn=>hk k Kr (hn l r rfl hr)) (λc _ ⟨k,q,h1,h2⟩=>by
   obtain ⟨q0,h3,h4⟩:=wu k q h1
   exact ⟨k,q0,h3,(ft k q q0 c h4).1 h2⟩)
  (λm hm=>⟨Ej _ _ _ _ hm,Gw π _ hm⟩) (λm hm=>by subst hm;exact ⟨by rw [hr,Gx];exact ⟨rfl,rfl,rfl,λ_=>Iff.rfl⟩,λb1 h1=>by rw [hl] at h1;cases h1;exact ⟨b,Ff _ _ _ _ hl,hf⟩⟩)
  (λm r' hm h1 _ Kr=>hk _ Kr λh3=>hm (h.1.apart h1 hr (h.1.Df h1) h3))
 refine ⟨⟨?_,h.1.sc,λk q c h1 h2=>?_,λk q c h1 h2=>?_,λk k' q q' c h1 h2 h3 h4=>?_,λk hp Ii=>?_,λk=>?_⟩,?_⟩
 ·exact h.1.below.grown hg h.1.below.size λk hk=>by cases hk;exact (h.1.lt hr).2
 ·obtain ⟨q0,h3,h4⟩:=wu k q h1;have:=h.1.sub k q0 c h3 ((ft k q q0 c h4).1 h2);rcases h4 with rfl|⟨rfl,rfl,rfl⟩
  ·exact this
  ·exact .inl this
 ·obtain ⟨q0,h3,h4⟩:=wu k q h1;rcases cl' k q q0 c h4 h2 with h5|⟨_,h5⟩
  ·exact ⟨(h.1.place k q0 c h3 h5).1,Ep (h.1.place k q0 c h3 h5).2 hg.size⟩
  ·exact ⟨(hN c h5).1,Ep (hN c h5).2.1 hg.size⟩
 ·obtain ⟨q0,g1,g2⟩:=wu k q h1;obtain ⟨q0',g3,g4⟩:=wu k' q' h2
  rcases cl' k q q0 c g2 h3 with h5|⟨h5,h6⟩<;>rcases cl' k' q' q0' c g4 h4 with h7|⟨h7,h8⟩
  ·exact h.1.inj k k' q0 q0' c g1 g3 h5 h7
  ·refine Bz λhn=>(hN c h8).2.2 k q0 (λe=>hn (e.trans h7.symm)) g1 h5
  ·refine Bz λhn=>(hN c h6).2.2 k' q0' (λe=>hn (h5.trans e.symm)) g3 h7
  ·rw [h5,h7]
 ·by_cases e:k=l
  ·subst e;have:=h.1.iM k hp (by rw [hl];simp);rw [hr] at this;rw [Gx]
   cases hx:X.iM k with
   |none=>rw [hx] at this;exact this.elim
   |some q=>rw [hx] at this;exact this
  ·rw [Gw π _ e];exact h.1.iM k hp λh0=>Ii (by rw [show Ay (st.Kk l b).heap k=Ay st.heap k from Ej _ _ _ _ e];exact h0)
 ·by_cases e:k=l
  ·subst e;exact Gu.Mg (by rw [Gx];exact hb m) (Ff _ _ _ _ hl)
  ·have hn:Ay (st.Kk l b).heap k=Ay st.heap k:=Ej _ _ _ _ e;have ho:=h.1.heap k
   cases l7:Ay st.heap k with
   |none=>rw [l7] at hn;exact Gu.Vd (by rw [Gw π _ e];exact ho.emp l7) hn
   |some c=>
    rw [l7] at hn;refine Gu.Mg ?_ hn;rw [Gw π _ e];have:=(ho.Se l7).move m hg.size (λr0 c h0 h1=>h.1.sub _ r0 c h0 h1) λr0 c h0 h1 Kr=>hk _ Kr λh3=>e (h.1.inj _ _ r0 r c h0 hr h1 (h.1.sub _ _ _ hr h3))
    cases c with
    |var tid vs=>simpa [OB.map] using this
    |_=>exact this
 ·exact ⟨h.2.size,h.2.defers,λt=>by have:=m.av (h.2.tmps t);rwa [AC.map_id] at this⟩
theorem Bs.set {st:St} {a:Act} (h:Bs X π st a w) {l:Nat} {b0 b:OB} (hl:Ay st.heap l=some b0) (hf:b0.fits b)
  (hg:w.grownBy w' ((π l).map (·.g)))
  (hb:Move X w w' π π st.heap (st.Kk l b).heap (λc=>c)->Cq X w' π (st.Kk l b).heap (π l) b):Bs X π (st.Kk l b) a w':=by
 have hk: ∀k,k<w.heap.size->(∀r,π l=some r-> ¬r.Df k)->w'.heap[k]?=w.heap[k]?:= λk hk hn=>hg.block k hk (by
  intro e
  cases hp:π l with
  |none=>rw [hp] at e;cases e
  |some r=>rw [hp] at e;simp only [An,Aa] at e;exact hn r hp (e▸h.1.Df hp))
 have m:Move X w w' π π st.heap (st.Kk l b).heap (λc=>c):=Move.Aje (tc:= λk=>k=l) hg.size (λk Kr hn=>hk k Kr λr hr=>hn l r rfl hr) (λ_ _ h=>h)
  (λm hm=>⟨Ej _ _ _ _ hm,rfl⟩) (λm hm=>by subst hm;exact ⟨bP.rfl' _,λb1 h1=>by rw [hl] at h1;cases h1;exact ⟨b,Ff _ _ _ _ hl,hf⟩⟩)
  (λm r hm h1 _ Kr=>hk _ Kr λr1 h2 h3=>hm (h.1.apart h1 h2 (h.1.Df h1) h3))
 refine ⟨⟨?_,h.1.sc,h.1.sub,λk r c h1 h2=>⟨(h.1.place k r c h1 h2).1,Ep (h.1.place k r c h1 h2).2 hg.size⟩,h.1.inj,λk hp Ii=>h.1.iM k hp λh0=>Ii ?_,λk=>?_⟩,?_⟩
 ·refine h.1.below.grown hg h.1.below.size λk hk=>?_
  cases hp:π l with
  |none=>rw [hp] at hk;cases hk
  |some r=>rw [hp] at hk;simp only [An,Aa] at hk;rw [<-hk];exact (h.1.lt hp).2
 ·have:k≠l:= λe=>by subst e;rw [hl] at h0;cases h0
  rw [show Ay (st.Kk l b).heap k=Ay st.heap k from Ej _ _ _ _ this];exact h0
 ·by_cases e:k=l
  ·subst e;exact Gu.Mg (hb m) (Ff _ _ _ _ hl)
  ·have hn:Ay (st.Kk l b).heap k=Ay st.heap k:=Ej _ _ _ _ e;have ho:=h.1.heap k
   cases l7:Ay st.heap k with
   |none=>rw [l7] at hn;exact Gu.Vd (ho.emp l7) hn
   |some c=>
    rw [l7] at hn;refine Gu.Mg ?_ hn;have:=(ho.Se l7).move m hg.size (λr0 c h0 h1=>h.1.sub _ r0 c h0 h1) λr0 c h0 h1 Kr=>hk _ Kr λr1 h2 h3=>e (h.1.inj _ _ r0 r1 c h0 h2 h1 (h.1.sub _ _ _ h2 h3))
    cases c with
    |var tid vs=>simpa [OB.map] using this
    |_=>exact this
 ·exact ⟨h.2.size,h.2.defers,λt=>by have:=m.av (h.2.tmps t);rwa [AC.map_id] at this⟩
end
end Go.Proofs.Ytfgfigkbgecfnaa
