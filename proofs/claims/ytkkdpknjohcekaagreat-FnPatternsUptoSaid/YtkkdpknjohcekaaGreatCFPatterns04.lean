/-
  Part 5 of the proof that the statement FnPatterns holds.
-/
import Derived.Test.YtkkdpknjohcekaaGreatCFPatterns03
namespace Go.Proofs.YtkkdpknjohcekaaGreat
open Go.RowKit
def Xb (π:Pi) (l:Nat) (r:Option Real):Pi:= λk=>if k=l then r else π k
theorem Gu (π:Pi) (l:Nat) (r:Option Real):Xb π l r l=r:=by simp [Xb]
theorem Gr (π:Pi) {l m:Nat} (r:Option Real) (h:m≠l):Xb π l r m=π m:=by simp [Xb,h]
section
variable {X:Ctx} {w w':World} {π:Pi} {H H':List (Nat×OB)}
def Cj (X:Ctx) (w:World) (π:Pi) (H:List (Nat×OB)) (r:Option Real):OB->Prop
 | .arr fr tr e tid xs=>Kg X w π r fr tr e tid xs
 | .Hf e tid xs=>Nx w r e tid xs
 | .var tid vs=>Ag6 X w π H r tid vs
 | .Bl e _ rows out kp=>ij X w π r e rows out kp
 | .Vw v m=>YN w r v m
theorem Gp.Ro {l:Nat} {b:OB} (h:Gp X w π H l) (hb:At H l=some b):Cj X w π H (π l) b:=by
 unfold Gp at h
 rw [hb] at h
 cases b<;>exact h
theorem Gp.Lu {l:Nat} {b:OB} (h:Cj X w π H (π l) b) (hb:At H l=some b):Gp X w π H l:=by
 unfold Gp
 rw [hb]
 cases b<;>exact h
theorem Gp.Um {l:Nat} (h:π l=none) (hb:At H l=none):Gp X w π H l:=by
 unfold Gp;rw [hb];exact h
theorem Gp.emp {l:Nat} (h:Gp X w π H l) (hb:At H l=none):π l=none:=by
 unfold Gp at h;rw [hb] at h;exact h
theorem Cj.move {f:AC->AC} {π':Pi} (m:Move X w w' π π' H H' f) {r:Option Real} {b:OB} (h:Cj X w π H r b) (hs:w.heap.size<=w'.heap.size)
  (Ps: ∀r' c,r=some r'->r'.Cv c->r'.cl c) (hk: ∀r' c,r=some r'->r'.cl c->c<w.heap.size->w'.heap[c]?=w.heap[c]?):
  Cj X w' π' H' r (b.map f):=by
 cases b with
 |arr fr tr e tid xs=>
  simp only [Cj,Kg,OB.map] at h⊢
  cases hr:r with
  |none=>rw [hr] at h;exact h
  |some r=>
   rw [hr] at h
   obtain ⟨h1,cur,ti,h2,h3,h4,h5,h6,h7⟩:=h
   refine ⟨h1,cur,ti,(hk r _ hr (Ps r _ hr h1.1) (Gq h2)).trans h2,h3,h4,h5,λi x hx=>?_,λht=>(h7 ht).Fk hs (λc _ Jj hc=>hk r c hr hc Jj) λ_ hb=>hb⟩
   obtain ⟨es,he,hj,hc⟩:=h6 i x hx
   exact ⟨es,he,hj,m.cells _ _ _ _ hc⟩
 |Hf e tid xs=>
  simp only [Cj,Nx,OB.map] at h⊢
  cases hr:r with
  |none=>rw [hr] at h;exact h
  |some r=>
   rw [hr] at h
   obtain ⟨h1,cur,ti,h2,h3,h4,h5,h7⟩:=h
   exact ⟨h1,cur,ti,(hk r _ hr (Ps r _ hr h1) (Gq h2)).trans h2,h3,h4,h5,h7.Fk hs (λc _ Jj hc=>hk r c hr (Ps r c hr hc) Jj) λ_ hb=>hb⟩
 |var tid vs=>
  obtain ⟨r',h0,h1,cur,h2,h3⟩:=h
  exact ⟨r',h0,h1,cur,(hk r' _ h0 (Ps r' _ h0 h1) (Gq h2)).trans h2,m.acs h3⟩
 |Bl e te rows out kp=>exact ij.Fk h (λq b hq hf Jj=>hk q b hq (Ps q b hq hf) Jj) (λes x=>m.cells false e es x)
 |Vw v g=>
  obtain ⟨r',h0,h1,h2,h3⟩:=h
  refine ⟨r',h0,h1,h2,?_⟩
  simp only [Cells] at h3⊢
  rcases h3 with ⟨h3,_⟩|⟨g,h3,hg,_,es,clock,h4,h5,h6,h7⟩
  ·simp at h3
  ·simp only [Hb,Value.map.injEq,Aa,Oh] at h3
   subst h3
   refine .inr ⟨r'.g,rfl,by omega,λh=>h,es,clock,(hk r' _ h0 (Ps r' _ h0 h1) hg).trans h4,h5,h6,λs y hy=>?_⟩
   obtain ⟨u,h8,h9⟩:=h7 s y hy
   exact ⟨u,h8,Cells.flat v [u] y h2.1 h9⟩
theorem Move.forget {l:Nat} {r':Option Real} (hs:w.heap.size<=w'.heap.size)
  (hk: ∀k,k<w.heap.size->(∀r,π l=some r-> ¬r.Cv k)->w'.heap[k]?=w.heap[k]?)
  (hr: ∀r b,r'=some r->r.Cv b->(∃r0,π l=some r0/\r0.Cv b)\/w.heap.size<=b)
  (hH: ∀m,m≠l->At H' m=(At H m).map (OB.map (Cq l)))
  (hx: ∀m r,m≠l->π m=some r->(∃b,At H m=some b/\b.gD≠none)->r.g<w.heap.size->w'.heap[r.g]?=w.heap[r.g]?):Move X w w' π (Xb π l r') H H' (Cq l):=by
 have hc: ∀fr τ cs x,Cells w (Da X.w0.heap.size X.Sc π fr) τ cs x->Cells w' (Da X.w0.heap.size X.Sc (Xb π l r') fr) τ cs x:=by
  intro fr τ cs x h
  refine Cells.Fk hs (λk tm hn=>hk k tm λr h0 h1=>hn (.inl ⟨l,r,h0,h1⟩)) (λk tm hA=>?_) τ cs x h
  rcases hA with ⟨m,r,hm,hg⟩|h2
  ·by_cases iV:m=l
   ·subst iV
    rw [Gu] at hm
    rcases hr r k hm hg with ⟨r0,h0,h1⟩|h1
    ·exact .inl ⟨m,r0,h0,h1⟩
    ·omega
   ·rw [Gr π r' iV] at hm
    exact .inl ⟨m,r,hm,hg⟩
  ·exact .inr h2
 refine ⟨λc v h=>?_,hc⟩
 cases c with
 |data fr τ x=>obtain ⟨cs,h1,h2⟩:=h;exact ⟨cs,hc _ _ _ _ h1,h2⟩
 |own k off len=>
  simp only [Cq]
  split
  ·trivial
  ·rename_i Rk
   obtain ⟨b,sz,n,h1,h0,h2,h3⟩:=h
   exact ⟨b.map (Cq l),sz,n,by rw [hH k Rk,h1];rfl,by cases b<;>exact h0,h2,by rw [Gr π r' Rk];exact h3⟩
 |Hr k i=>
  simp only [Cq]
  split
  ·trivial
  ·rename_i Rk
   obtain ⟨r,tid,vs,h1,h2,h3⟩:=h
   exact ⟨r,tid,vs.map (Cq l),by rw [hH k Rk,h1];rfl,by rw [Gr π r' Rk];exact h2,h3⟩
 |Ki k i=>
  simp only [Cq]
  split
  ·trivial
  ·rename_i Rk
   obtain ⟨r,b,sz,n,h1,h0,h2,h3,h4⟩:=h
   exact ⟨r,b.map (Cq l),sz,n,by rw [hH k Rk,h1];rfl,by cases b<;>exact h0,h2,by rw [Gr π r' Rk];exact h3,h4⟩
 |sub k i c=>
  simp only [Cq]
  split
  ·trivial
  ·rename_i Rk
   obtain ⟨r,b,sz,n,h1,h0,h2,h3,h4,h5⟩:=h
   exact ⟨r,b.map (Cq l),sz,n,by rw [hH k Rk,h1];rfl,by cases b<;>exact h0,by rw [Gr π r' Rk];exact h2,h3,h4,by rw [World.cell?_of_block (hx k r Rk h2 ⟨b,h1,by rw [h0];simp⟩ (cD h5))];exact h5⟩
 |Kf k i c=>
  simp only [Cq]
  split
  ·trivial
  ·rename_i Rk
   obtain ⟨r,b,n,sz,g,o,len,cap,h1,h0,h2,h3,h4,h5,h6⟩:=h
   exact ⟨r,b.map (Cq l),n,sz,g,o,len,cap,by rw [hH k Rk,h1];rfl,by cases b<;>exact h0,by rw [Gr π r' Rk];exact h2,h3,h4,by rw [World.cell?_of_block (hx k r Rk h2 ⟨b,h1,by cases b<;>first|(cases h0;done)|simp [OB.gD]⟩ (cD h5))];exact h5,h6⟩
 |clo f Ef=>
  simp only [Cq]
  split
  ·trivial
  ·rename_i Rk
   obtain ⟨us,h1,h2,h3⟩:=h
   refine ⟨us,h1,h2,λj p hp=>?_⟩
   obtain ⟨r,tid,vs,h4,h5,h6⟩:=h3 j p hp
   have ia:p.1≠l:= λe=>Rk (by simp only [Js,Bg];exact ⟨p,Cl hp,e⟩)
   exact ⟨r,tid,vs.map (Cq l),by rw [hH _ ia,h4];rfl,by rw [Gr π r' ia];exact h5,h6⟩
 |Kq k=>
  simp only [Cq]
  split
  ·trivial
  ·rename_i Rk
   obtain ⟨r,vt,m,h1,h2,h3⟩:=h
   exact ⟨r,vt,m,by rw [hH k Rk,h1];rfl,by rw [Gr π r' Rk];exact h2,h3⟩
 |_=>exact h
theorem St.a5 (st:St) (l m:Nat) (b:OB) (h:m≠l):At (st.new l b).heap m=(At st.heap m).map (OB.map (Cq l)):=by
 simp only [St.new,St.forget,St.Lb]
 rw [Pg _ _ _ _ h,Ns _ _ _ h,Oq]
theorem St.Hg (st:St) (l:Nat) (b:OB):At (st.new l b).heap l=some b:=by
 simp only [St.new,St.forget,St.Lb]
 exact Qn _ _ _ (Mp _ _)
theorem St.iS (st:St) (l m:Nat) (h:m≠l):At (st.forget l).heap m=(At st.heap m).map (OB.map (Cq l)):=by
 simp only [St.forget,St.Lb]
 rw [Ns _ _ _ h,Oq]
theorem St.oX (st:St) (l:Nat):At (st.forget l).heap l=none:=by
 simp only [St.forget,St.Lb]
 exact Mp _ _
theorem Bi.jl {st:St} {a:Act} (h:Bi X π st a w) (l:Nat) (hl:l<Bn) (r':Option Real) (b:OB)
  (hg:w.grownBy w' ((π l).map (·.g)))
  (hf: ∀r b,r'=some r->r.Cv b->r.cl b/\((∃r0,π l=some r0/\r0.Cv b)\/w.heap.size<=b))
  (hr: ∀r b,r'=some r->r.cl b->(X.w0.heap.size<=b\/X.gv b)/\b<w'.heap.size/\ ∀m r0,m≠l->π m=some r0-> ¬r0.cl b)
  (hb:Move X w w' π (Xb π l r') st.heap (st.new l b).heap (Cq l)->Cj X w' (Xb π l r') (st.new l b).heap r' b):Bi X (Xb π l r') (st.new l b) a w':=by
 have hk: ∀k,k<w.heap.size->(∀r,π l=some r-> ¬r.Cv k)->w'.heap[k]?=w.heap[k]?:= λk hk hn=>hg.block k hk (by
  intro e
  cases hp:π l with
  |none=>rw [hp] at e;cases e
  |some r=>rw [hp] at e;simp only [Am,Aa] at e;exact hn r hp (e▸h.1.Cv hp))
 have m:Move X w w' π (Xb π l r') st.heap (st.new l b).heap (Cq l):=Move.forget hg.size hk (λr c h1 h2=>(hf r c h1 h2).2) (λm hm=>St.a5 st l m b hm)
  (λm r hm h1 _ Jj=>hk _ Jj λr1 h2 h3=>hm (h.1.apart h1 h2 (h.1.Cv h1) h3))
 refine ⟨⟨?_,h.1.sc,?_,?_,?_,?_,λk=>?_⟩,?_⟩
 ·refine h.1.below.grown hg h.1.below.size λk hk=>?_
  cases hp:π l with
  |none=>rw [hp] at hk;cases hk
  |some r=>rw [hp] at hk;simp only [Am,Aa] at hk;rw [<-hk];exact (h.1.lt hp).2
 ·intro k r c h1 h2
  by_cases e1:k=l
  ·subst e1;rw [Gu] at h1;exact (hf r c h1 h2).1
  ·rw [Gr π r' e1] at h1;exact h.1.sub k r c h1 h2
 ·intro k r c h1 h2
  by_cases e1:k=l
  ·subst e1;rw [Gu] at h1;have:=hr r c h1 h2;exact ⟨this.1,this.2.1⟩
  ·rw [Gr π r' e1] at h1;have:=h.1.place k r c h1 h2;exact ⟨this.1,Eg this.2 hg.size⟩
 ·intro l1 l2 r1 r2 c h1 h2 h3 h4
  by_cases e1:l1=l<;>by_cases e2:l2=l
  ·rw [e1,e2]
  ·subst e1
   rw [Gu] at h1;rw [Gr π r' e2] at h2
   exact absurd h4 ((hr r1 c h1 h3).2.2 l2 r2 e2 h2)
  ·subst e2
   rw [Gu] at h2;rw [Gr π r' e1] at h1
   exact absurd h3 ((hr r2 c h2 h4).2.2 l1 r1 e1 h1)
  ·rw [Gr π r' e1] at h1;rw [Gr π r' e2] at h2
   exact h.1.inj _ _ r1 r2 c h1 h2 h3 h4
 ·intro k hpk Iz
  have e:k≠l:= λe=>by subst e;omega
  rw [St.a5 st l k b e] at Iz
  rw [Gr π r' e]
  exact h.1.ic k hpk λh0=>Iz (by rw [h0];rfl)
 ·by_cases e:k=l
  ·subst e
   exact Gp.Lu (by rw [Gu];exact hb m) (St.Hg st k b)
  ·have hn:=St.a5 st l k b e
   have ho:=h.1.heap k
   cases jY:At st.heap k with
   |none=>rw [jY] at hn;exact Gp.Um (by rw [Gr π r' e];exact ho.emp jY) hn
   |some c=>
    rw [jY] at hn
    refine Gp.Lu ?_ hn
    rw [Gr π r' e]
    exact (ho.Ro jY).move m hg.size (λr0 c h0 h1=>h.1.sub _ r0 c h0 h1) λr0 c h0 h1 Jj=>hk _ Jj λr1 h2 h3=>e (h.1.inj _ _ r0 r1 c h0 h2 h1 (h.1.sub _ _ _ h2 h3))
 ·have hh:sf X w' (Xb π l r') {tmps:=st.tmps.map (·.map (Cq l)),heap:=(st.new l b).heap} a:=m.OG rfl h.2
  exact hh
def Real.one (g o cap:Nat):Real:=⟨g,o,cap,λb=>b=g,λb=>b=g⟩
theorem Bi.replace {st:St} {a:Act} (h:Bi X π st a w) (l:Nat) (hl:l<Bn) (r':Option Real) (b:OB)
  (hg:w.grownBy w' ((π l).map (·.g)))
  (hr: ∀r,r'=some r->r=Real.one r.g r.o r.cap/\((∃r0,π l=some r0/\r0.g=r.g)\/w.heap.size<=r.g)/\r.g<w'.heap.size)
  (hb:Move X w w' π (Xb π l r') st.heap (st.new l b).heap (Cq l)->Cj X w' (Xb π l r') (st.new l b).heap r' b):Bi X (Xb π l r') (st.new l b) a w':=by
 refine h.jl l hl r' b hg (λr c h1 h2=>?_) (λr c h1 h2=>?_) hb
 ·obtain ⟨h3,h4,_⟩:=hr r h1
  have h2':c=r.g:=by rw [h3] at h2;exact h2
  subst h2'
  refine ⟨by rw [h3];rfl,h4.imp (λ⟨r0,h5,h6⟩=>⟨r0,h5,h6▸h.1.Cv h5⟩) id⟩
 ·obtain ⟨h3,h4,h5⟩:=hr r h1
  have h2':c=r.g:=by rw [h3] at h2;exact h2
  subst h2'
  refine ⟨?_,h5,λm r0 hm h6 h7=>?_⟩
  ·rcases h4 with ⟨r0,h6,h7⟩|h6
   ·rw [<-h7];exact (h.1.lt h6).2
   ·exact .inl (Ib h.1.below.size h6)
  ·rcases h4 with ⟨r1,h8,h9⟩|h8
   ·exact hm (h.1.inj m l r0 r1 r.g h6 h8 h7 (h9▸h.1.sub l r1 _ h8 (h.1.Cv h8)))
   ·have:=(h.1.place m r0 _ h6 h7).2;omega
theorem Mz.drop (h:Mz X w π H) {f:AC->AC} (l:Nat) (m:Move X w w π (Xb π l none) H H' f) (h0:At H' l=none) (hH: ∀k,k≠l->At H' k=(At H k).map (OB.map f)):Mz X w (Xb π l none) H':=by
 have un: ∀k r,Xb π l none k=some r->k≠l/\π k=some r:= λk r hk=>by
  by_cases e:k=l
  ·subst e;rw [Gu] at hk;cases hk
  ·rw [Gr π none e] at hk;exact ⟨e,hk⟩
 refine ⟨h.below,h.sc,λk r c h1 h2=>h.sub k r c (un k r h1).2 h2,λk r c h1 h2=>h.place k r c (un k r h1).2 h2,λl1 l2 r1 r2 c h1 h2 h3 h4=>h.inj _ _ r1 r2 c (un _ _ h1).2 (un _ _ h2).2 h3 h4,λk hp Iz=>?_,λk=>?_⟩
 ·have e:k≠l:= λe=>by subst e;exact Iz h0
  rw [hH k e] at Iz
  rw [Gr π none e]
  exact h.ic k hp λh1=>Iz (by rw [h1];rfl)
 ·by_cases e:k=l
  ·subst e
   exact Gp.Um (by rw [Gu]) h0
  ·have hn:=hH k e
   have ho:=h.heap k
   cases jY:At H k with
   |none=>rw [jY] at hn;exact Gp.Um (by rw [Gr π none e];exact ho.emp jY) hn
   |some c=>
    rw [jY] at hn
    refine Gp.Lu ?_ hn
    rw [Gr π none e]
    exact (ho.Ro jY).move m (Ao _) (λr0 c h0 h1=>h.sub _ r0 c h0 h1) λr0 c h0 h1 Jj=>rfl
theorem Bi.forget {st:St} {a:Act} (h:Bi X π st a w) (l:Nat):Bi X (Xb π l none) (st.forget l) a w:=by
 have m:Move X w w π (Xb π l none) st.heap (st.forget l).heap (Cq l):=
  Move.forget (Ao _) (λ_ _ _=>rfl) (λr c hr=>by cases hr) (λm hm=>St.iS st l m hm) (λ_ _ _ _ _ _=>rfl)
 refine ⟨h.1.drop l m (St.oX st l) λk e=>St.iS st l k e,?_⟩
 have hh:sf X w (Xb π l none) {tmps:=st.tmps.map (·.map (Cq l)),heap:=(st.forget l).heap} a:=m.OG rfl h.2
 exact hh
theorem cellOf {w:World} {g:Nat} {cur:Array Value} {tid:TypeId} (h:w.heap[g]?=some (.cells cur tid (0,0))) (i:Nat):w.cell? ⟨g,i,none⟩=cur[i]?:=by
 simp [World.cell?,h]
theorem Oi {l off len:Nat} {v:Value} {fr tr:Bool} {e:Ty} {tid:TypeId} {xs:List e.den} (h:Hv X w π H (.own l off len) v) (hl:At H l=some (.arr fr tr e tid xs)):off+len<=xs.length/\Ih (π l) e.size off len v:=by
 obtain ⟨b,sz,n,h1,h0,h2,h3⟩:=h
 rw [hl] at h1;cases h1
 simp only [OB.row,Aa,Ae] at h0
 obtain ⟨rfl,rfl⟩:=h0
 exact ⟨h2,h3⟩
theorem c7 {l off len:Nat} {v:Value} {e:Ty} {tid:TypeId} {xs:List e.den} (h:Hv X w π H (.own l off len) v) (hl:At H l=some (.Hf e tid xs)):off+len<=xs.length/\Ih (π l) e.size off len v:=by
 obtain ⟨b,sz,n,h1,h0,h2,h3⟩:=h
 rw [hl] at h1;cases h1
 simp only [OB.row,Aa,Ae] at h0
 obtain ⟨rfl,rfl⟩:=h0
 exact ⟨h2,h3⟩
theorem MU {l off len:Nat} {v:Value} {fr tr:Bool} {e:Ty} {tid:TypeId} {xs:List e.den} (hl:At H l=some (.arr fr tr e tid xs)) (h1:off+len<=xs.length) (h2:Ih (π l) e.size off len v):Hv X w π H (.own l off len) v:=
 ⟨_,e.size,xs.length,hl,rfl,h1,h2⟩
theorem ym {r:Real} {off len:Nat} {v:Value} {e:Ty} {tid:TypeId} {xs:List e.den} {S:Nat->Prop} {cur:Array Value} (h2:w.heap[r.g]?=some (.cells cur tid (0,0)))
  (hlen:off+len<=xs.length) (hv:Ih (some r) e.size off len v) (hg: ¬S r.g)
  (hA: ∀(i:Nat) (x:e.den),xs[i]?=some x-> ∃es:List Value,es.length=e.size/\(∀j u,es[j]?=some u->cur[(r.o+i)*e.size+j]?=some u)/\Cells w S e es x):Cells w S (.slice e) [v] ((xs.drop off).take len):=by
 have hll:((xs.drop off).take len).length=len:=by simp;omega
 obtain ⟨ad,rfl,hc,ha⟩:=hv
 refine ⟨some ad,len,r.cap-off,rfl,hll.symm,by omega,?_⟩
 rcases Tq len with h0|h0
 ·left;subst h0;simp
 ·right
  refine ⟨r.g,(r.o+off)*e.size,by rw [ha (by omega)],Gq h2,hg,λi x hx=>?_⟩
  have hi:i<len:=by
   have:=(An.1 hx).1
   rw [hll] at this;exact this
  have hx':xs[off+i]?=some x:=by
   rw [Cx,Ab hi,De] at hx;exact hx
  obtain ⟨es,he,hj,zo⟩:=hA (off+i) x hx'
  refine ⟨es,he,λj u hu=>?_,zo⟩
  rw [cellOf h2]
  have:=hj j u hu
  rw [<-this]
  congr 1
  rw [<-Ha,Dj (r.o+off) i]
theorem pv {l off len:Nat} {v:Value} {fr tr:Bool} {e:Ty} {tid:TypeId} {xs:List e.den} {S:Nat->Prop} (h:Mz X w π H) (hl:At H l=some (.arr fr tr e tid xs))
  (hlen:off+len<=xs.length) (hv:Ih (π l) e.size off len v)
  (hS: ∀k,S k->(∃r,π l=some r/\r.Cv k)->False) (hA: ∀k,k<w.heap.size->S k->Da X.w0.heap.size X.Sc π fr k):Cells w S (.slice e) [v] ((xs.drop off).take len):=by
 have hb:=(h.heap l).Ro hl
 simp only [Cj,Kg] at hb
 cases hp:π l with
 |none=>
  rw [hp] at hb hv
  obtain ⟨rfl,rfl,rfl⟩:=hv
  exact ⟨none,0,0,rfl,by simp,Ao _, .inl (by simp)⟩
 |some r=>
  rw [hp] at hb hv
  obtain ⟨h1,cur,_,h2,h3,h4,h5,h6,_⟩:=hb
  refine ym h2 hlen hv (λhs=>hS _ hs ⟨r,hp,h1.1⟩) λi x hx=>?_
  obtain ⟨es,he,hj,zo⟩:=h6 i x hx
  exact ⟨es,he,hj,Cells.Fk (Ao _) (λ_ _ _=>rfl) hA e es x zo⟩
theorem Ta.slice {D S:Nat->Prop} {R:Option Real} {e:Ty} {x:List e.den} {u:Value} (h:Ta w D R e x) (hv:Ih R e.size 0 (List.length x) u) (hD: ∀k,S k->D k) (hg: ∀q,R=some q-> ¬S q.g):Cells w S (.slice e) [u] x:=by
 cases R with
 |none=>
  have hx:x= []:=h
  subst hx
  obtain ⟨rfl,_,_⟩:=hv
  exact ⟨none,0,0,rfl,rfl,Ao _, .inl rfl⟩
 |some q=>
  obtain ⟨h1,cur,ti,h2,h3,h4,h5,h6⟩:=h
  obtain ⟨ad,rfl,g1,g2⟩:=hv
  refine ⟨some ad,List.length x,_,rfl,rfl,by omega,?_⟩
  rcases Tq (List.length x) with hx|hx
  ·exact .inl (Ck hx)
  ·have ZK:=g2 (by omega)
   subst ZK
   refine .inr ⟨q.g,(q.o+0)*e.size,rfl,Gq h2,hg q rfl,λi y hy=>?_⟩
   obtain ⟨es,k1,k2,k3⟩:=h6 i y hy
   refine ⟨es,k1,λj u hu=>?_,Cells.Fk (Ao _) (λ_ _ _=>rfl) (λk _ hk=>hD k hk) e es y k3⟩
   rw [cellOf h2,Er,<-Dj]
   exact k2 j u hu
theorem o0 {l off len:Nat} {v:Value} {e:Ty} {te:TypeId} {rows:List (List e.den)} {out:Option Nat} {kp:Option (Nat×Nat)} (h:Hv X w π H (.own l off len) v) (hl:At H l=some (.Bl e te rows out kp)):off+len<=rows.length/\Ih (π l) 1 off len v:=by
 obtain ⟨b,sz,n,h1,h2,h3,h4⟩:=h
 rw [hl] at h1;cases h1
 simp only [OB.row,Aa,Ae] at h2
 obtain ⟨rfl,rfl⟩:=h2
 exact ⟨h3,h4⟩
theorem sV {l off len:Nat} {v:Value} {e:Ty} {te:TypeId} {rows:List (List e.den)} {kp:Option (Nat×Nat)} {S:Nat->Prop} (h:Mz X w π H) (hl:At H l=some (.Bl e te rows none kp))
  (hlen:off+len<=rows.length) (hv:Ih (π l) 1 off len v)
  (hS: ∀k,S k->(∃r,π l=some r/\r.Cv k)->False) (hA: ∀k,S k->Da X.w0.heap.size X.Sc π false k):Cells w S (.slice (.slice e)) [v] ((rows.drop off).take len):=by
 have hb:=(h.heap l).Ro hl
 simp only [Cj] at hb
 have hb:=hb.1
 cases hp:π l with
 |none=>
  rw [hp] at hb hv
  have hb:rows= []:=hb
  obtain ⟨rfl,rfl,rfl⟩:=hv
  exact ⟨none,0,0,rfl,by simp,Ao _, .inl (by simp)⟩
 |some r=>
  rw [hp] at hb hv
  obtain ⟨h1,cur,ti,h2,h3,h4,h5,Rs,h6,h7,h8,h9⟩:=hb
  obtain ⟨ad,rfl,g1,g2⟩:=hv
  refine ⟨some ad,len,_,rfl,by simp;omega,by omega,?_⟩
  rcases Tq len with hx|hx
  ·subst hx;exact .inl (by simp)
  ·have ZK:=g2 (by omega)
   subst ZK
   refine .inr ⟨r.g,(r.o+off)*1,rfl,Gq h2,λhs=>hS _ hs ⟨r,hp,h1⟩,λi x hx=>?_⟩
   have hx:((rows.drop off).take len)[i]?=some x:=hx
   rw [Cx] at hx
   split at hx
   ·rw [De] at hx
    obtain ⟨u,R,k1,k2,k3,k4⟩:=h9 _ x hx (by simp)
    refine ⟨[u],rfl,λj u' gY=>?_,k4.slice k3 hA λq hq hs=>hS _ hs ⟨r,hp,(h7 _ q (by rw [k2,hq])).1⟩⟩
    rcases j with _|j
    ·simp only [Bz,Aa] at gY
     subst gY
     rw [cellOf h2,<-k1]
     congr 1
     simp only [Ty.size];omega
    ·simp at gY
   ·cases hx
theorem FE {l i c:Nat} {v:Value} {e:Ty} {te:TypeId} {rows:List (List e.den)} {out:Option Nat} {kp:Option (Nat×Nat)} (hv:Hv X w π H (.sub l i c) v) (hl:At H l=some (.Bl e te rows out kp)):rows[i]?=some (rows.getD i []):=by
 obtain ⟨r,b,sz,n,h1,h0,_,h3,_⟩:=hv
 rw [hl] at h1;cases h1
 simp only [OB.gD,Aa,Ae] at h0
 obtain ⟨rfl,rfl⟩:=h0
 rw [Ai,Ac h3];rfl
theorem nv {l i:Nat} {e:Ty} {te:TypeId} {rows:List (List e.den)} {out:Option Nat} {kp:Option (Nat×Nat)} {r:Real} (h:Mz X w π H) (hl:At H l=some (.Bl e te rows out kp)) (hp:π l=some r) (hi:i<rows.length) (ho:out≠some i):
  ∃u R,w.cell? ⟨r.g,r.o+i,none⟩=some u/\Ih R e.size 0 (rows.getD i []).length u/\Ta w (Da X.w0.heap.size X.Sc π false) R e (rows.getD i []):=by
 have hb:=(h.heap l).Ro hl
 simp only [Cj] at hb
 have hb:=hb.1
 rw [hp] at hb
 obtain ⟨h1,cur,ti,h2,h3,h4',h5',Rs,h6,h7,h8,h9⟩:=hb
 have hx:rows[i]?=some (rows.getD i []):=by rw [Ai,Ac hi];rfl
 obtain ⟨u,R,k1,k2,k3,k4⟩:=h9 _ _ hx ho
 exact ⟨u,R,by rw [cellOf h2];exact k1,k3,k4⟩
theorem aW {R:Option Real} {sz off len:Nat} {u:Value} (h:Ih R sz off len u): ∃a n m,u= .slice a n m:=by
 cases R with
 |none=>exact ⟨_,_,_,h.1⟩
 |some q=>obtain ⟨ad,rfl,_⟩:=h;exact ⟨_,_,_,rfl⟩
theorem sW {l i c:Nat} {v:Value} {e:Ty} {te:TypeId} {rows:List (List e.den)} {kp:Option (Nat×Nat)} {x:List e.den} {S:Nat->Prop} (h:Mz X w π H) (hl:At H l=some (.Bl e te rows none kp)) (hx:rows[i]?=some x)
  (hv:Hv X w π H (.sub l i c) v)
  (hS: ∀k,S k->(∃r,π l=some r/\r.Cv k)->False) (hA: ∀k,S k->Da X.w0.heap.size X.Sc π false k):Cells w S (.slice e) [v] x:=by
 obtain ⟨r,b,sz,n,h1,h0,hp,h3,⟨h4,_⟩,h5⟩:=hv
 rw [hl] at h1;cases h1
 simp only [OB.gD,Aa,Ae] at h0
 obtain ⟨rfl,rfl⟩:=h0
 have hb:=(h.heap l).Ro hl
 simp only [Cj] at hb
 have hb:=hb.1
 rw [hp] at hb
 obtain ⟨h1,cur,ti,h2,h3,h4',h5',Rs,h6,h7,h8,h9⟩:=hb
 obtain ⟨u,R,k1,k2,k3,k4⟩:=h9 _ x hx (by simp)
 have:c=0:=by omega
 subst this
 rw [cellOf h2,Fm,Er,k1] at h5
 have hv:=Bd h5
 subst hv
 exact k4.slice k3 hA λq hq hs=>hS _ hs ⟨r,hp,(h7 _ q (by rw [k2,hq])).1⟩
theorem mG {l off len:Nat} {v:Value} {e:Ty} {tid:TypeId} {xs:List e.den} {S:Nat->Prop} (h:Mz X w π H) (hl:At H l=some (.Hf e tid xs))
  (hlen:off+len<=xs.length) (hv:Ih (π l) e.size off len v)
  (hS: ∀k,S k->(∃r,π l=some r/\r.Cv k)->False):Cells w S (.slice e) [v] ((xs.drop off).take len):=by
 have hb:=(h.heap l).Ro hl
 simp only [Cj,Nx] at hb
 cases hp:π l with
 |none=>
  rw [hp] at hb hv
  obtain ⟨rfl,rfl,rfl⟩:=hv
  exact ⟨none,0,0,rfl,by simp,Ao _, .inl (by simp)⟩
 |some r=>
  rw [hp] at hb hv
  obtain ⟨h1,cur,_,h2,h3,h4,h5,Fs,k1,k2,k3,k4⟩:=hb
  refine ym h2 hlen hv (λhs=>hS _ hs ⟨r,hp,h1⟩) λi x hx=>?_
  have hi:i<Fs.length:=by have:=(An.1 hx).1;omega
  obtain ⟨es,he,hj,zo⟩:=k4 i x _ hx (Ac hi)
  exact ⟨es,he,hj,zo.cells _ _ _ _ λb hb hs=>hS b hs ⟨r,hp,k3 b (Hu.2 ⟨_,Al hi,hb⟩)⟩⟩
theorem St.Rv (st:St) (l m:Nat) (fr:Bool) (e:Ty) (xs:List e.den) (h:m≠l):At (st.freeze l fr e xs).heap m=(At st.heap m).map (OB.map (Cz l fr e xs)):=by
 simp only [St.freeze,St.Lb]
 rw [Ns _ _ _ h,Oq]
theorem St.Mk (st:St) (l:Nat) (fr:Bool) (e:Ty) (xs:List e.den):At (st.freeze l fr e xs).heap l=none:=by
 simp only [St.freeze,St.Lb]
 exact Mp _ _
theorem sx {l:Nat} {B:Nat} {Sc:Nat->Prop} {fr:Bool} {k:Nat} (hA:Da B Sc (Xb π l none) fr k):Da B Sc π fr k:=by
 rcases hA with ⟨m,r,hm,hg⟩|h2
 ·by_cases iV:m=l
  ·subst iV;rw [Gu] at hm;cases hm
  ·rw [Gr π none iV] at hm
   exact .inl ⟨m,r,hm,hg⟩
 ·exact .inr h2
theorem Mz.let (h:Mz X w π H) {l:Nat} {fr:Bool} (zp:fr=true-> ∀r,π l=some r-> ∀b,r.Cv b->X.w0.heap.size<=b) {k:Nat} (hS:Da X.w0.heap.size X.Sc (Xb π l none) fr k) (hk: ∃r,π l=some r/\r.Cv k):False:=by
 obtain ⟨r,hr,MB⟩:=hk
 rcases hS with ⟨m,r',hm,hg⟩|hS|⟨hf,hS⟩
 ·by_cases iV:m=l
  ·subst iV;rw [Gu] at hm;cases hm
  ·rw [Gr π none iV] at hm
   exact iV (h.apart hm hr hg MB)
 ·have h1:=h.sc k hS
  rcases (h.own ⟨l,r,hr,MB⟩).2 with h2|h2
  ·omega
  ·exact h1.2 h2
 ·have:=zp hf r hr k MB;omega
theorem Move.RE {l:Nat} {f:AC->AC} (hf: ∀c v,Hv X w π H c v->(∀k∈c.refs,k≠l)->f c=c)
  (hl: ∀c v,Hv X w π H c v->l∈c.refs->Hv X w (Xb π l none) H' (f c) v)
  (hH: ∀m,m≠l->At H' m=(At H m).map (OB.map f)):Move X w w π (Xb π l none) H H' f:=by
 have hc: ∀Wh τ cs x,Cells w (Da X.w0.heap.size X.Sc π Wh) τ cs x->Cells w (Da X.w0.heap.size X.Sc (Xb π l none) Wh) τ cs x:=
  fun Wh τ cs x hh=>Cells.Fk (Ao _) (λ_ _ _=>rfl) (λk _ hA=>sx hA) τ cs x hh
 refine ⟨λc v LP=>?_,hc⟩
 by_cases hlr:l∈c.refs
 ·exact hl c v LP hlr
 ·rw [hf c v LP λk hk e=>hlr (e▸hk)]
  cases c with
  |data Wh τ x=>obtain ⟨cs,h1,h2⟩:=LP;exact ⟨cs,hc _ _ _ _ h1,h2⟩
  |own k off len=>
   have Rk:k≠l:= λe=>hlr (by simp [AC.refs,e])
   obtain ⟨b,sz,n,h1,h0,h2,h3⟩:=LP
   exact ⟨b.map f,sz,n,by rw [hH k Rk,h1];rfl,by cases b<;>exact h0,h2,by rw [Gr π none Rk];exact h3⟩
  |Hr k i=>
   have Rk:k≠l:= λe=>hlr (by simp [AC.refs,e])
   obtain ⟨r,Vc,vs,h1,h2,h3⟩:=LP
   exact ⟨r,Vc,vs.map f,by rw [hH k Rk,h1];rfl,by rw [Gr π none Rk];exact h2,h3⟩
  |Ki k i=>
   have Rk:k≠l:= λe=>hlr (by simp [AC.refs,e])
   obtain ⟨r,b,sz,n,h1,h0,h2,h3,h4⟩:=LP
   exact ⟨r,b.map f,sz,n,by rw [hH k Rk,h1];rfl,by cases b<;>exact h0,h2,by rw [Gr π none Rk];exact h3,h4⟩
  |sub k i c=>
   have Rk:k≠l:= λe=>hlr (by simp [AC.refs,e])
   obtain ⟨r,b,sz,n,h1,h0,h2,h3⟩:=LP
   exact ⟨r,b.map f,sz,n,by rw [hH k Rk,h1];rfl,by cases b<;>exact h0,by rw [Gr π none Rk];exact h2,h3⟩
  |Kf k i c=>
   have Rk:k≠l:= λe=>hlr (by simp [AC.refs,e])
   obtain ⟨r,b,n,sz,g,o,len,cap,h1,h0,h2,h3⟩:=LP
   exact ⟨r,b.map f,n,sz,g,o,len,cap,by rw [hH k Rk,h1];rfl,by cases b<;>exact h0,by rw [Gr π none Rk];exact h2,h3⟩
  |clo g Ef=>
   obtain ⟨us,h1,h2,h3⟩:=LP
   refine ⟨us,h1,h2,λj p hp=>?_⟩
   obtain ⟨r,tid,vs,h4,h5,h6⟩:=h3 j p hp
   have ia:p.1≠l:= λe=>hlr (by simp only [AC.refs,Bg];exact ⟨p,Cl hp,e⟩)
   exact ⟨r,tid,vs.map f,by rw [hH _ ia,h4];rfl,by rw [Gr π none ia];exact h5,h6⟩
  |Kq k=>
   have Rk:k≠l:= λe=>hlr (by simp [AC.refs,e])
   obtain ⟨r,vt,m,h1,h2,h3⟩:=LP
   exact ⟨r,vt,m,by rw [hH k Rk,h1];rfl,by rw [Gr π none Rk];exact h2,h3⟩
  |_=>exact LP
theorem iF {l:Nat} {ls:List Nat} (h: ∀k∈ls,k≠l):ls.contains l=false:=by
 cases hc:ls.contains l with
 |false=>rfl
 |true=>exact absurd rfl (h l (by simpa using hc))
theorem iT {l:Nat} {fr:Bool} {e:Ty} {xs:List e.den} {c:AC} (h: ∀k∈c.refs,k≠l):Cz l fr e xs c=c:=by
 cases c<;>simp only [Cz]<;>first|rfl|skip
 case clo f Ef=>rw [Ak (by rw [iF (show ∀k∈Ef.map (·.1),k≠l from h)];simp)]
 all_goals rw [Ak (h _ (by simp [AC.refs]))]
theorem sU {l:Nat} {v:Ty} {m:ByteArray->Option v.den} {c:AC} (h: ∀k∈c.refs,k≠l):Hl l v m c=c:=by
 cases c<;>simp only [Hl]<;>first|rfl|skip
 case clo f Ef=>rw [Ak (by rw [iF (show ∀k∈Ef.map (·.1),k≠l from h)];simp)]
 all_goals rw [Ak (h _ (by simp [AC.refs]))]
theorem Move.freeze {l:Nat} {fr:Bool} {e:Ty} {xs:List e.den}
  (Ang: ∀off len v,Hv X w π H (.own l off len) v->Cells w (Da X.w0.heap.size X.Sc (Xb π l none) fr) (.slice e) [v] ((xs.drop off).take len))
  (hH: ∀m,m≠l->At H' m=(At H m).map (OB.map (Cz l fr e xs))):Move X w w π (Xb π l none) H H' (Cz l fr e xs):=by
 refine Move.RE (λc v _ h=>iT h) (λc v LP hr=>?_) hH
 cases c with
 |own k off len=>
  have:k=l:=(Ad.1 hr).symm
  subst this
  simp only [Cz,Ab]
  exact ⟨[v],Ang off len v LP,by simp [Cd,Ty.Ap]⟩
 |Hr k i=>have:k=l:=(Ad.1 hr).symm
          subst this;simp only [Cz,Ab];trivial
 |Ki k i=>have:k=l:=(Ad.1 hr).symm
          subst this;simp only [Cz,Ab];trivial
 |sub k i c=>have:k=l:=(Ad.1 hr).symm
             subst this;simp only [Cz,Ab];trivial
 |Kf k i c=>have:k=l:=(Ad.1 hr).symm
            subst this;simp only [Cz,Ab];trivial
 |Kq k=>have:k=l:=(Ad.1 hr).symm
        subst this;simp only [Cz,Ab];trivial
 |clo f Ef=>
  simp only [Cz]
  rw [Ab (by simpa [AC.refs] using hr)];trivial
 |_=>simp [AC.refs] at hr
theorem Bi.freeze {st:St} {a:Act} (h:Bi X π st a w) {l:Nat} {fr:Bool} {e:Ty} {xs:List e.den}
  (hl:(∃tr tid,At st.heap l=some (.arr fr tr e tid xs))\/(fr=false/\ ∃tid,At st.heap l=some (.Hf e tid xs))):
  Bi X (Xb π l none) (st.freeze l fr e xs) a w/\Move X w w π (Xb π l none) st.heap (st.freeze l fr e xs).heap (Cz l fr e xs):=by
 have m:Move X w w π (Xb π l none) st.heap (st.freeze l fr e xs).heap (Cz l fr e xs):=by
  refine Move.freeze (λoff len v hv=>?_) (λm hm=>St.Rv st l m fr e xs hm)
  rcases hl with ⟨tr,tid,hl⟩|⟨rfl,tid,hl⟩
  ·obtain ⟨h2,h3⟩:=Oi hv hl
   refine pv h.1 hl h2 h3 (λk hk=>?_) λk _ hk=>sx hk
   intro ⟨r,hr,MB⟩
   have hb:=(h.1.heap l).Ro hl
   simp only [Cj,Kg,hr] at hb
   by_cases hkg:k=r.g
   ·subst hkg
    rcases hk with ⟨m,r',hm,hg⟩|hS|⟨hf,hS⟩
    ·by_cases iV:m=l
     ·subst iV;rw [Gu] at hm;cases hm
     ·rw [Gr π none iV] at hm
      exact iV (h.1.apart hm hr hg MB)
    ·have h1:=h.1.sc _ hS
     rcases (h.1.own ⟨l,r,hr,MB⟩).2 with h2|h2
     ·omega
     ·exact h1.2 h2
    ·have:=hb.1.2.2 hf;omega
   ·exact absurd (hb.1.2.1 k MB) hkg
  ·obtain ⟨h2,h3⟩:=c7 hv hl
   exact mG h.1 hl h2 h3 λk hk hr=>h.1.let (λhf=>by cases hf) hk hr
 refine ⟨⟨h.1.drop l m (St.Mk st l fr e xs) λk e'=>St.Rv st l k fr e xs e',?_⟩,m⟩
 have hh:sf X w (Xb π l none) {tmps:=st.tmps.map (·.map (Cz l fr e xs)),heap:=(st.freeze l fr e xs).heap} a:=m.OG rfl h.2
 exact hh
theorem St.Qy (st:St) (l k:Nat) (v:Ty) (m:ByteArray->Option v.den) (h:k≠l):At (st.Jb l v m).heap k=(At st.heap k).map (OB.map (Hl l v m)):=by
 simp only [St.Jb,St.Lb]
 rw [Ns _ _ _ h,Oq]
theorem St.Td (st:St) (l:Nat) (v:Ty) (m:ByteArray->Option v.den):At (st.Jb l v m).heap l=none:=by
 simp only [St.Jb,St.Lb]
 exact Mp _ _
theorem yB {r:Option Real} {v:Ty} {m:ByteArray->Option v.den} {g:Nat} {S:Nat->Prop} (h:YN w r v m) (hg:r.map (·.g)=some g) (hS: ¬S g):Cells w S (.smap v) [.map (some g)] m:=by
 obtain ⟨r',h0,h1,h2,h3⟩:=h
 rw [h0] at hg
 simp only [Am,Aa] at hg
 subst hg
 simp only [Cells] at h3⊢
 rcases h3 with ⟨h3,_⟩|⟨g,h3,hg,_,es,clock,h4,h5,h6,h7⟩
 ·simp at h3
 ·simp only [Hb,Value.map.injEq,Aa,Oh] at h3
  subst h3
  refine .inr ⟨r'.g,rfl,hg,hS,es,clock,h4,h5,h6,λs y hy=>?_⟩
  obtain ⟨u,h8,h9⟩:=h7 s y hy
  exact ⟨u,h8,Cells.flat v [u] y h2.1 h9⟩
theorem Bi.Jb {st:St} {a:Act} (h:Bi X π st a w) {l:Nat} {v:Ty} {m:ByteArray->Option v.den} (hl:At st.heap l=some (.Vw v m)):
  Bi X (Xb π l none) (st.Jb l v m) a w/\Move X w w π (Xb π l none) st.heap (st.Jb l v m).heap (Hl l v m):=by
 have mv:Move X w w π (Xb π l none) st.heap (st.Jb l v m).heap (Hl l v m):=by
  refine Move.RE (λc u _ h=>sU h) (λc u LP hr=>?_) (λk hk=>St.Qy st l k v m hk)
  cases c with
  |Kq k=>
   have:k=l:=(Ad.1 hr).symm
   subst this
   simp only [Hl,Ab]
   obtain ⟨r,vt,m',h1,h2,rfl⟩:=LP
   exact ⟨[_],yB ((h.1.heap k).Ro hl) (by rw [h2];rfl) λhS=>h.1.let (λhf=>by cases hf) hS ⟨r,h2,h.1.Cv h2⟩,by simp [Cd,Ty.Ap]⟩
  |own k off len=>have:k=l:=(Ad.1 hr).symm
                  subst this;simp only [Hl,Ab];trivial
  |Hr k i=>have:k=l:=(Ad.1 hr).symm
           subst this;simp only [Hl,Ab];trivial
  |Ki k i=>have:k=l:=(Ad.1 hr).symm
           subst this;simp only [Hl,Ab];trivial
  |sub k i c=>have:k=l:=(Ad.1 hr).symm
              subst this;simp only [Hl,Ab];trivial
  |Kf k i c=>have:k=l:=(Ad.1 hr).symm
             subst this;simp only [Hl,Ab];trivial
  |clo f Ef=>
   simp only [Hl]
   rw [Ab (by simpa [AC.refs] using hr)];trivial
  |_=>simp [AC.refs] at hr
 refine ⟨⟨h.1.drop l mv (St.Td st l v m) λk e'=>St.Qy st l k v m e',?_⟩,mv⟩
 have hh:sf X w (Xb π l none) {tmps:=st.tmps.map (·.map (Hl l v m)),heap:=(st.Jb l v m).heap} a:=mv.OG rfl h.2
 exact hh
def OB.fits:OB->OB->Prop
 | .arr _ _ e _ xs, .arr _ _ e' _ xs'=>e=e'/\xs.length<=xs'.length
 | .var _ _, .var _ _=>True
 | .Vw _ _, .Vw _ _=>True
 |_,_=>False
theorem Move.Ahr {tc:Nat->Prop} {π':Pi} (hs:w.heap.size<=w'.heap.size)
  (hk: ∀k,k<w.heap.size->(∀l r,tc l->π l=some r-> ¬r.Cv k)->w'.heap[k]?=w.heap[k]?)
  (hO: ∀b,b<w.heap.size->Vy π' b->Vy π b)
  (hH: ∀m,¬tc m->At H' m=At H m/\π' m=π m) (hH': ∀m,tc m->bB (π m) (π' m)/\ ∀b0,At H m=some b0-> ∃b,At H' m=some b/\b0.fits b)
  (hx: ∀m r,¬tc m->π m=some r->(∃b,At H m=some b/\b.gD≠none)->r.g<w.heap.size->w'.heap[r.g]?=w.heap[r.g]?):Move X w w' π π' H H' (λc=>c):=by
 have hc: ∀fr τ cs x,Cells w (Da X.w0.heap.size X.Sc π fr) τ cs x->Cells w' (Da X.w0.heap.size X.Sc π' fr) τ cs x:=by
  intro fr τ cs x h
  exact Cells.Fk hs (λk tm hn=>hk k tm λl r _ h0 h1=>hn (.inl ⟨l,r,h0,h1⟩)) (λk Jj hA=>hA.imp (hO k Jj) id) τ cs x h
 have same: ∀m r,π m=some r-> ∃r',π' m=some r'/\r.g=r'.g/\r.o=r'.o/\r.cap=r'.cap:=by
  intro m r hm
  by_cases ht:tc m
  ·have:=(hH' m ht).1
   rw [hm] at this
   cases hp:π' m with
   |none=>rw [hp] at this;exact this.elim
   |some r'=>rw [hp] at this;exact ⟨r',rfl,this.1,this.2.1,this.2.2.1⟩
  ·exact ⟨r,by rw [(hH m ht).2];exact hm,rfl,rfl,rfl⟩
 have fit: ∀m b,At H m=some b-> ∃b',At H' m=some b'/\(b'=b\/b.fits b'):=by
  intro m b hm
  by_cases ht:tc m
  ·obtain ⟨b',h1,h2⟩:=(hH' m ht).2 b hm;exact ⟨b',h1, .inr h2⟩
  ·exact ⟨b,by rw [(hH m ht).1];exact hm, .inl rfl⟩
 refine ⟨λc v h=>?_,hc⟩
 cases c with
 |data fr τ x=>obtain ⟨cs,h1,h2⟩:=h;exact ⟨cs,hc _ _ _ _ h1,h2⟩
 |own k off len=>
  obtain ⟨b,sz,n,h1,h0,h2,h3⟩:=h
  have vI:Ih (π' k) sz off len v:=by
   cases hp:π k with
   |none=>
    rw [hp] at h3
    have:π' k=none:=by
     by_cases ht:tc k
     ·have:=(hH' k ht).1
      rw [hp] at this
      cases nA:π' k with
      |none=>rfl
      |some r'=>rw [nA] at this;exact this.elim
     ·rw [(hH k ht).2];exact hp
    rw [this];exact h3
   |some r=>
    rw [hp] at h3
    obtain ⟨r',h4,h5,h6,h7⟩:=same k r hp
    rw [h4]
    unfold Ih at h3⊢
    simp only at h3⊢
    rw [<-h5,<-h6,<-h7]
    exact h3
  obtain ⟨b',h4,h5⟩:=fit k b h1
  rcases h5 with rfl|h5
  ·exact ⟨_,sz,n,h4,h0,h2,vI⟩
  ·cases b<;>cases b'<;>first|exact h5.elim|(simp [OB.row] at h0;done)|skip
   ·obtain ⟨rfl,hlen⟩:=h5
    simp only [OB.row,Aa,Ae] at h0
    obtain ⟨rfl,rfl⟩:=h0
    exact ⟨_,_,_,h4,rfl,by omega,vI⟩
 |Hr k i=>
  obtain ⟨r,tid,vs,h1,h2,h3⟩:=h
  obtain ⟨r',h4,h5,_⟩:=same k r h2
  obtain ⟨b',h6,h7⟩:=fit k _ h1
  rcases h7 with rfl|h7
  ·exact ⟨r',tid,vs,h6,h4,by rw [<-h5];exact h3⟩
  ·cases b'<;>first|exact h7.elim|exact ⟨r',_,_,h6,h4,by rw [<-h5];exact h3⟩
 |Ki k i=>
  obtain ⟨r,b,sz,n,h1,h0,h2,h3,h4⟩:=h
  obtain ⟨r',h5,h6,h7,_⟩:=same k r h3
  obtain ⟨b',h8,h9⟩:=fit k _ h1
  rcases h9 with rfl|h9
  ·exact ⟨r',_,sz,n,h8,h0,h2,h5,by rw [<-h6,<-h7];exact h4⟩
  ·cases b<;>cases b'<;>first|exact h9.elim|(simp [OB.row] at h0;done)|skip
   obtain ⟨rfl,hlen⟩:=h9
   simp only [OB.row,Aa,Ae] at h0
   obtain ⟨rfl,rfl⟩:=h0
   exact ⟨r',_,_,_,h8,rfl,by omega,h5,by rw [<-h6,<-h7];exact h4⟩
 |sub k i c=>
  obtain ⟨r,b,sz,n,h1,h0,h2,h3,h4,h5⟩:=h
  by_cases ht:tc k
  ·obtain ⟨b',h6,h7⟩:=(hH' k ht).2 _ h1
   cases b<;>first|(cases h0;done)|skip
   all_goals (cases b'<;>exact h7.elim)
  ·exact ⟨r,b,sz,n,by rw [(hH k ht).1];exact h1,h0,by rw [(hH k ht).2];exact h2,h3,h4,by rw [World.cell?_of_block (hx k r ht h2 ⟨b,h1,by rw [h0];simp⟩ (cD h5))];exact h5⟩
 |Kf k i c=>
  obtain ⟨r,b,n,sz,g,o,len,cap,h1,h0,h2,h3,h4,h5,h6⟩:=h
  by_cases ht:tc k
  ·obtain ⟨b',h6,h7⟩:=(hH' k ht).2 _ h1
   cases b<;>first|(cases h0;done)|skip
   all_goals (cases b'<;>exact h7.elim)
  ·exact ⟨r,b,n,sz,g,o,len,cap,by rw [(hH k ht).1];exact h1,h0,by rw [(hH k ht).2];exact h2,h3,h4,by rw [World.cell?_of_block (hx k r ht h2 ⟨b,h1,by cases b<;>first|(cases h0;done)|simp [OB.gD]⟩ (cD h5))];exact h5,h6⟩
 |clo f Ef=>
  obtain ⟨us,h1,h2,h3⟩:=h
  refine ⟨us,h1,h2,λj p hp=>?_⟩
  obtain ⟨r,tid,vs,h4,h5,h6⟩:=h3 j p hp
  obtain ⟨r',h7,h8,_⟩:=same _ r h5
  obtain ⟨b',h9,oC⟩:=fit _ _ h4
  rcases oC with rfl|oC
  ·exact ⟨r',tid,vs,h9,h7,by rw [<-h8];exact h6⟩
  ·cases b'<;>first|exact oC.elim|exact ⟨r',_,_,h9,h7,by rw [<-h8];exact h6⟩
 |Kq k=>
  obtain ⟨r,vt,m,h1,h2,h3⟩:=h
  obtain ⟨r',h4,h5,_⟩:=same k r h2
  obtain ⟨b',h6,h7⟩:=fit k _ h1
  rcases h7 with rfl|h7
  ·exact ⟨r',vt,m,h6,h4,by rw [<-h5];exact h3⟩
  ·cases b'<;>first|exact h7.elim|exact ⟨r',_,_,h6,h4,by rw [<-h5];exact h3⟩
 |_=>exact h
def Real.plus (r:Real) (N:List Nat):Real:= {r with cl:= λc=>r.cl c\/c∈N}
theorem Bi.Auc {st:St} {a:Act} (h:Bi X π st a w) {l:Nat} {b0 b:OB} (hl:At st.heap l=some b0) (hf:b0.fits b) {r:Real} (hr:π l=some r) {N:List Nat}
  (hN: ∀c∈N,(X.w0.heap.size<=c\/X.gv c)/\c<w.heap.size/\ ∀m r0,m≠l->π m=some r0-> ¬r0.cl c) (hg:w.grownBy w' (some r.g))
  (hb:Move X w w' π (Xb π l (some (r.plus N))) st.heap (st.Ke l b).heap (λc=>c)->Cj X w' (Xb π l (some (r.plus N))) (st.Ke l b).heap (some (r.plus N)) b):Bi X (Xb π l (some (r.plus N))) (st.Ke l b) a w':=by
 have hk: ∀k,k<w.heap.size-> ¬r.Cv k->w'.heap[k]?=w.heap[k]?:= λk hk hn=>hg.block k hk (by
  intro e
  simp only [Aa] at e
  exact hn (e▸h.1.Cv hr))
 have vM: ∀k q,Xb π l (some (r.plus N)) k=some q-> ∃q0,π k=some q0/\(q=q0\/(k=l/\q0=r/\q=r.plus N)):= λk q hq=>by
  by_cases e:k=l
  ·subst e;rw [Gu] at hq;exact ⟨r,hr, .inr ⟨rfl,rfl,(Bd hq).symm⟩⟩
  ·rw [Gr π _ e] at hq;exact ⟨q,hq, .inl rfl⟩
 have cl': ∀k q q0 c,(q=q0\/(k=l/\q0=r/\q=r.plus N))->q.cl c->q0.cl c\/(k=l/\c∈N):= λk q q0 c h1 h2=>by
  rcases h1 with rfl|⟨rfl,rfl,rfl⟩
  ·exact .inl h2
  ·rcases h2 with h2|h2
   ·exact .inl h2
   ·exact .inr ⟨rfl,h2⟩
 have ft: ∀k q q0 c,(q=q0\/(k=l/\q0=r/\q=r.plus N))->(q.Cv c↔q0.Cv c):= λk q q0 c h1=>by
  rcases h1 with rfl|⟨rfl,rfl,rfl⟩<;>exact Iff.rfl
 have m:Move X w w' π (Xb π l (some (r.plus N))) st.heap (st.Ke l b).heap (λc=>c):=Move.Ahr (tc:= λk=>k=l) hg.size (λk Jj hn=>hk k Jj (hn l r rfl hr)) (λc _ ⟨k,q,h1,h2⟩=>by
   obtain ⟨q0,h3,h4⟩:=vM k q h1
   exact ⟨k,q0,h3,(ft k q q0 c h4).1 h2⟩)
  (λm hm=>⟨Ec _ _ _ _ hm,Gr π _ hm⟩) (λm hm=>by subst hm;exact ⟨by rw [hr,Gu];exact ⟨rfl,rfl,rfl,λ_=>Iff.rfl⟩,λb1 h1=>by rw [hl] at h1;cases h1;exact ⟨b,Ez _ _ _ _ hl,hf⟩⟩)
  (λm r' hm h1 _ Jj=>hk _ Jj λh3=>hm (h.1.apart h1 hr (h.1.Cv h1) h3))
 refine ⟨⟨?_,h.1.sc,λk q c h1 h2=>?_,λk q c h1 h2=>?_,λk k' q q' c h1 h2 h3 h4=>?_,λk hp Iz=>?_,λk=>?_⟩,?_⟩
 ·exact h.1.below.grown hg h.1.below.size λk hk=>by cases hk;exact (h.1.lt hr).2
 ·obtain ⟨q0,h3,h4⟩:=vM k q h1
  have:=h.1.sub k q0 c h3 ((ft k q q0 c h4).1 h2)
  rcases h4 with rfl|⟨rfl,rfl,rfl⟩
  ·exact this
  ·exact .inl this
 ·obtain ⟨q0,h3,h4⟩:=vM k q h1
  rcases cl' k q q0 c h4 h2 with h5|⟨_,h5⟩
  ·exact ⟨(h.1.place k q0 c h3 h5).1,Eg (h.1.place k q0 c h3 h5).2 hg.size⟩
  ·exact ⟨(hN c h5).1,Eg (hN c h5).2.1 hg.size⟩
 ·obtain ⟨q0,g1,g2⟩:=vM k q h1
  obtain ⟨q0',g3,g4⟩:=vM k' q' h2
  rcases cl' k q q0 c g2 h3 with h5|⟨h5,h6⟩<;>rcases cl' k' q' q0' c g4 h4 with h7|⟨h7,h8⟩
  ·exact h.1.inj k k' q0 q0' c g1 g3 h5 h7
  ·refine Bk λhn=>(hN c h8).2.2 k q0 (λe=>hn (e.trans h7.symm)) g1 h5
  ·refine Bk λhn=>(hN c h6).2.2 k' q0' (λe=>hn (h5.trans e.symm)) g3 h7
  ·rw [h5,h7]
 ·by_cases e:k=l
  ·subst e
   have:=h.1.ic k hp (by rw [hl];simp)
   rw [hr] at this
   rw [Gu]
   cases hx:X.ic k with
   |none=>rw [hx] at this;exact this.elim
   |some q=>rw [hx] at this;exact this
  ·rw [Gr π _ e]
   exact h.1.ic k hp λh0=>Iz (by rw [show At (st.Ke l b).heap k=At st.heap k from Ec _ _ _ _ e];exact h0)
 ·by_cases e:k=l
  ·subst e
   exact Gp.Lu (by rw [Gu];exact hb m) (Ez _ _ _ _ hl)
  ·have hn:At (st.Ke l b).heap k=At st.heap k:=Ec _ _ _ _ e
   have ho:=h.1.heap k
   cases jY:At st.heap k with
   |none=>rw [jY] at hn;exact Gp.Um (by rw [Gr π _ e];exact ho.emp jY) hn
   |some c=>
    rw [jY] at hn
    refine Gp.Lu ?_ hn
    rw [Gr π _ e]
    have:=(ho.Ro jY).move m hg.size (λr0 c h0 h1=>h.1.sub _ r0 c h0 h1) λr0 c h0 h1 Jj=>hk _ Jj λh3=>e (h.1.inj _ _ r0 r c h0 hr h1 (h.1.sub _ _ _ hr h3))
    cases c with
    |var tid vs=>simpa [OB.map] using this
    |_=>exact this
 ·exact ⟨h.2.size,h.2.defers,λt=>by have:=m.av (h.2.tmps t);rwa [AC.map_id] at this⟩
theorem Bi.set {st:St} {a:Act} (h:Bi X π st a w) {l:Nat} {b0 b:OB} (hl:At st.heap l=some b0) (hf:b0.fits b)
  (hg:w.grownBy w' ((π l).map (·.g)))
  (hb:Move X w w' π π st.heap (st.Ke l b).heap (λc=>c)->Cj X w' π (st.Ke l b).heap (π l) b):Bi X π (st.Ke l b) a w':=by
 have hk: ∀k,k<w.heap.size->(∀r,π l=some r-> ¬r.Cv k)->w'.heap[k]?=w.heap[k]?:= λk hk hn=>hg.block k hk (by
  intro e
  cases hp:π l with
  |none=>rw [hp] at e;cases e
  |some r=>rw [hp] at e;simp only [Am,Aa] at e;exact hn r hp (e▸h.1.Cv hp))
 have m:Move X w w' π π st.heap (st.Ke l b).heap (λc=>c):=Move.Ahr (tc:= λk=>k=l) hg.size (λk Jj hn=>hk k Jj λr hr=>hn l r rfl hr) (λ_ _ h=>h)
  (λm hm=>⟨Ec _ _ _ _ hm,rfl⟩) (λm hm=>by subst hm;exact ⟨bB.rfl' _,λb1 h1=>by rw [hl] at h1;cases h1;exact ⟨b,Ez _ _ _ _ hl,hf⟩⟩)
  (λm r hm h1 _ Jj=>hk _ Jj λr1 h2 h3=>hm (h.1.apart h1 h2 (h.1.Cv h1) h3))
 refine ⟨⟨?_,h.1.sc,h.1.sub,λk r c h1 h2=>⟨(h.1.place k r c h1 h2).1,Eg (h.1.place k r c h1 h2).2 hg.size⟩,h.1.inj,λk hp Iz=>h.1.ic k hp λh0=>Iz ?_,λk=>?_⟩,?_⟩
 ·refine h.1.below.grown hg h.1.below.size λk hk=>?_
  cases hp:π l with
  |none=>rw [hp] at hk;cases hk
  |some r=>rw [hp] at hk;simp only [Am,Aa] at hk;rw [<-hk];exact (h.1.lt hp).2
 ·have:k≠l:= λe=>by subst e;rw [hl] at h0;cases h0
  rw [show At (st.Ke l b).heap k=At st.heap k from Ec _ _ _ _ this];exact h0
 ·by_cases e:k=l
  ·subst e
   exact Gp.Lu (hb m) (Ez _ _ _ _ hl)
  ·have hn:At (st.Ke l b).heap k=At st.heap k:=Ec _ _ _ _ e
   have ho:=h.1.heap k
   cases jY:At st.heap k with
   |none=>rw [jY] at hn;exact Gp.Um (ho.emp jY) hn
   |some c=>
    rw [jY] at hn
    refine Gp.Lu ?_ hn
    have:=(ho.Ro jY).move m hg.size (λr0 c h0 h1=>h.1.sub _ r0 c h0 h1) λr0 c h0 h1 Jj=>hk _ Jj λr1 h2 h3=>e (h.1.inj _ _ r0 r1 c h0 h2 h1 (h.1.sub _ _ _ h2 h3))
    cases c with
    |var tid vs=>simpa [OB.map] using this
    |_=>exact this
 ·exact ⟨h.2.size,h.2.defers,λt=>by have:=m.av (h.2.tmps t);rwa [AC.map_id] at this⟩
end
end Go.Proofs.YtkkdpknjohcekaaGreat
