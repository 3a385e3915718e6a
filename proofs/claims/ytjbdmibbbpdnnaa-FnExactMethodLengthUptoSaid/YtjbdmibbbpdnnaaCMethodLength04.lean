/-
  Part 5 of the proof that the statement FnExactMethodLength holds.
-/
import Derived.Test.YtjbdmibbbpdnnaaCMethodLength03
namespace Go.Proofs.Ytjbdmibbbpdnnaa
open Go.RowKit
def Ps (π:Pi) (l:Nat) (r:Option Real):Pi:= λk=>if k=l then r else π k
theorem Di (π:Pi) (l:Nat) (r:Option Real):Ps π l r l=r:=by simp [Ps]
theorem Dh (π:Pi) {l m:Nat} (r:Option Real) (h:m≠l):Ps π l r m=π m:=by simp [Ps,h]
section
variable {X:Ctx} {w w':World} {π:Pi} {H H':List (Nat×OB)}
def Au (X:Ctx) (w:World) (π:Pi) (H:List (Nat×OB)) (r:Option Real):OB->Prop
 | .arr fr tr e tid xs=>Fv X w π r fr tr e tid xs
 | .Dj e tid xs=>Ix w r e tid xs
 | .var tid vs=>SI X w π H r tid vs
 | .Ak e _ rows out kp=>bQ X w π r e rows out kp
 | .On v m=>IL w r v m
theorem Dk.Mh {l:Nat} {b:OB} (h:Dk X w π H l) (hb:Ae H l=some b):Au X w π H (π l) b:=by
 unfold Dk at h
 rw [hb] at h
 cases b<;>exact h
theorem Dk.It {l:Nat} {b:OB} (h:Au X w π H (π l) b) (hb:Ae H l=some b):Dk X w π H l:=by
 unfold Dk
 rw [hb]
 cases b<;>exact h
theorem Dk.Pf {l:Nat} (h:π l=none) (hb:Ae H l=none):Dk X w π H l:=by
 unfold Dk;rw [hb];exact h
theorem Dk.emp {l:Nat} (h:Dk X w π H l) (hb:Ae H l=none):π l=none:=by
 unfold Dk at h;rw [hb] at h;exact h
theorem Au.move {f:AC->AC} {π':Pi} (m:Move X w w' π π' H H' f) {r:Option Real} {b:OB} (h:Au X w π H r b) (hs:w.heap.size<=w'.heap.size)
  (Qm: ∀r' c,r=some r'->r'.Ax c->r'.cl c) (hk: ∀r' c,r=some r'->r'.cl c->c<w.heap.size->w'.heap[c]?=w.heap[c]?):
  Au X w' π' H' r (b.map f):=by
 cases b with
 |arr fr tr e tid xs=>
  simp only [Au,Fv,OB.map] at h⊢
  cases hr:r with
  |none=>rw [hr] at h;exact h
  |some r=>
   rw [hr] at h
   obtain ⟨h1,cur,ti,h2,h3,h4,h5,h6,h7⟩:=h
   refine ⟨h1,cur,ti,(hk r _ hr (Qm r _ hr h1.1) (De h2)).trans h2,h3,h4,h5,λi x hx=>?_,λht=>(h7 ht).Cr hs (λc _ Hq hc=>hk r c hr hc Hq) λ_ hb=>hb⟩
   obtain ⟨es,he,hj,hc⟩:=h6 i x hx
   exact ⟨es,he,hj,m.cells _ _ _ _ hc⟩
 |Dj e tid xs=>
  simp only [Au,Ix,OB.map] at h⊢
  cases hr:r with
  |none=>rw [hr] at h;exact h
  |some r=>
   rw [hr] at h
   obtain ⟨h1,cur,ti,h2,h3,h4,h5,h7⟩:=h
   exact ⟨h1,cur,ti,(hk r _ hr (Qm r _ hr h1) (De h2)).trans h2,h3,h4,h5,h7.Cr hs (λc _ Hq hc=>hk r c hr (Qm r c hr hc) Hq) λ_ hb=>hb⟩
 |var tid vs=>
  obtain ⟨r',h0,h1,cur,h2,h3⟩:=h
  exact ⟨r',h0,h1,cur,(hk r' _ h0 (Qm r' _ h0 h1) (De h2)).trans h2,m.OO h3⟩
 |Ak e te rows out kp=>exact bQ.Cr h (λq b hq hf Hq=>hk q b hq (Qm q b hq hf) Hq) (λes x=>m.cells false e es x)
 |On v g=>
  obtain ⟨r',h0,h1,h2,h3⟩:=h
  refine ⟨r',h0,h1,h2,?_⟩
  simp only [Cells] at h3⊢
  rcases h3 with ⟨h3,_⟩|⟨g,h3,hg,_,es,clock,h4,h5,h6,h7⟩
  ·simp at h3
  ·simp only [List.cons.injEq,Value.map.injEq,Option.some.injEq,and_true] at h3
   subst h3
   refine .inr ⟨r'.g,rfl,by omega,λh=>h,es,clock,(hk r' _ h0 (Qm r' _ h0 h1) hg).trans h4,h5,h6,λs y hy=>?_⟩
   obtain ⟨u,h8,h9⟩:=h7 s y hy
   exact ⟨u,h8,Cells.flat v [u] y h2.1 h9⟩
theorem Move.forget {l:Nat} {r':Option Real} (hs:w.heap.size<=w'.heap.size)
  (hk: ∀k,k<w.heap.size->(∀r,π l=some r-> ¬r.Ax k)->w'.heap[k]?=w.heap[k]?)
  (hr: ∀r b,r'=some r->r.Ax b->(∃r0,π l=some r0/\r0.Ax b)\/w.heap.size<=b)
  (hH: ∀m,m≠l->Ae H' m=(Ae H m).map (OB.map (Ba l)))
  (hx: ∀m r,m≠l->π m=some r->(∃b,Ae H m=some b/\b.bh≠none)->r.g<w.heap.size->w'.heap[r.g]?=w.heap[r.g]?):Move X w w' π (Ps π l r') H H' (Ba l):=by
 have hc: ∀fr τ cs x,Cells w (Be X.w0.heap.size X.Sc π fr) τ cs x->Cells w' (Be X.w0.heap.size X.Sc (Ps π l r') fr) τ cs x:=by
  intro fr τ cs x h
  refine Cells.Cr hs (λk mW hn=>hk k mW λr h0 h1=>hn (.inl ⟨l,r,h0,h1⟩)) (λk mW hA=>?_) τ cs x h
  rcases hA with ⟨m,r,hm,hg⟩|h2
  ·by_cases eg:m=l
   ·subst eg
    rw [Di] at hm
    rcases hr r k hm hg with ⟨r0,h0,h1⟩|h1
    ·exact .inl ⟨m,r0,h0,h1⟩
    ·omega
   ·rw [Dh π r' eg] at hm
    exact .inl ⟨m,r,hm,hg⟩
  ·exact .inr h2
 refine ⟨λc v h=>?_,hc⟩
 cases c with
 |data fr τ x=>obtain ⟨cs,h1,h2⟩:=h;exact ⟨cs,hc _ _ _ _ h1,h2⟩
 |own k off len=>
  simp only [Ba]
  split
  ·trivial
  ·rename_i Ja
   obtain ⟨b,sz,n,h1,h0,h2,h3⟩:=h
   exact ⟨b.map (Ba l),sz,n,by rw [hH k Ja,h1];rfl,by cases b<;>exact h0,h2,by rw [Dh π r' Ja];exact h3⟩
 |Dz k i=>
  simp only [Ba]
  split
  ·trivial
  ·rename_i Ja
   obtain ⟨r,tid,vs,h1,h2,h3⟩:=h
   exact ⟨r,tid,vs.map (Ba l),by rw [hH k Ja,h1];rfl,by rw [Dh π r' Ja];exact h2,h3⟩
 |Gc k i=>
  simp only [Ba]
  split
  ·trivial
  ·rename_i Ja
   obtain ⟨r,b,sz,n,h1,h0,h2,h3,h4⟩:=h
   exact ⟨r,b.map (Ba l),sz,n,by rw [hH k Ja,h1];rfl,by cases b<;>exact h0,h2,by rw [Dh π r' Ja];exact h3,h4⟩
 |sub k i c=>
  simp only [Ba]
  split
  ·trivial
  ·rename_i Ja
   obtain ⟨r,b,sz,n,h1,h0,h2,h3,h4,h5⟩:=h
   exact ⟨r,b.map (Ba l),sz,n,by rw [hH k Ja,h1];rfl,by cases b<;>exact h0,by rw [Dh π r' Ja];exact h2,h3,h4,by rw [World.cell?_of_block (hx k r Ja h2 ⟨b,h1,by rw [h0];simp⟩ (Wb h5))];exact h5⟩
 |Ga k i c=>
  simp only [Ba]
  split
  ·trivial
  ·rename_i Ja
   obtain ⟨r,b,n,sz,g,o,len,cap,h1,h0,h2,h3,h4,h5,h6⟩:=h
   exact ⟨r,b.map (Ba l),n,sz,g,o,len,cap,by rw [hH k Ja,h1];rfl,by cases b<;>exact h0,by rw [Dh π r' Ja];exact h2,h3,h4,by rw [World.cell?_of_block (hx k r Ja h2 ⟨b,h1,by cases b<;>first|(cases h0;done)|simp [OB.bh]⟩ (Wb h5))];exact h5,h6⟩
 |clo f Bx=>
  simp only [Ba]
  split
  ·trivial
  ·rename_i Ja
   obtain ⟨us,h1,h2,h3⟩:=h
   refine ⟨us,h1,h2,λj p hp=>?_⟩
   obtain ⟨r,tid,vs,h4,h5,h6⟩:=h3 j p hp
   have bN:p.1≠l:= λe=>Ja (by simp only [List.contains_iff_mem,List.mem_map];exact ⟨p,List.mem_of_getElem? hp,e⟩)
   exact ⟨r,tid,vs.map (Ba l),by rw [hH _ bN,h4];rfl,by rw [Dh π r' bN];exact h5,h6⟩
 |Gi k=>
  simp only [Ba]
  split
  ·trivial
  ·rename_i Ja
   obtain ⟨r,vt,m,h1,h2,h3⟩:=h
   exact ⟨r,vt,m,by rw [hH k Ja,h1];rfl,by rw [Dh π r' Ja];exact h2,h3⟩
 |_=>exact h
theorem St.Sj (st:St) (l m:Nat) (b:OB) (h:m≠l):Ae (st.new l b).heap m=(Ae st.heap m).map (OB.map (Ba l)):=by
 simp only [St.new,St.forget,St.Gp]
 rw [Jy _ _ _ _ h,Io _ _ _ h,Jr]
theorem St.Dt (st:St) (l:Nat) (b:OB):Ae (st.new l b).heap l=some b:=by
 simp only [St.new,St.forget,St.Gp]
 exact Kr _ _ _ (Hp _ _)
theorem St.cv (st:St) (l m:Nat) (h:m≠l):Ae (st.forget l).heap m=(Ae st.heap m).map (OB.map (Ba l)):=by
 simp only [St.forget,St.Gp]
 rw [Io _ _ _ h,Jr]
theorem St.jq (st:St) (l:Nat):Ae (st.forget l).heap l=none:=by
 simp only [St.forget,St.Gp]
 exact Hp _ _
theorem Aj.cZ {st:St} {a:Act} (h:Aj X π st a w) (l:Nat) (hl:l<Ai) (r':Option Real) (b:OB)
  (hg:w.grownBy w' ((π l).map (·.g)))
  (hf: ∀r b,r'=some r->r.Ax b->r.cl b/\((∃r0,π l=some r0/\r0.Ax b)\/w.heap.size<=b))
  (hr: ∀r b,r'=some r->r.cl b->(X.w0.heap.size<=b\/X.gv b)/\b<w'.heap.size/\ ∀m r0,m≠l->π m=some r0-> ¬r0.cl b)
  (hb:Move X w w' π (Ps π l r') st.heap (st.new l b).heap (Ba l)->Au X w' (Ps π l r') (st.new l b).heap r' b):Aj X (Ps π l r') (st.new l b) a w':=by
 have hk: ∀k,k<w.heap.size->(∀r,π l=some r-> ¬r.Ax k)->w'.heap[k]?=w.heap[k]?:= λk hk hn=>hg.block k hk (by
  intro e
  cases hp:π l with
  |none=>rw [hp] at e;cases e
  |some r=>rw [hp] at e;simp only [Option.map_some,Option.some.injEq] at e;exact hn r hp (e▸h.1.Ax hp))
 have m:Move X w w' π (Ps π l r') st.heap (st.new l b).heap (Ba l):=Move.forget hg.size hk (λr c h1 h2=>(hf r c h1 h2).2) (λm hm=>St.Sj st l m b hm)
  (λm r hm h1 _ Hq=>hk _ Hq λr1 h2 h3=>hm (h.1.apart h1 h2 (h.1.Ax h1) h3))
 refine ⟨⟨?_,h.1.sc,?_,?_,?_,?_,λk=>?_⟩,?_⟩
 ·refine h.1.below.grown hg h.1.below.size λk hk=>?_
  cases hp:π l with
  |none=>rw [hp] at hk;cases hk
  |some r=>rw [hp] at hk;simp only [Option.map_some,Option.some.injEq] at hk;rw [<-hk];exact (h.1.lt hp).2
 ·intro k r c h1 h2
  by_cases e1:k=l
  ·subst e1;rw [Di] at h1;exact (hf r c h1 h2).1
  ·rw [Dh π r' e1] at h1;exact h.1.sub k r c h1 h2
 ·intro k r c h1 h2
  by_cases e1:k=l
  ·subst e1;rw [Di] at h1;have:=hr r c h1 h2;exact ⟨this.1,this.2.1⟩
  ·rw [Dh π r' e1] at h1;have:=h.1.place k r c h1 h2;exact ⟨this.1,Nat.lt_of_lt_of_le this.2 hg.size⟩
 ·intro l1 l2 r1 r2 c h1 h2 h3 h4
  by_cases e1:l1=l<;>by_cases e2:l2=l
  ·rw [e1,e2]
  ·subst e1
   rw [Di] at h1;rw [Dh π r' e2] at h2
   exact absurd h4 ((hr r1 c h1 h3).2.2 l2 r2 e2 h2)
  ·subst e2
   rw [Di] at h2;rw [Dh π r' e1] at h1
   exact absurd h3 ((hr r2 c h2 h4).2.2 l1 r1 e1 h1)
  ·rw [Dh π r' e1] at h1;rw [Dh π r' e2] at h2
   exact h.1.inj _ _ r1 r2 c h1 h2 h3 h4
 ·intro k ZF Ex
  have e:k≠l:= λe=>by subst e;omega
  rw [St.Sj st l k b e] at Ex
  rw [Dh π r' e]
  exact h.1.cR k ZF λh0=>Ex (by rw [h0];rfl)
 ·by_cases e:k=l
  ·subst e
   exact Dk.It (by rw [Di];exact hb m) (St.Dt st k b)
  ·have hn:=St.Sj st l k b e
   have ho:=h.1.heap k
   cases fM:Ae st.heap k with
   |none=>rw [fM] at hn;exact Dk.Pf (by rw [Dh π r' e];exact ho.emp fM) hn
   |some c=>
    rw [fM] at hn
    refine Dk.It ?_ hn
    rw [Dh π r' e]
    exact (ho.Mh fM).move m hg.size (λr0 c h0 h1=>h.1.sub _ r0 c h0 h1) λr0 c h0 h1 Hq=>hk _ Hq λr1 h2 h3=>e (h.1.inj _ _ r0 r1 c h0 h2 h1 (h.1.sub _ _ _ h2 h3))
 ·have hh:mc X w' (Ps π l r') {tmps:=st.tmps.map (·.map (Ba l)),heap:=(st.new l b).heap} a:=m.zA rfl h.2
  exact hh
def Real.one (g o cap:Nat):Real:=⟨g,o,cap,λb=>b=g,λb=>b=g⟩
theorem Aj.replace {st:St} {a:Act} (h:Aj X π st a w) (l:Nat) (hl:l<Ai) (r':Option Real) (b:OB)
  (hg:w.grownBy w' ((π l).map (·.g)))
  (hr: ∀r,r'=some r->r=Real.one r.g r.o r.cap/\((∃r0,π l=some r0/\r0.g=r.g)\/w.heap.size<=r.g)/\r.g<w'.heap.size)
  (hb:Move X w w' π (Ps π l r') st.heap (st.new l b).heap (Ba l)->Au X w' (Ps π l r') (st.new l b).heap r' b):Aj X (Ps π l r') (st.new l b) a w':=by
 refine h.cZ l hl r' b hg (λr c h1 h2=>?_) (λr c h1 h2=>?_) hb
 ·obtain ⟨h3,h4,_⟩:=hr r h1
  have SV:c=r.g:=by rw [h3] at h2;exact h2
  subst SV
  refine ⟨by rw [h3];rfl,h4.imp (λ⟨r0,h5,h6⟩=>⟨r0,h5,h6▸h.1.Ax h5⟩) id⟩
 ·obtain ⟨h3,h4,h5⟩:=hr r h1
  have SV:c=r.g:=by rw [h3] at h2;exact h2
  subst SV
  refine ⟨?_,h5,λm r0 hm h6 h7=>?_⟩
  ·rcases h4 with ⟨r0,h6,h7⟩|h6
   ·rw [<-h7];exact (h.1.lt h6).2
   ·exact .inl (Nat.le_trans h.1.below.size h6)
  ·rcases h4 with ⟨r1,h8,h9⟩|h8
   ·exact hm (h.1.inj m l r0 r1 r.g h6 h8 h7 (h9▸h.1.sub l r1 _ h8 (h.1.Ax h8)))
   ·have:=(h.1.place m r0 _ h6 h7).2;omega
theorem Hw.drop (h:Hw X w π H) {f:AC->AC} (l:Nat) (m:Move X w w π (Ps π l none) H H' f) (h0:Ae H' l=none) (hH: ∀k,k≠l->Ae H' k=(Ae H k).map (OB.map f)):Hw X w (Ps π l none) H':=by
 have un: ∀k r,Ps π l none k=some r->k≠l/\π k=some r:= λk r hk=>by
  by_cases e:k=l
  ·subst e;rw [Di] at hk;cases hk
  ·rw [Dh π none e] at hk;exact ⟨e,hk⟩
 refine ⟨h.below,h.sc,λk r c h1 h2=>h.sub k r c (un k r h1).2 h2,λk r c h1 h2=>h.place k r c (un k r h1).2 h2,λl1 l2 r1 r2 c h1 h2 h3 h4=>h.inj _ _ r1 r2 c (un _ _ h1).2 (un _ _ h2).2 h3 h4,λk hp Ex=>?_,λk=>?_⟩
 ·have e:k≠l:= λe=>by subst e;exact Ex h0
  rw [hH k e] at Ex
  rw [Dh π none e]
  exact h.cR k hp λh1=>Ex (by rw [h1];rfl)
 ·by_cases e:k=l
  ·subst e
   exact Dk.Pf (by rw [Di]) h0
  ·have hn:=hH k e
   have ho:=h.heap k
   cases fM:Ae H k with
   |none=>rw [fM] at hn;exact Dk.Pf (by rw [Dh π none e];exact ho.emp fM) hn
   |some c=>
    rw [fM] at hn
    refine Dk.It ?_ hn
    rw [Dh π none e]
    exact (ho.Mh fM).move m (Nat.le_refl _) (λr0 c h0 h1=>h.sub _ r0 c h0 h1) λr0 c h0 h1 Hq=>rfl
theorem Aj.forget {st:St} {a:Act} (h:Aj X π st a w) (l:Nat):Aj X (Ps π l none) (st.forget l) a w:=by
 have m:Move X w w π (Ps π l none) st.heap (st.forget l).heap (Ba l):=
  Move.forget (Nat.le_refl _) (λ_ _ _=>rfl) (λr c hr=>by cases hr) (λm hm=>St.cv st l m hm) (λ_ _ _ _ _ _=>rfl)
 refine ⟨h.1.drop l m (St.jq st l) λk e=>St.cv st l k e,?_⟩
 have hh:mc X w (Ps π l none) {tmps:=st.tmps.map (·.map (Ba l)),heap:=(st.forget l).heap} a:=m.zA rfl h.2
 exact hh
theorem cellOf {w:World} {g:Nat} {cur:Array Value} {tid:TypeId} (h:w.heap[g]?=some (.cells cur tid (0,0))) (i:Nat):w.cell? ⟨g,i,none⟩=cur[i]?:=by
 simp [World.cell?,h]
theorem Jm {l off len:Nat} {v:Value} {fr tr:Bool} {e:Ty} {tid:TypeId} {xs:List e.den} (h:Ea X w π H (.own l off len) v) (hl:Ae H l=some (.arr fr tr e tid xs)):off+len<=xs.length/\Dq (π l) e.size off len v:=by
 obtain ⟨b,sz,n,h1,h0,h2,h3⟩:=h
 rw [hl] at h1;cases h1
 simp only [OB.row,Option.some.injEq,Prod.mk.injEq] at h0
 obtain ⟨rfl,rfl⟩:=h0
 exact ⟨h2,h3⟩
theorem Vm {l off len:Nat} {v:Value} {e:Ty} {tid:TypeId} {xs:List e.den} (h:Ea X w π H (.own l off len) v) (hl:Ae H l=some (.Dj e tid xs)):off+len<=xs.length/\Dq (π l) e.size off len v:=by
 obtain ⟨b,sz,n,h1,h0,h2,h3⟩:=h
 rw [hl] at h1;cases h1
 simp only [OB.row,Option.some.injEq,Prod.mk.injEq] at h0
 obtain ⟨rfl,rfl⟩:=h0
 exact ⟨h2,h3⟩
theorem z8 {l off len:Nat} {v:Value} {fr tr:Bool} {e:Ty} {tid:TypeId} {xs:List e.den} (hl:Ae H l=some (.arr fr tr e tid xs)) (h1:off+len<=xs.length) (h2:Dq (π l) e.size off len v):Ea X w π H (.own l off len) v:=
 ⟨_,e.size,xs.length,hl,rfl,h1,h2⟩
theorem rq {r:Real} {off len:Nat} {v:Value} {e:Ty} {tid:TypeId} {xs:List e.den} {S:Nat->Prop} {cur:Array Value} (h2:w.heap[r.g]?=some (.cells cur tid (0,0)))
  (hlen:off+len<=xs.length) (hv:Dq (some r) e.size off len v) (hg: ¬S r.g)
  (hA: ∀(i:Nat) (x:e.den),xs[i]?=some x-> ∃es:List Value,es.length=e.size/\(∀j u,es[j]?=some u->cur[(r.o+i)*e.size+j]?=some u)/\Cells w S e es x):Cells w S (.slice e) [v] ((xs.drop off).take len):=by
 have OG:((xs.drop off).take len).length=len:=by simp;omega
 obtain ⟨ad,rfl,hc,ha⟩:=hv
 refine ⟨some ad,len,r.cap-off,rfl,OG.symm,by omega,?_⟩
 rcases Nat.eq_zero_or_pos len with h0|h0
 ·left;subst h0;simp
 ·right
  refine ⟨r.g,(r.o+off)*e.size,by rw [ha (by omega)],De h2,hg,λi x hx=>?_⟩
  have hi:i<len:=by
   have:=(List.getElem?_eq_some_iff.1 hx).1
   rw [OG] at this;exact this
  have WN:xs[off+i]?=some x:=by
   rw [List.getElem?_take,if_pos hi,List.getElem?_drop] at hx;exact hx
  obtain ⟨es,he,hj,mT⟩:=hA (off+i) x WN
  refine ⟨es,he,λj u hu=>?_,mT⟩
  rw [cellOf h2]
  have:=hj j u hu
  rw [<-this]
  congr 1
  rw [<-Nat.add_assoc,Nat.add_mul (r.o+off) i]
theorem jL {l off len:Nat} {v:Value} {fr tr:Bool} {e:Ty} {tid:TypeId} {xs:List e.den} {S:Nat->Prop} (h:Hw X w π H) (hl:Ae H l=some (.arr fr tr e tid xs))
  (hlen:off+len<=xs.length) (hv:Dq (π l) e.size off len v)
  (hS: ∀k,S k->(∃r,π l=some r/\r.Ax k)->False) (hA: ∀k,k<w.heap.size->S k->Be X.w0.heap.size X.Sc π fr k):Cells w S (.slice e) [v] ((xs.drop off).take len):=by
 have hb:=(h.heap l).Mh hl
 simp only [Au,Fv] at hb
 cases hp:π l with
 |none=>
  rw [hp] at hb hv
  obtain ⟨rfl,rfl,rfl⟩:=hv
  exact ⟨none,0,0,rfl,by simp,Nat.le_refl _, .inl (by simp)⟩
 |some r=>
  rw [hp] at hb hv
  obtain ⟨h1,cur,_,h2,h3,h4,h5,h6,_⟩:=hb
  refine rq h2 hlen hv (λhs=>hS _ hs ⟨r,hp,h1.1⟩) λi x hx=>?_
  obtain ⟨es,he,hj,mT⟩:=h6 i x hx
  exact ⟨es,he,hj,Cells.Cr (Nat.le_refl _) (λ_ _ _=>rfl) hA e es x mT⟩
theorem Lh.slice {D S:Nat->Prop} {R:Option Real} {e:Ty} {x:List e.den} {u:Value} (h:Lh w D R e x) (hv:Dq R e.size 0 (List.length x) u) (hD: ∀k,S k->D k) (hg: ∀q,R=some q-> ¬S q.g):Cells w S (.slice e) [u] x:=by
 cases R with
 |none=>
  have hx:x= []:=h
  subst hx
  obtain ⟨rfl,_,_⟩:=hv
  exact ⟨none,0,0,rfl,rfl,Nat.le_refl _, .inl rfl⟩
 |some q=>
  obtain ⟨h1,cur,ti,h2,h3,h4,h5,h6⟩:=h
  obtain ⟨ad,rfl,g1,g2⟩:=hv
  refine ⟨some ad,List.length x,_,rfl,rfl,by omega,?_⟩
  rcases Nat.eq_zero_or_pos (List.length x) with hx|hx
  ·exact .inl (List.eq_nil_of_length_eq_zero hx)
  ·have BO:=g2 (by omega)
   subst BO
   refine .inr ⟨q.g,(q.o+0)*e.size,rfl,De h2,hg q rfl,λi y hy=>?_⟩
   obtain ⟨es,k1,k2,k3⟩:=h6 i y hy
   refine ⟨es,k1,λj u hu=>?_,Cells.Cr (Nat.le_refl _) (λ_ _ _=>rfl) (λk _ hk=>hD k hk) e es y k3⟩
   rw [cellOf h2,Nat.add_zero,<-Nat.add_mul]
   exact k2 j u hu
theorem iK {l off len:Nat} {v:Value} {e:Ty} {te:TypeId} {rows:List (List e.den)} {out:Option Nat} {kp:Option (Nat×Nat)} (h:Ea X w π H (.own l off len) v) (hl:Ae H l=some (.Ak e te rows out kp)):off+len<=rows.length/\Dq (π l) 1 off len v:=by
 obtain ⟨b,sz,n,h1,h2,h3,h4⟩:=h
 rw [hl] at h1;cases h1
 simp only [OB.row,Option.some.injEq,Prod.mk.injEq] at h2
 obtain ⟨rfl,rfl⟩:=h2
 exact ⟨h3,h4⟩
theorem mO {l off len:Nat} {v:Value} {e:Ty} {te:TypeId} {rows:List (List e.den)} {kp:Option (Nat×Nat)} {S:Nat->Prop} (h:Hw X w π H) (hl:Ae H l=some (.Ak e te rows none kp))
  (hlen:off+len<=rows.length) (hv:Dq (π l) 1 off len v)
  (hS: ∀k,S k->(∃r,π l=some r/\r.Ax k)->False) (hA: ∀k,S k->Be X.w0.heap.size X.Sc π false k):Cells w S (.slice (.slice e)) [v] ((rows.drop off).take len):=by
 have hb:=(h.heap l).Mh hl
 simp only [Au] at hb
 have hb:=hb.1
 cases hp:π l with
 |none=>
  rw [hp] at hb hv
  have hb:rows= []:=hb
  obtain ⟨rfl,rfl,rfl⟩:=hv
  exact ⟨none,0,0,rfl,by simp,Nat.le_refl _, .inl (by simp)⟩
 |some r=>
  rw [hp] at hb hv
  obtain ⟨h1,cur,ti,h2,h3,h4,h5,Rs,h6,h7,h8,h9⟩:=hb
  obtain ⟨ad,rfl,g1,g2⟩:=hv
  refine ⟨some ad,len,_,rfl,by simp;omega,by omega,?_⟩
  rcases Nat.eq_zero_or_pos len with hx|hx
  ·subst hx;exact .inl (by simp)
  ·have BO:=g2 (by omega)
   subst BO
   refine .inr ⟨r.g,(r.o+off)*1,rfl,De h2,λhs=>hS _ hs ⟨r,hp,h1⟩,λi x hx=>?_⟩
   have hx:((rows.drop off).take len)[i]?=some x:=hx
   rw [List.getElem?_take] at hx
   split at hx
   ·rw [List.getElem?_drop] at hx
    obtain ⟨u,R,k1,k2,k3,k4⟩:=h9 _ x hx (by simp)
    refine ⟨[u],rfl,λj u' bJ=>?_,k4.slice k3 hA λq hq hs=>hS _ hs ⟨r,hp,(h7 _ q (by rw [k2,hq])).1⟩⟩
    rcases j with _|j
    ·simp only [List.getElem?_cons_zero,Option.some.injEq] at bJ
     subst bJ
     rw [cellOf h2,<-k1]
     congr 1
     simp only [Ty.size];omega
    ·simp at bJ
   ·cases hx
theorem vS {l i c:Nat} {v:Value} {e:Ty} {te:TypeId} {rows:List (List e.den)} {out:Option Nat} {kp:Option (Nat×Nat)} (hv:Ea X w π H (.sub l i c) v) (hl:Ae H l=some (.Ak e te rows out kp)):rows[i]?=some (rows.getD i []):=by
 obtain ⟨r,b,sz,n,h1,h0,_,h3,_⟩:=hv
 rw [hl] at h1;cases h1
 simp only [OB.bh,Option.some.injEq,Prod.mk.injEq] at h0
 obtain ⟨rfl,rfl⟩:=h0
 rw [List.getD_eq_getElem?_getD,List.getElem?_eq_getElem h3];rfl
theorem hY {l i:Nat} {e:Ty} {te:TypeId} {rows:List (List e.den)} {out:Option Nat} {kp:Option (Nat×Nat)} {r:Real} (h:Hw X w π H) (hl:Ae H l=some (.Ak e te rows out kp)) (hp:π l=some r) (hi:i<rows.length) (ho:out≠some i):
  ∃u R,w.cell? ⟨r.g,r.o+i,none⟩=some u/\Dq R e.size 0 (rows.getD i []).length u/\Lh w (Be X.w0.heap.size X.Sc π false) R e (rows.getD i []):=by
 have hb:=(h.heap l).Mh hl
 simp only [Au] at hb
 have hb:=hb.1
 rw [hp] at hb
 obtain ⟨h1,cur,ti,h2,h3,h4',h5',Rs,h6,h7,h8,h9⟩:=hb
 have hx:rows[i]?=some (rows.getD i []):=by rw [List.getD_eq_getElem?_getD,List.getElem?_eq_getElem hi];rfl
 obtain ⟨u,R,k1,k2,k3,k4⟩:=h9 _ _ hx ho
 exact ⟨u,R,by rw [cellOf h2];exact k1,k3,k4⟩
theorem Tq {R:Option Real} {sz off len:Nat} {u:Value} (h:Dq R sz off len u): ∃a n m,u= .slice a n m:=by
 cases R with
 |none=>exact ⟨_,_,_,h.1⟩
 |some q=>obtain ⟨ad,rfl,_⟩:=h;exact ⟨_,_,_,rfl⟩
theorem mP {l i c:Nat} {v:Value} {e:Ty} {te:TypeId} {rows:List (List e.den)} {kp:Option (Nat×Nat)} {x:List e.den} {S:Nat->Prop} (h:Hw X w π H) (hl:Ae H l=some (.Ak e te rows none kp)) (hx:rows[i]?=some x)
  (hv:Ea X w π H (.sub l i c) v)
  (hS: ∀k,S k->(∃r,π l=some r/\r.Ax k)->False) (hA: ∀k,S k->Be X.w0.heap.size X.Sc π false k):Cells w S (.slice e) [v] x:=by
 obtain ⟨r,b,sz,n,h1,h0,hp,h3,⟨h4,_⟩,h5⟩:=hv
 rw [hl] at h1;cases h1
 simp only [OB.bh,Option.some.injEq,Prod.mk.injEq] at h0
 obtain ⟨rfl,rfl⟩:=h0
 have hb:=(h.heap l).Mh hl
 simp only [Au] at hb
 have hb:=hb.1
 rw [hp] at hb
 obtain ⟨h1,cur,ti,h2,h3,h4',h5',Rs,h6,h7,h8,h9⟩:=hb
 obtain ⟨u,R,k1,k2,k3,k4⟩:=h9 _ x hx (by simp)
 have:c=0:=by omega
 subst this
 rw [cellOf h2,Nat.mul_one,Nat.add_zero,k1] at h5
 have hv:=Option.some.inj h5
 subst hv
 exact k4.slice k3 hA λq hq hs=>hS _ hs ⟨r,hp,(h7 _ q (by rw [k2,hq])).1⟩
theorem gy {l off len:Nat} {v:Value} {e:Ty} {tid:TypeId} {xs:List e.den} {S:Nat->Prop} (h:Hw X w π H) (hl:Ae H l=some (.Dj e tid xs))
  (hlen:off+len<=xs.length) (hv:Dq (π l) e.size off len v)
  (hS: ∀k,S k->(∃r,π l=some r/\r.Ax k)->False):Cells w S (.slice e) [v] ((xs.drop off).take len):=by
 have hb:=(h.heap l).Mh hl
 simp only [Au,Ix] at hb
 cases hp:π l with
 |none=>
  rw [hp] at hb hv
  obtain ⟨rfl,rfl,rfl⟩:=hv
  exact ⟨none,0,0,rfl,by simp,Nat.le_refl _, .inl (by simp)⟩
 |some r=>
  rw [hp] at hb hv
  obtain ⟨h1,cur,_,h2,h3,h4,h5,Fs,k1,k2,k3,k4⟩:=hb
  refine rq h2 hlen hv (λhs=>hS _ hs ⟨r,hp,h1⟩) λi x hx=>?_
  have hi:i<Fs.length:=by have:=(List.getElem?_eq_some_iff.1 hx).1;omega
  obtain ⟨es,he,hj,mT⟩:=k4 i x _ hx (List.getElem?_eq_getElem hi)
  exact ⟨es,he,hj,mT.cells _ _ _ _ λb hb hs=>hS b hs ⟨r,hp,k3 b (List.mem_flatten.2 ⟨_,List.getElem_mem hi,hb⟩)⟩⟩
theorem St.Lm (st:St) (l m:Nat) (fr:Bool) (e:Ty) (xs:List e.den) (h:m≠l):Ae (st.freeze l fr e xs).heap m=(Ae st.heap m).map (OB.map (Bb l fr e xs)):=by
 simp only [St.freeze,St.Gp]
 rw [Io _ _ _ h,Jr]
theorem St.Hi (st:St) (l:Nat) (fr:Bool) (e:Ty) (xs:List e.den):Ae (st.freeze l fr e xs).heap l=none:=by
 simp only [St.freeze,St.Gp]
 exact Hp _ _
theorem mr {l:Nat} {B:Nat} {Sc:Nat->Prop} {fr:Bool} {k:Nat} (hA:Be B Sc (Ps π l none) fr k):Be B Sc π fr k:=by
 rcases hA with ⟨m,r,hm,hg⟩|h2
 ·by_cases eg:m=l
  ·subst eg;rw [Di] at hm;cases hm
  ·rw [Dh π none eg] at hm
   exact .inl ⟨m,r,hm,hg⟩
 ·exact .inr h2
theorem Hw.let (h:Hw X w π H) {l:Nat} {fr:Bool} (vX:fr=true-> ∀r,π l=some r-> ∀b,r.Ax b->X.w0.heap.size<=b) {k:Nat} (hS:Be X.w0.heap.size X.Sc (Ps π l none) fr k) (hk: ∃r,π l=some r/\r.Ax k):False:=by
 obtain ⟨r,hr,yM⟩:=hk
 rcases hS with ⟨m,r',hm,hg⟩|hS|⟨hf,hS⟩
 ·by_cases eg:m=l
  ·subst eg;rw [Di] at hm;cases hm
  ·rw [Dh π none eg] at hm
   exact eg (h.apart hm hr hg yM)
 ·have h1:=h.sc k hS
  rcases (h.own ⟨l,r,hr,yM⟩).2 with h2|h2
  ·omega
  ·exact h1.2 h2
 ·have:=vX hf r hr k yM;omega
theorem Move.BJ {l:Nat} {f:AC->AC} (hf: ∀c v,Ea X w π H c v->(∀k∈c.refs,k≠l)->f c=c)
  (hl: ∀c v,Ea X w π H c v->l∈c.refs->Ea X w (Ps π l none) H' (f c) v)
  (hH: ∀m,m≠l->Ae H' m=(Ae H m).map (OB.map f)):Move X w w π (Ps π l none) H H' f:=by
 have hc: ∀Ow τ cs x,Cells w (Be X.w0.heap.size X.Sc π Ow) τ cs x->Cells w (Be X.w0.heap.size X.Sc (Ps π l none) Ow) τ cs x:=
  fun Ow τ cs x hh=>Cells.Cr (Nat.le_refl _) (λ_ _ _=>rfl) (λk _ hA=>mr hA) τ cs x hh
 refine ⟨λc v yE=>?_,hc⟩
 by_cases PZ:l∈c.refs
 ·exact hl c v yE PZ
 ·rw [hf c v yE λk hk e=>PZ (e▸hk)]
  cases c with
  |data Ow τ x=>obtain ⟨cs,h1,h2⟩:=yE;exact ⟨cs,hc _ _ _ _ h1,h2⟩
  |own k off len=>
   have Ja:k≠l:= λe=>PZ (by simp [AC.refs,e])
   obtain ⟨b,sz,n,h1,h0,h2,h3⟩:=yE
   exact ⟨b.map f,sz,n,by rw [hH k Ja,h1];rfl,by cases b<;>exact h0,h2,by rw [Dh π none Ja];exact h3⟩
  |Dz k i=>
   have Ja:k≠l:= λe=>PZ (by simp [AC.refs,e])
   obtain ⟨r,Nw,vs,h1,h2,h3⟩:=yE
   exact ⟨r,Nw,vs.map f,by rw [hH k Ja,h1];rfl,by rw [Dh π none Ja];exact h2,h3⟩
  |Gc k i=>
   have Ja:k≠l:= λe=>PZ (by simp [AC.refs,e])
   obtain ⟨r,b,sz,n,h1,h0,h2,h3,h4⟩:=yE
   exact ⟨r,b.map f,sz,n,by rw [hH k Ja,h1];rfl,by cases b<;>exact h0,h2,by rw [Dh π none Ja];exact h3,h4⟩
  |sub k i c=>
   have Ja:k≠l:= λe=>PZ (by simp [AC.refs,e])
   obtain ⟨r,b,sz,n,h1,h0,h2,h3⟩:=yE
   exact ⟨r,b.map f,sz,n,by rw [hH k Ja,h1];rfl,by cases b<;>exact h0,by rw [Dh π none Ja];exact h2,h3⟩
  |Ga k i c=>
   have Ja:k≠l:= λe=>PZ (by simp [AC.refs,e])
   obtain ⟨r,b,n,sz,g,o,len,cap,h1,h0,h2,h3⟩:=yE
   exact ⟨r,b.map f,n,sz,g,o,len,cap,by rw [hH k Ja,h1];rfl,by cases b<;>exact h0,by rw [Dh π none Ja];exact h2,h3⟩
  |clo g Bx=>
   obtain ⟨us,h1,h2,h3⟩:=yE
   refine ⟨us,h1,h2,λj p hp=>?_⟩
   obtain ⟨r,tid,vs,h4,h5,h6⟩:=h3 j p hp
   have bN:p.1≠l:= λe=>PZ (by simp only [AC.refs,List.mem_map];exact ⟨p,List.mem_of_getElem? hp,e⟩)
   exact ⟨r,tid,vs.map f,by rw [hH _ bN,h4];rfl,by rw [Dh π none bN];exact h5,h6⟩
  |Gi k=>
   have Ja:k≠l:= λe=>PZ (by simp [AC.refs,e])
   obtain ⟨r,vt,m,h1,h2,h3⟩:=yE
   exact ⟨r,vt,m,by rw [hH k Ja,h1];rfl,by rw [Dh π none Ja];exact h2,h3⟩
  |_=>exact yE
theorem c9 {l:Nat} {ls:List Nat} (h: ∀k∈ls,k≠l):ls.contains l=false:=by
 cases hc:ls.contains l with
 |false=>rfl
 |true=>exact absurd rfl (h l (by simpa using hc))
theorem cw {l:Nat} {fr:Bool} {e:Ty} {xs:List e.den} {c:AC} (h: ∀k∈c.refs,k≠l):Bb l fr e xs c=c:=by
 cases c<;>simp only [Bb]<;>first|rfl|skip
 case clo f Bx=>rw [if_neg (by rw [c9 (show ∀k∈Bx.map (·.1),k≠l from h)];simp)]
 all_goals rw [if_neg (h _ (by simp [AC.refs]))]
theorem mL {l:Nat} {v:Ty} {m:ByteArray->Option v.den} {c:AC} (h: ∀k∈c.refs,k≠l):Dm l v m c=c:=by
 cases c<;>simp only [Dm]<;>first|rfl|skip
 case clo f Bx=>rw [if_neg (by rw [c9 (show ∀k∈Bx.map (·.1),k≠l from h)];simp)]
 all_goals rw [if_neg (h _ (by simp [AC.refs]))]
theorem Move.freeze {l:Nat} {fr:Bool} {e:Ty} {xs:List e.den}
  (Aba: ∀off len v,Ea X w π H (.own l off len) v->Cells w (Be X.w0.heap.size X.Sc (Ps π l none) fr) (.slice e) [v] ((xs.drop off).take len))
  (hH: ∀m,m≠l->Ae H' m=(Ae H m).map (OB.map (Bb l fr e xs))):Move X w w π (Ps π l none) H H' (Bb l fr e xs):=by
 refine Move.BJ (λc v _ h=>cw h) (λc v yE hr=>?_) hH
 cases c with
 |own k off len=>
  have:k=l:=(List.mem_singleton.1 hr).symm
  subst this
  simp only [Bb,if_pos]
  exact ⟨[v],Aba off len v yE,by simp [As,Ty.Ac]⟩
 |Dz k i=>have:k=l:=(List.mem_singleton.1 hr).symm
          subst this;simp only [Bb,if_pos];trivial
 |Gc k i=>have:k=l:=(List.mem_singleton.1 hr).symm
          subst this;simp only [Bb,if_pos];trivial
 |sub k i c=>have:k=l:=(List.mem_singleton.1 hr).symm
             subst this;simp only [Bb,if_pos];trivial
 |Ga k i c=>have:k=l:=(List.mem_singleton.1 hr).symm
            subst this;simp only [Bb,if_pos];trivial
 |Gi k=>have:k=l:=(List.mem_singleton.1 hr).symm
        subst this;simp only [Bb,if_pos];trivial
 |clo f Bx=>
  simp only [Bb]
  rw [if_pos (by simpa [AC.refs] using hr)];trivial
 |_=>simp [AC.refs] at hr
theorem Aj.freeze {st:St} {a:Act} (h:Aj X π st a w) {l:Nat} {fr:Bool} {e:Ty} {xs:List e.den}
  (hl:(∃tr tid,Ae st.heap l=some (.arr fr tr e tid xs))\/(fr=false/\ ∃tid,Ae st.heap l=some (.Dj e tid xs))):
  Aj X (Ps π l none) (st.freeze l fr e xs) a w/\Move X w w π (Ps π l none) st.heap (st.freeze l fr e xs).heap (Bb l fr e xs):=by
 have m:Move X w w π (Ps π l none) st.heap (st.freeze l fr e xs).heap (Bb l fr e xs):=by
  refine Move.freeze (λoff len v hv=>?_) (λm hm=>St.Lm st l m fr e xs hm)
  rcases hl with ⟨tr,tid,hl⟩|⟨rfl,tid,hl⟩
  ·obtain ⟨h2,h3⟩:=Jm hv hl
   refine jL h.1 hl h2 h3 (λk hk=>?_) λk _ hk=>mr hk
   intro ⟨r,hr,yM⟩
   have hb:=(h.1.heap l).Mh hl
   simp only [Au,Fv,hr] at hb
   by_cases VR:k=r.g
   ·subst VR
    rcases hk with ⟨m,r',hm,hg⟩|hS|⟨hf,hS⟩
    ·by_cases eg:m=l
     ·subst eg;rw [Di] at hm;cases hm
     ·rw [Dh π none eg] at hm
      exact eg (h.1.apart hm hr hg yM)
    ·have h1:=h.1.sc _ hS
     rcases (h.1.own ⟨l,r,hr,yM⟩).2 with h2|h2
     ·omega
     ·exact h1.2 h2
    ·have:=hb.1.2.2 hf;omega
   ·exact absurd (hb.1.2.1 k yM) VR
  ·obtain ⟨h2,h3⟩:=Vm hv hl
   exact gy h.1 hl h2 h3 λk hk hr=>h.1.let (λhf=>by cases hf) hk hr
 refine ⟨⟨h.1.drop l m (St.Hi st l fr e xs) λk e'=>St.Lm st l k fr e xs e',?_⟩,m⟩
 have hh:mc X w (Ps π l none) {tmps:=st.tmps.map (·.map (Bb l fr e xs)),heap:=(st.freeze l fr e xs).heap} a:=m.zA rfl h.2
 exact hh
theorem St.Kz (st:St) (l k:Nat) (v:Ty) (m:ByteArray->Option v.den) (h:k≠l):Ae (st.En l v m).heap k=(Ae st.heap k).map (OB.map (Dm l v m)):=by
 simp only [St.En,St.Gp]
 rw [Io _ _ _ h,Jr]
theorem St.Mn (st:St) (l:Nat) (v:Ty) (m:ByteArray->Option v.den):Ae (st.En l v m).heap l=none:=by
 simp only [St.En,St.Gp]
 exact Hp _ _
theorem rK {r:Option Real} {v:Ty} {m:ByteArray->Option v.den} {g:Nat} {S:Nat->Prop} (h:IL w r v m) (hg:r.map (·.g)=some g) (hS: ¬S g):Cells w S (.smap v) [.map (some g)] m:=by
 obtain ⟨r',h0,h1,h2,h3⟩:=h
 rw [h0] at hg
 simp only [Option.map_some,Option.some.injEq] at hg
 subst hg
 simp only [Cells] at h3⊢
 rcases h3 with ⟨h3,_⟩|⟨g,h3,hg,_,es,clock,h4,h5,h6,h7⟩
 ·simp at h3
 ·simp only [List.cons.injEq,Value.map.injEq,Option.some.injEq,and_true] at h3
  subst h3
  refine .inr ⟨r'.g,rfl,hg,hS,es,clock,h4,h5,h6,λs y hy=>?_⟩
  obtain ⟨u,h8,h9⟩:=h7 s y hy
  exact ⟨u,h8,Cells.flat v [u] y h2.1 h9⟩
theorem Aj.En {st:St} {a:Act} (h:Aj X π st a w) {l:Nat} {v:Ty} {m:ByteArray->Option v.den} (hl:Ae st.heap l=some (.On v m)):
  Aj X (Ps π l none) (st.En l v m) a w/\Move X w w π (Ps π l none) st.heap (st.En l v m).heap (Dm l v m):=by
 have mv:Move X w w π (Ps π l none) st.heap (st.En l v m).heap (Dm l v m):=by
  refine Move.BJ (λc u _ h=>mL h) (λc u yE hr=>?_) (λk hk=>St.Kz st l k v m hk)
  cases c with
  |Gi k=>
   have:k=l:=(List.mem_singleton.1 hr).symm
   subst this
   simp only [Dm,if_pos]
   obtain ⟨r,vt,m',h1,h2,rfl⟩:=yE
   exact ⟨[_],rK ((h.1.heap k).Mh hl) (by rw [h2];rfl) λhS=>h.1.let (λhf=>by cases hf) hS ⟨r,h2,h.1.Ax h2⟩,by simp [As,Ty.Ac]⟩
  |own k off len=>have:k=l:=(List.mem_singleton.1 hr).symm
                  subst this;simp only [Dm,if_pos];trivial
  |Dz k i=>have:k=l:=(List.mem_singleton.1 hr).symm
           subst this;simp only [Dm,if_pos];trivial
  |Gc k i=>have:k=l:=(List.mem_singleton.1 hr).symm
           subst this;simp only [Dm,if_pos];trivial
  |sub k i c=>have:k=l:=(List.mem_singleton.1 hr).symm
              subst this;simp only [Dm,if_pos];trivial
  |Ga k i c=>have:k=l:=(List.mem_singleton.1 hr).symm
             subst this;simp only [Dm,if_pos];trivial
  |clo f Bx=>
   simp only [Dm]
   rw [if_pos (by simpa [AC.refs] using hr)];trivial
  |_=>simp [AC.refs] at hr
 refine ⟨⟨h.1.drop l mv (St.Mn st l v m) λk e'=>St.Kz st l k v m e',?_⟩,mv⟩
 have hh:mc X w (Ps π l none) {tmps:=st.tmps.map (·.map (Dm l v m)),heap:=(st.En l v m).heap} a:=mv.zA rfl h.2
 exact hh
def OB.fits:OB->OB->Prop
 | .arr _ _ e _ xs, .arr _ _ e' _ xs'=>e=e'/\xs.length<=xs'.length
 | .var _ _, .var _ _=>True
 | .On _ _, .On _ _=>True
 |_,_=>False
theorem Move.UJ {tc:Nat->Prop} {π':Pi} (hs:w.heap.size<=w'.heap.size)
  (hk: ∀k,k<w.heap.size->(∀l r,tc l->π l=some r-> ¬r.Ax k)->w'.heap[k]?=w.heap[k]?)
  (hO: ∀b,b<w.heap.size->Nn π' b->Nn π b)
  (hH: ∀m,¬tc m->Ae H' m=Ae H m/\π' m=π m) (SX: ∀m,tc m->Um (π m) (π' m)/\ ∀b0,Ae H m=some b0-> ∃b,Ae H' m=some b/\b0.fits b)
  (hx: ∀m r,¬tc m->π m=some r->(∃b,Ae H m=some b/\b.bh≠none)->r.g<w.heap.size->w'.heap[r.g]?=w.heap[r.g]?):Move X w w' π π' H H' (λc=>c):=by
 have hc: ∀fr τ cs x,Cells w (Be X.w0.heap.size X.Sc π fr) τ cs x->Cells w' (Be X.w0.heap.size X.Sc π' fr) τ cs x:=by
  intro fr τ cs x h
  exact Cells.Cr hs (λk mW hn=>hk k mW λl r _ h0 h1=>hn (.inl ⟨l,r,h0,h1⟩)) (λk Hq hA=>hA.imp (hO k Hq) id) τ cs x h
 have same: ∀m r,π m=some r-> ∃r',π' m=some r'/\r.g=r'.g/\r.o=r'.o/\r.cap=r'.cap:=by
  intro m r hm
  by_cases ht:tc m
  ·have:=(SX m ht).1
   rw [hm] at this
   cases hp:π' m with
   |none=>rw [hp] at this;exact this.elim
   |some r'=>rw [hp] at this;exact ⟨r',rfl,this.1,this.2.1,this.2.2.1⟩
  ·exact ⟨r,by rw [(hH m ht).2];exact hm,rfl,rfl,rfl⟩
 have fit: ∀m b,Ae H m=some b-> ∃b',Ae H' m=some b'/\(b'=b\/b.fits b'):=by
  intro m b hm
  by_cases ht:tc m
  ·obtain ⟨b',h1,h2⟩:=(SX m ht).2 b hm;exact ⟨b',h1, .inr h2⟩
  ·exact ⟨b,by rw [(hH m ht).1];exact hm, .inl rfl⟩
 refine ⟨λc v h=>?_,hc⟩
 cases c with
 |data fr τ x=>obtain ⟨cs,h1,h2⟩:=h;exact ⟨cs,hc _ _ _ _ h1,h2⟩
 |own k off len=>
  obtain ⟨b,sz,n,h1,h0,h2,h3⟩:=h
  have lU:Dq (π' k) sz off len v:=by
   cases hp:π k with
   |none=>
    rw [hp] at h3
    have:π' k=none:=by
     by_cases ht:tc k
     ·have:=(SX k ht).1
      rw [hp] at this
      cases BW:π' k with
      |none=>rfl
      |some r'=>rw [BW] at this;exact this.elim
     ·rw [(hH k ht).2];exact hp
    rw [this];exact h3
   |some r=>
    rw [hp] at h3
    obtain ⟨r',h4,h5,h6,h7⟩:=same k r hp
    rw [h4]
    unfold Dq at h3⊢
    simp only at h3⊢
    rw [<-h5,<-h6,<-h7]
    exact h3
  obtain ⟨b',h4,h5⟩:=fit k b h1
  rcases h5 with rfl|h5
  ·exact ⟨_,sz,n,h4,h0,h2,lU⟩
  ·cases b<;>cases b'<;>first|exact h5.elim|(simp [OB.row] at h0;done)|skip
   ·obtain ⟨rfl,hlen⟩:=h5
    simp only [OB.row,Option.some.injEq,Prod.mk.injEq] at h0
    obtain ⟨rfl,rfl⟩:=h0
    exact ⟨_,_,_,h4,rfl,by omega,lU⟩
 |Dz k i=>
  obtain ⟨r,tid,vs,h1,h2,h3⟩:=h
  obtain ⟨r',h4,h5,_⟩:=same k r h2
  obtain ⟨b',h6,h7⟩:=fit k _ h1
  rcases h7 with rfl|h7
  ·exact ⟨r',tid,vs,h6,h4,by rw [<-h5];exact h3⟩
  ·cases b'<;>first|exact h7.elim|exact ⟨r',_,_,h6,h4,by rw [<-h5];exact h3⟩
 |Gc k i=>
  obtain ⟨r,b,sz,n,h1,h0,h2,h3,h4⟩:=h
  obtain ⟨r',h5,h6,h7,_⟩:=same k r h3
  obtain ⟨b',h8,h9⟩:=fit k _ h1
  rcases h9 with rfl|h9
  ·exact ⟨r',_,sz,n,h8,h0,h2,h5,by rw [<-h6,<-h7];exact h4⟩
  ·cases b<;>cases b'<;>first|exact h9.elim|(simp [OB.row] at h0;done)|skip
   obtain ⟨rfl,hlen⟩:=h9
   simp only [OB.row,Option.some.injEq,Prod.mk.injEq] at h0
   obtain ⟨rfl,rfl⟩:=h0
   exact ⟨r',_,_,_,h8,rfl,by omega,h5,by rw [<-h6,<-h7];exact h4⟩
 |sub k i c=>
  obtain ⟨r,b,sz,n,h1,h0,h2,h3,h4,h5⟩:=h
  by_cases ht:tc k
  ·obtain ⟨b',h6,h7⟩:=(SX k ht).2 _ h1
   cases b<;>first|(cases h0;done)|skip
   all_goals (cases b'<;>exact h7.elim)
  ·exact ⟨r,b,sz,n,by rw [(hH k ht).1];exact h1,h0,by rw [(hH k ht).2];exact h2,h3,h4,by rw [World.cell?_of_block (hx k r ht h2 ⟨b,h1,by rw [h0];simp⟩ (Wb h5))];exact h5⟩
 |Ga k i c=>
  obtain ⟨r,b,n,sz,g,o,len,cap,h1,h0,h2,h3,h4,h5,h6⟩:=h
  by_cases ht:tc k
  ·obtain ⟨b',h6,h7⟩:=(SX k ht).2 _ h1
   cases b<;>first|(cases h0;done)|skip
   all_goals (cases b'<;>exact h7.elim)
  ·exact ⟨r,b,n,sz,g,o,len,cap,by rw [(hH k ht).1];exact h1,h0,by rw [(hH k ht).2];exact h2,h3,h4,by rw [World.cell?_of_block (hx k r ht h2 ⟨b,h1,by cases b<;>first|(cases h0;done)|simp [OB.bh]⟩ (Wb h5))];exact h5,h6⟩
 |clo f Bx=>
  obtain ⟨us,h1,h2,h3⟩:=h
  refine ⟨us,h1,h2,λj p hp=>?_⟩
  obtain ⟨r,tid,vs,h4,h5,h6⟩:=h3 j p hp
  obtain ⟨r',h7,h8,_⟩:=same _ r h5
  obtain ⟨b',h9,kI⟩:=fit _ _ h4
  rcases kI with rfl|kI
  ·exact ⟨r',tid,vs,h9,h7,by rw [<-h8];exact h6⟩
  ·cases b'<;>first|exact kI.elim|exact ⟨r',_,_,h9,h7,by rw [<-h8];exact h6⟩
 |Gi k=>
  obtain ⟨r,vt,m,h1,h2,h3⟩:=h
  obtain ⟨r',h4,h5,_⟩:=same k r h2
  obtain ⟨b',h6,h7⟩:=fit k _ h1
  rcases h7 with rfl|h7
  ·exact ⟨r',vt,m,h6,h4,by rw [<-h5];exact h3⟩
  ·cases b'<;>first|exact h7.elim|exact ⟨r',_,_,h6,h4,by rw [<-h5];exact h3⟩
 |_=>exact h
def Real.plus (r:Real) (N:List Nat):Real:= {r with cl:= λc=>r.cl c\/c∈N}
theorem Aj.Ahv {st:St} {a:Act} (h:Aj X π st a w) {l:Nat} {b0 b:OB} (hl:Ae st.heap l=some b0) (hf:b0.fits b) {r:Real} (hr:π l=some r) {N:List Nat}
  (hN: ∀c∈N,(X.w0.heap.size<=c\/X.gv c)/\c<w.heap.size/\ ∀m r0,m≠l->π m=some r0-> ¬r0.cl c) (hg:w.grownBy w' (some r.g))
  (hb:Move X w w' π (Ps π l (some (r.plus N))) st.heap (st.Gf l b).heap (λc=>c)->Au X w' (Ps π l (some (r.plus N))) (st.Gf l b).heap (some (r.plus N)) b):Aj X (Ps π l (some (r.plus N))) (st.Gf l b) a w':=by
 have hk: ∀k,k<w.heap.size-> ¬r.Ax k->w'.heap[k]?=w.heap[k]?:= λk hk hn=>hg.block k hk (by
  intro e
  simp only [Option.some.injEq] at e
  exact hn (e▸h.1.Ax hr))
 have oW: ∀k q,Ps π l (some (r.plus N)) k=some q-> ∃q0,π k=some q0/\(q=q0\/(k=l/\q0=r/\q=r.plus N)):= λk q hq=>by
  by_cases e:k=l
  ·subst e;rw [Di] at hq;exact ⟨r,hr, .inr ⟨rfl,rfl,(Option.some.inj hq).symm⟩⟩
  ·rw [Dh π _ e] at hq;exact ⟨q,hq, .inl rfl⟩
 have cl': ∀k q q0 c,(q=q0\/(k=l/\q0=r/\q=r.plus N))->q.cl c->q0.cl c\/(k=l/\c∈N):= λk q q0 c h1 h2=>by
  rcases h1 with rfl|⟨rfl,rfl,rfl⟩
  ·exact .inl h2
  ·rcases h2 with h2|h2
   ·exact .inl h2
   ·exact .inr ⟨rfl,h2⟩
 have ft: ∀k q q0 c,(q=q0\/(k=l/\q0=r/\q=r.plus N))->(q.Ax c↔q0.Ax c):= λk q q0 c h1=>by
  rcases h1 with rfl|⟨rfl,rfl,rfl⟩<;>exact Iff.rfl
 have m:Move X w w' π (Ps π l (some (r.plus N))) st.heap (st.Gf l b).heap (λc=>c):=Move.UJ (tc:= λk=>k=l) hg.size (λk Hq hn=>hk k Hq (hn l r rfl hr)) (λc _ ⟨k,q,h1,h2⟩=>by
   obtain ⟨q0,h3,h4⟩:=oW k q h1
   exact ⟨k,q0,h3,(ft k q q0 c h4).1 h2⟩)
  (λm hm=>⟨Cm _ _ _ _ hm,Dh π _ hm⟩) (λm hm=>by subst hm;exact ⟨by rw [hr,Di];exact ⟨rfl,rfl,rfl,λ_=>Iff.rfl⟩,λb1 h1=>by rw [hl] at h1;cases h1;exact ⟨b,Cq _ _ _ _ hl,hf⟩⟩)
  (λm r' hm h1 _ Hq=>hk _ Hq λh3=>hm (h.1.apart h1 hr (h.1.Ax h1) h3))
 refine ⟨⟨?_,h.1.sc,λk q c h1 h2=>?_,λk q c h1 h2=>?_,λk k' q q' c h1 h2 h3 h4=>?_,λk hp Ex=>?_,λk=>?_⟩,?_⟩
 ·exact h.1.below.grown hg h.1.below.size λk hk=>by cases hk;exact (h.1.lt hr).2
 ·obtain ⟨q0,h3,h4⟩:=oW k q h1
  have:=h.1.sub k q0 c h3 ((ft k q q0 c h4).1 h2)
  rcases h4 with rfl|⟨rfl,rfl,rfl⟩
  ·exact this
  ·exact .inl this
 ·obtain ⟨q0,h3,h4⟩:=oW k q h1
  rcases cl' k q q0 c h4 h2 with h5|⟨_,h5⟩
  ·exact ⟨(h.1.place k q0 c h3 h5).1,Nat.lt_of_lt_of_le (h.1.place k q0 c h3 h5).2 hg.size⟩
  ·exact ⟨(hN c h5).1,Nat.lt_of_lt_of_le (hN c h5).2.1 hg.size⟩
 ·obtain ⟨q0,g1,g2⟩:=oW k q h1
  obtain ⟨XS,g3,g4⟩:=oW k' q' h2
  rcases cl' k q q0 c g2 h3 with h5|⟨h5,h6⟩<;>rcases cl' k' q' XS c g4 h4 with h7|⟨h7,h8⟩
  ·exact h.1.inj k k' q0 XS c g1 g3 h5 h7
  ·refine Classical.byContradiction λhn=>(hN c h8).2.2 k q0 (λe=>hn (e.trans h7.symm)) g1 h5
  ·refine Classical.byContradiction λhn=>(hN c h6).2.2 k' XS (λe=>hn (h5.trans e.symm)) g3 h7
  ·rw [h5,h7]
 ·by_cases e:k=l
  ·subst e
   have:=h.1.cR k hp (by rw [hl];simp)
   rw [hr] at this
   rw [Di]
   cases hx:X.cR k with
   |none=>rw [hx] at this;exact this.elim
   |some q=>rw [hx] at this;exact this
  ·rw [Dh π _ e]
   exact h.1.cR k hp λh0=>Ex (by rw [show Ae (st.Gf l b).heap k=Ae st.heap k from Cm _ _ _ _ e];exact h0)
 ·by_cases e:k=l
  ·subst e
   exact Dk.It (by rw [Di];exact hb m) (Cq _ _ _ _ hl)
  ·have hn:Ae (st.Gf l b).heap k=Ae st.heap k:=Cm _ _ _ _ e
   have ho:=h.1.heap k
   cases fM:Ae st.heap k with
   |none=>rw [fM] at hn;exact Dk.Pf (by rw [Dh π _ e];exact ho.emp fM) hn
   |some c=>
    rw [fM] at hn
    refine Dk.It ?_ hn
    rw [Dh π _ e]
    have:=(ho.Mh fM).move m hg.size (λr0 c h0 h1=>h.1.sub _ r0 c h0 h1) λr0 c h0 h1 Hq=>hk _ Hq λh3=>e (h.1.inj _ _ r0 r c h0 hr h1 (h.1.sub _ _ _ hr h3))
    cases c with
    |var tid vs=>simpa [OB.map] using this
    |_=>exact this
 ·exact ⟨h.2.size,h.2.defers,λt=>by have:=m.av (h.2.tmps t);rwa [AC.map_id] at this⟩
theorem Aj.set {st:St} {a:Act} (h:Aj X π st a w) {l:Nat} {b0 b:OB} (hl:Ae st.heap l=some b0) (hf:b0.fits b)
  (hg:w.grownBy w' ((π l).map (·.g)))
  (hb:Move X w w' π π st.heap (st.Gf l b).heap (λc=>c)->Au X w' π (st.Gf l b).heap (π l) b):Aj X π (st.Gf l b) a w':=by
 have hk: ∀k,k<w.heap.size->(∀r,π l=some r-> ¬r.Ax k)->w'.heap[k]?=w.heap[k]?:= λk hk hn=>hg.block k hk (by
  intro e
  cases hp:π l with
  |none=>rw [hp] at e;cases e
  |some r=>rw [hp] at e;simp only [Option.map_some,Option.some.injEq] at e;exact hn r hp (e▸h.1.Ax hp))
 have m:Move X w w' π π st.heap (st.Gf l b).heap (λc=>c):=Move.UJ (tc:= λk=>k=l) hg.size (λk Hq hn=>hk k Hq λr hr=>hn l r rfl hr) (λ_ _ h=>h)
  (λm hm=>⟨Cm _ _ _ _ hm,rfl⟩) (λm hm=>by subst hm;exact ⟨Um.rfl' _,λb1 h1=>by rw [hl] at h1;cases h1;exact ⟨b,Cq _ _ _ _ hl,hf⟩⟩)
  (λm r hm h1 _ Hq=>hk _ Hq λr1 h2 h3=>hm (h.1.apart h1 h2 (h.1.Ax h1) h3))
 refine ⟨⟨?_,h.1.sc,h.1.sub,λk r c h1 h2=>⟨(h.1.place k r c h1 h2).1,Nat.lt_of_lt_of_le (h.1.place k r c h1 h2).2 hg.size⟩,h.1.inj,λk hp Ex=>h.1.cR k hp λh0=>Ex ?_,λk=>?_⟩,?_⟩
 ·refine h.1.below.grown hg h.1.below.size λk hk=>?_
  cases hp:π l with
  |none=>rw [hp] at hk;cases hk
  |some r=>rw [hp] at hk;simp only [Option.map_some,Option.some.injEq] at hk;rw [<-hk];exact (h.1.lt hp).2
 ·have:k≠l:= λe=>by subst e;rw [hl] at h0;cases h0
  rw [show Ae (st.Gf l b).heap k=Ae st.heap k from Cm _ _ _ _ this];exact h0
 ·by_cases e:k=l
  ·subst e
   exact Dk.It (hb m) (Cq _ _ _ _ hl)
  ·have hn:Ae (st.Gf l b).heap k=Ae st.heap k:=Cm _ _ _ _ e
   have ho:=h.1.heap k
   cases fM:Ae st.heap k with
   |none=>rw [fM] at hn;exact Dk.Pf (ho.emp fM) hn
   |some c=>
    rw [fM] at hn
    refine Dk.It ?_ hn
    have:=(ho.Mh fM).move m hg.size (λr0 c h0 h1=>h.1.sub _ r0 c h0 h1) λr0 c h0 h1 Hq=>hk _ Hq λr1 h2 h3=>e (h.1.inj _ _ r0 r1 c h0 h2 h1 (h.1.sub _ _ _ h2 h3))
    cases c with
    |var tid vs=>simpa [OB.map] using this
    |_=>exact this
 ·exact ⟨h.2.size,h.2.defers,λt=>by have:=m.av (h.2.tmps t);rwa [AC.map_id] at this⟩
end
end Go.Proofs.Ytjbdmibbbpdnnaa
