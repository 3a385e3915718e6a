/-
  Part 5 of the proof that the statement FnExactProvesNoSolutionWithin holds.
-/
import Derived.Test.YtfolipnappekaaaGreatCProvesNoSolutionWithin03
namespace Go.Proofs.YtfolipnappekaaaGreat
open Go.RowKit
def Rl (π:Pi) (l:Nat) (r:Option Real):Pi:= λk=>if k=l then r else π k
theorem Df (π:Pi) (l:Nat) (r:Option Real):Rl π l r l=r:=by simp [Rl]
theorem Cy (π:Pi) {l m:Nat} (r:Option Real) (h:m≠l):Rl π l r m=π m:=by simp [Rl,h]
section
variable {X:Ctx} {w w':World} {π:Pi} {H H':List (Nat×OB)}
def Av (X:Ctx) (w:World) (π:Pi) (H:List (Nat×OB)) (r:Option Real):OB->Prop
 | .arr fr tr e tid xs=>Fv X w π r fr tr e tid xs
 | .Dg e tid xs=>Ji w r e tid xs
 | .var tid vs=>ZT X w π H r tid vs
 | .Al e _ rows out kp=>de X w π r e rows out kp
 | .Qi v m=>QF w r v m
theorem Cx.Md {l:Nat} {b:OB} (h:Cx X w π H l) (hb:Ad H l=some b):Av X w π H (π l) b:=by
 unfold Cx at h
 rw [hb] at h
 cases b<;>exact h
theorem Cx.Hc {l:Nat} {b:OB} (h:Av X w π H (π l) b) (hb:Ad H l=some b):Cx X w π H l:=by
 unfold Cx
 rw [hb]
 cases b<;>exact h
theorem Cx.Ou {l:Nat} (h:π l=none) (hb:Ad H l=none):Cx X w π H l:=by
 unfold Cx;rw [hb];exact h
theorem Cx.emp {l:Nat} (h:Cx X w π H l) (hb:Ad H l=none):π l=none:=by
 unfold Cx at h;rw [hb] at h;exact h
theorem Av.move {f:AC->AC} {π':Pi} (m:Move X w w' π π' H H' f) {r:Option Real} {b:OB} (h:Av X w π H r b) (hs:w.heap.size<=w'.heap.size)
  (Kz: ∀r' c,r=some r'->r'.Bg c->r'.cl c) (hk: ∀r' c,r=some r'->r'.cl c->c<w.heap.size->w'.heap[c]?=w.heap[c]?):
  Av X w' π' H' r (b.map f):=by
 cases b with
 |arr fr tr e tid xs=>
  simp only [Av,Fv,OB.map] at h⊢
  cases hr:r with
  |none=>rw [hr] at h;exact h
  |some r=>
   rw [hr] at h
   obtain ⟨h1,cur,ti,h2,h3,h4,h5,h6,h7⟩:=h
   refine ⟨h1,cur,ti,(hk r _ hr (Kz r _ hr h1.1) (Dd h2)).trans h2,h3,h4,h5,λi x hx=>?_,λht=>(h7 ht).Cn hs (λc _ Ey hc=>hk r c hr hc Ey) λ_ hb=>hb⟩
   obtain ⟨es,he,hj,hc⟩:=h6 i x hx
   exact ⟨es,he,hj,m.cells _ _ _ _ hc⟩
 |Dg e tid xs=>
  simp only [Av,Ji,OB.map] at h⊢
  cases hr:r with
  |none=>rw [hr] at h;exact h
  |some r=>
   rw [hr] at h
   obtain ⟨h1,cur,ti,h2,h3,h4,h5,h7⟩:=h
   exact ⟨h1,cur,ti,(hk r _ hr (Kz r _ hr h1) (Dd h2)).trans h2,h3,h4,h5,h7.Cn hs (λc _ Ey hc=>hk r c hr (Kz r c hr hc) Ey) λ_ hb=>hb⟩
 |var tid vs=>
  obtain ⟨r',h0,h1,cur,h2,h3⟩:=h
  exact ⟨r',h0,h1,cur,(hk r' _ h0 (Kz r' _ h0 h1) (Dd h2)).trans h2,m.WZ h3⟩
 |Al e te rows out kp=>exact de.Cn h (λq b hq hf Ey=>hk q b hq (Kz q b hq hf) Ey) (λes x=>m.cells false e es x)
 |Qi v g=>
  obtain ⟨r',h0,h1,h2,h3⟩:=h
  refine ⟨r',h0,h1,h2,?_⟩
  simp only [Cells] at h3⊢
  rcases h3 with ⟨h3,_⟩|⟨g,h3,hg,_,es,clock,h4,h5,h6,h7⟩
  ·simp at h3
  ·simp only [List.cons.injEq,Value.map.injEq,Option.some.injEq,and_true] at h3
   subst h3
   refine .inr ⟨r'.g,rfl,by omega,λh=>h,es,clock,(hk r' _ h0 (Kz r' _ h0 h1) hg).trans h4,h5,h6,λs y hy=>?_⟩
   obtain ⟨u,h8,h9⟩:=h7 s y hy
   exact ⟨u,h8,Cells.flat v [u] y h2.1 h9⟩
theorem Move.forget {l:Nat} {r':Option Real} (hs:w.heap.size<=w'.heap.size)
  (hk: ∀k,k<w.heap.size->(∀r,π l=some r-> ¬r.Bg k)->w'.heap[k]?=w.heap[k]?)
  (hr: ∀r b,r'=some r->r.Bg b->(∃r0,π l=some r0/\r0.Bg b)\/w.heap.size<=b)
  (hH: ∀m,m≠l->Ad H' m=(Ad H m).map (OB.map (Bd l)))
  (hx: ∀m r,m≠l->π m=some r->(∃b,Ad H m=some b/\b.cE≠none)->r.g<w.heap.size->w'.heap[r.g]?=w.heap[r.g]?):Move X w w' π (Rl π l r') H H' (Bd l):=by
 have hc: ∀fr τ cs x,Cells w (Bj X.w0.heap.size X.Sc π fr) τ cs x->Cells w' (Bj X.w0.heap.size X.Sc (Rl π l r') fr) τ cs x:=by
  intro fr τ cs x h
  refine Cells.Cn hs (λk pV hn=>hk k pV λr h0 h1=>hn (.inl ⟨l,r,h0,h1⟩)) (λk pV hA=>?_) τ cs x h
  rcases hA with ⟨m,r,hm,hg⟩|h2
  ·by_cases gg:m=l
   ·subst gg
    rw [Df] at hm
    rcases hr r k hm hg with ⟨r0,h0,h1⟩|h1
    ·exact .inl ⟨m,r0,h0,h1⟩
    ·omega
   ·rw [Cy π r' gg] at hm
    exact .inl ⟨m,r,hm,hg⟩
  ·exact .inr h2
 refine ⟨λc v h=>?_,hc⟩
 cases c with
 |data fr τ x=>obtain ⟨cs,h1,h2⟩:=h;exact ⟨cs,hc _ _ _ _ h1,h2⟩
 |own k off len=>
  simp only [Bd]
  split
  ·trivial
  ·rename_i Na
   obtain ⟨b,sz,n,h1,h0,h2,h3⟩:=h
   exact ⟨b.map (Bd l),sz,n,by rw [hH k Na,h1];rfl,by cases b<;>exact h0,h2,by rw [Cy π r' Na];exact h3⟩
 |Dt k i=>
  simp only [Bd]
  split
  ·trivial
  ·rename_i Na
   obtain ⟨r,tid,vs,h1,h2,h3⟩:=h
   exact ⟨r,tid,vs.map (Bd l),by rw [hH k Na,h1];rfl,by rw [Cy π r' Na];exact h2,h3⟩
 |Fy k i=>
  simp only [Bd]
  split
  ·trivial
  ·rename_i Na
   obtain ⟨r,b,sz,n,h1,h0,h2,h3,h4⟩:=h
   exact ⟨r,b.map (Bd l),sz,n,by rw [hH k Na,h1];rfl,by cases b<;>exact h0,h2,by rw [Cy π r' Na];exact h3,h4⟩
 |sub k i c=>
  simp only [Bd]
  split
  ·trivial
  ·rename_i Na
   obtain ⟨r,b,sz,n,h1,h0,h2,h3,h4,h5⟩:=h
   exact ⟨r,b.map (Bd l),sz,n,by rw [hH k Na,h1];rfl,by cases b<;>exact h0,by rw [Cy π r' Na];exact h2,h3,h4,by rw [World.cell?_of_block (hx k r Na h2 ⟨b,h1,by rw [h0];simp⟩ (Yq h5))];exact h5⟩
 |Fu k i c=>
  simp only [Bd]
  split
  ·trivial
  ·rename_i Na
   obtain ⟨r,b,n,sz,g,o,len,cap,h1,h0,h2,h3,h4,h5,h6⟩:=h
   exact ⟨r,b.map (Bd l),n,sz,g,o,len,cap,by rw [hH k Na,h1];rfl,by cases b<;>exact h0,by rw [Cy π r' Na];exact h2,h3,h4,by rw [World.cell?_of_block (hx k r Na h2 ⟨b,h1,by cases b<;>first|(cases h0;done)|simp [OB.cE]⟩ (Yq h5))];exact h5,h6⟩
 |clo f Ca=>
  simp only [Bd]
  split
  ·trivial
  ·rename_i Na
   obtain ⟨us,h1,h2,h3⟩:=h
   refine ⟨us,h1,h2,λj p hp=>?_⟩
   obtain ⟨r,tid,vs,h4,h5,h6⟩:=h3 j p hp
   have fu:p.1≠l:= λe=>Na (by simp only [List.contains_iff_mem,List.mem_map];exact ⟨p,List.mem_of_getElem? hp,e⟩)
   exact ⟨r,tid,vs.map (Bd l),by rw [hH _ fu,h4];rfl,by rw [Cy π r' fu];exact h5,h6⟩
 |Gd k=>
  simp only [Bd]
  split
  ·trivial
  ·rename_i Na
   obtain ⟨r,vt,m,h1,h2,h3⟩:=h
   exact ⟨r,vt,m,by rw [hH k Na,h1];rfl,by rw [Cy π r' Na];exact h2,h3⟩
 |_=>exact h
theorem St.Uo (st:St) (l m:Nat) (b:OB) (h:m≠l):Ad (st.new l b).heap m=(Ad st.heap m).map (OB.map (Bd l)):=by
 simp only [St.new,St.forget,St.Gl]
 rw [Km _ _ _ _ h,Jd _ _ _ h,Kd]
theorem St.Dq (st:St) (l:Nat) (b:OB):Ad (st.new l b).heap l=some b:=by
 simp only [St.new,St.forget,St.Gl]
 exact Lm _ _ _ (Hy _ _)
theorem St.dK (st:St) (l m:Nat) (h:m≠l):Ad (st.forget l).heap m=(Ad st.heap m).map (OB.map (Bd l)):=by
 simp only [St.forget,St.Gl]
 rw [Jd _ _ _ h,Kd]
theorem St.lJ (st:St) (l:Nat):Ad (st.forget l).heap l=none:=by
 simp only [St.forget,St.Gl]
 exact Hy _ _
theorem Ak.er {st:St} {a:Act} (h:Ak X π st a w) (l:Nat) (hl:l<Am) (r':Option Real) (b:OB)
  (hg:w.grownBy w' ((π l).map (·.g)))
  (hf: ∀r b,r'=some r->r.Bg b->r.cl b/\((∃r0,π l=some r0/\r0.Bg b)\/w.heap.size<=b))
  (hr: ∀r b,r'=some r->r.cl b->(X.w0.heap.size<=b\/X.gv b)/\b<w'.heap.size/\ ∀m r0,m≠l->π m=some r0-> ¬r0.cl b)
  (hb:Move X w w' π (Rl π l r') st.heap (st.new l b).heap (Bd l)->Av X w' (Rl π l r') (st.new l b).heap r' b):Ak X (Rl π l r') (st.new l b) a w':=by
 have hk: ∀k,k<w.heap.size->(∀r,π l=some r-> ¬r.Bg k)->w'.heap[k]?=w.heap[k]?:= λk hk hn=>hg.block k hk (by
  intro e
  cases hp:π l with
  |none=>rw [hp] at e;cases e
  |some r=>rw [hp] at e;simp only [Option.map_some,Option.some.injEq] at e;exact hn r hp (e▸h.1.Bg hp))
 have m:Move X w w' π (Rl π l r') st.heap (st.new l b).heap (Bd l):=Move.forget hg.size hk (λr c h1 h2=>(hf r c h1 h2).2) (λm hm=>St.Uo st l m b hm)
  (λm r hm h1 _ Ey=>hk _ Ey λr1 h2 h3=>hm (h.1.apart h1 h2 (h.1.Bg h1) h3))
 refine ⟨⟨?_,h.1.sc,?_,?_,?_,?_,λk=>?_⟩,?_⟩
 ·refine h.1.below.grown hg h.1.below.size λk hk=>?_
  cases hp:π l with
  |none=>rw [hp] at hk;cases hk
  |some r=>rw [hp] at hk;simp only [Option.map_some,Option.some.injEq] at hk;rw [<-hk];exact (h.1.lt hp).2
 ·intro k r c h1 h2
  by_cases e1:k=l
  ·subst e1;rw [Df] at h1;exact (hf r c h1 h2).1
  ·rw [Cy π r' e1] at h1;exact h.1.sub k r c h1 h2
 ·intro k r c h1 h2
  by_cases e1:k=l
  ·subst e1;rw [Df] at h1;have:=hr r c h1 h2;exact ⟨this.1,this.2.1⟩
  ·rw [Cy π r' e1] at h1;have:=h.1.place k r c h1 h2;exact ⟨this.1,Nat.lt_of_lt_of_le this.2 hg.size⟩
 ·intro l1 l2 r1 r2 c h1 h2 h3 h4
  by_cases e1:l1=l<;>by_cases e2:l2=l
  ·rw [e1,e2]
  ·subst e1
   rw [Df] at h1;rw [Cy π r' e2] at h2
   exact absurd h4 ((hr r1 c h1 h3).2.2 l2 r2 e2 h2)
  ·subst e2
   rw [Df] at h2;rw [Cy π r' e1] at h1
   exact absurd h3 ((hr r2 c h2 h4).2.2 l1 r1 e1 h1)
  ·rw [Cy π r' e1] at h1;rw [Cy π r' e2] at h2
   exact h.1.inj _ _ r1 r2 c h1 h2 h3 h4
 ·intro k hpk Ek
  have e:k≠l:= λe=>by subst e;omega
  rw [St.Uo st l k b e] at Ek
  rw [Cy π r' e]
  exact h.1.db k hpk λh0=>Ek (by rw [h0];rfl)
 ·by_cases e:k=l
  ·subst e
   exact Cx.Hc (by rw [Df];exact hb m) (St.Dq st k b)
  ·have hn:=St.Uo st l k b e
   have ho:=h.1.heap k
   cases fp:Ad st.heap k with
   |none=>rw [fp] at hn;exact Cx.Ou (by rw [Cy π r' e];exact ho.emp fp) hn
   |some c=>
    rw [fp] at hn
    refine Cx.Hc ?_ hn
    rw [Cy π r' e]
    exact (ho.Md fp).move m hg.size (λr0 c h0 h1=>h.1.sub _ r0 c h0 h1) λr0 c h0 h1 Ey=>hk _ Ey λr1 h2 h3=>e (h.1.inj _ _ r0 r1 c h0 h2 h1 (h.1.sub _ _ _ h2 h3))
 ·have hh:p6 X w' (Rl π l r') {tmps:=st.tmps.map (·.map (Bd l)),heap:=(st.new l b).heap} a:=m.GM rfl h.2
  exact hh
def Real.one (g o cap:Nat):Real:=⟨g,o,cap,λb=>b=g,λb=>b=g⟩
theorem Ak.replace {st:St} {a:Act} (h:Ak X π st a w) (l:Nat) (hl:l<Am) (r':Option Real) (b:OB)
  (hg:w.grownBy w' ((π l).map (·.g)))
  (hr: ∀r,r'=some r->r=Real.one r.g r.o r.cap/\((∃r0,π l=some r0/\r0.g=r.g)\/w.heap.size<=r.g)/\r.g<w'.heap.size)
  (hb:Move X w w' π (Rl π l r') st.heap (st.new l b).heap (Bd l)->Av X w' (Rl π l r') (st.new l b).heap r' b):Ak X (Rl π l r') (st.new l b) a w':=by
 refine h.er l hl r' b hg (λr c h1 h2=>?_) (λr c h1 h2=>?_) hb
 ·obtain ⟨h3,h4,_⟩:=hr r h1
  have h2':c=r.g:=by rw [h3] at h2;exact h2
  subst h2'
  refine ⟨by rw [h3];rfl,h4.imp (λ⟨r0,h5,h6⟩=>⟨r0,h5,h6▸h.1.Bg h5⟩) id⟩
 ·obtain ⟨h3,h4,h5⟩:=hr r h1
  have h2':c=r.g:=by rw [h3] at h2;exact h2
  subst h2'
  refine ⟨?_,h5,λm r0 hm h6 h7=>?_⟩
  ·rcases h4 with ⟨r0,h6,h7⟩|h6
   ·rw [<-h7];exact (h.1.lt h6).2
   ·exact .inl (Nat.le_trans h.1.below.size h6)
  ·rcases h4 with ⟨r1,h8,h9⟩|h8
   ·exact hm (h.1.inj m l r0 r1 r.g h6 h8 h7 (h9▸h.1.sub l r1 _ h8 (h.1.Bg h8)))
   ·have:=(h.1.place m r0 _ h6 h7).2;omega
theorem Im.drop (h:Im X w π H) {f:AC->AC} (l:Nat) (m:Move X w w π (Rl π l none) H H' f) (h0:Ad H' l=none) (hH: ∀k,k≠l->Ad H' k=(Ad H k).map (OB.map f)):Im X w (Rl π l none) H':=by
 have un: ∀k r,Rl π l none k=some r->k≠l/\π k=some r:= λk r hk=>by
  by_cases e:k=l
  ·subst e;rw [Df] at hk;cases hk
  ·rw [Cy π none e] at hk;exact ⟨e,hk⟩
 refine ⟨h.below,h.sc,λk r c h1 h2=>h.sub k r c (un k r h1).2 h2,λk r c h1 h2=>h.place k r c (un k r h1).2 h2,λl1 l2 r1 r2 c h1 h2 h3 h4=>h.inj _ _ r1 r2 c (un _ _ h1).2 (un _ _ h2).2 h3 h4,λk hp Ek=>?_,λk=>?_⟩
 ·have e:k≠l:= λe=>by subst e;exact Ek h0
  rw [hH k e] at Ek
  rw [Cy π none e]
  exact h.db k hp λh1=>Ek (by rw [h1];rfl)
 ·by_cases e:k=l
  ·subst e
   exact Cx.Ou (by rw [Df]) h0
  ·have hn:=hH k e
   have ho:=h.heap k
   cases fp:Ad H k with
   |none=>rw [fp] at hn;exact Cx.Ou (by rw [Cy π none e];exact ho.emp fp) hn
   |some c=>
    rw [fp] at hn
    refine Cx.Hc ?_ hn
    rw [Cy π none e]
    exact (ho.Md fp).move m (Nat.le_refl _) (λr0 c h0 h1=>h.sub _ r0 c h0 h1) λr0 c h0 h1 Ey=>rfl
theorem Ak.forget {st:St} {a:Act} (h:Ak X π st a w) (l:Nat):Ak X (Rl π l none) (st.forget l) a w:=by
 have m:Move X w w π (Rl π l none) st.heap (st.forget l).heap (Bd l):=
  Move.forget (Nat.le_refl _) (λ_ _ _=>rfl) (λr c hr=>by cases hr) (λm hm=>St.dK st l m hm) (λ_ _ _ _ _ _=>rfl)
 refine ⟨h.1.drop l m (St.lJ st l) λk e=>St.dK st l k e,?_⟩
 have hh:p6 X w (Rl π l none) {tmps:=st.tmps.map (·.map (Bd l)),heap:=(st.forget l).heap} a:=m.GM rfl h.2
 exact hh
theorem cellOf {w:World} {g:Nat} {cur:Array Value} {tid:TypeId} (h:w.heap[g]?=some (.cells cur tid (0,0))) (i:Nat):w.cell? ⟨g,i,none⟩=cur[i]?:=by
 simp [World.cell?,h]
theorem Jv {l off len:Nat} {v:Value} {fr tr:Bool} {e:Ty} {tid:TypeId} {xs:List e.den} (h:Dv X w π H (.own l off len) v) (hl:Ad H l=some (.arr fr tr e tid xs)):off+len<=xs.length/\Ec (π l) e.size off len v:=by
 obtain ⟨b,sz,n,h1,h0,h2,h3⟩:=h
 rw [hl] at h1;cases h1
 simp only [OB.row,Option.some.injEq,Prod.mk.injEq] at h0
 obtain ⟨rfl,rfl⟩:=h0
 exact ⟨h2,h3⟩
theorem Xy {l off len:Nat} {v:Value} {e:Ty} {tid:TypeId} {xs:List e.den} (h:Dv X w π H (.own l off len) v) (hl:Ad H l=some (.Dg e tid xs)):off+len<=xs.length/\Ec (π l) e.size off len v:=by
 obtain ⟨b,sz,n,h1,h0,h2,h3⟩:=h
 rw [hl] at h1;cases h1
 simp only [OB.row,Option.some.injEq,Prod.mk.injEq] at h0
 obtain ⟨rfl,rfl⟩:=h0
 exact ⟨h2,h3⟩
theorem FF {l off len:Nat} {v:Value} {fr tr:Bool} {e:Ty} {tid:TypeId} {xs:List e.den} (hl:Ad H l=some (.arr fr tr e tid xs)) (h1:off+len<=xs.length) (h2:Ec (π l) e.size off len v):Dv X w π H (.own l off len) v:=
 ⟨_,e.size,xs.length,hl,rfl,h1,h2⟩
theorem uT {r:Real} {off len:Nat} {v:Value} {e:Ty} {tid:TypeId} {xs:List e.den} {S:Nat->Prop} {cur:Array Value} (h2:w.heap[r.g]?=some (.cells cur tid (0,0)))
  (hlen:off+len<=xs.length) (hv:Ec (some r) e.size off len v) (hg: ¬S r.g)
  (hA: ∀(i:Nat) (x:e.den),xs[i]?=some x-> ∃es:List Value,es.length=e.size/\(∀j u,es[j]?=some u->cur[(r.o+i)*e.size+j]?=some u)/\Cells w S e es x):Cells w S (.slice e) [v] ((xs.drop off).take len):=by
 have WT:((xs.drop off).take len).length=len:=by simp;omega
 obtain ⟨ad,rfl,hc,ha⟩:=hv
 refine ⟨some ad,len,r.cap-off,rfl,WT.symm,by omega,?_⟩
 rcases Nat.eq_zero_or_pos len with h0|h0
 ·left;subst h0;simp
 ·right
  refine ⟨r.g,(r.o+off)*e.size,by rw [ha (by omega)],Dd h2,hg,λi x hx=>?_⟩
  have hi:i<len:=by
   have:=(List.getElem?_eq_some_iff.1 hx).1
   rw [WT] at this;exact this
  have hx':xs[off+i]?=some x:=by
   rw [List.getElem?_take,if_pos hi,List.getElem?_drop] at hx;exact hx
  obtain ⟨es,he,hj,wa⟩:=hA (off+i) x hx'
  refine ⟨es,he,λj u hu=>?_,wa⟩
  rw [cellOf h2]
  have:=hj j u hu
  rw [<-this]
  congr 1
  rw [<-Nat.add_assoc,Nat.add_mul (r.o+off) i]
theorem m4 {l off len:Nat} {v:Value} {fr tr:Bool} {e:Ty} {tid:TypeId} {xs:List e.den} {S:Nat->Prop} (h:Im X w π H) (hl:Ad H l=some (.arr fr tr e tid xs))
  (hlen:off+len<=xs.length) (hv:Ec (π l) e.size off len v)
  (hS: ∀k,S k->(∃r,π l=some r/\r.Bg k)->False) (hA: ∀k,k<w.heap.size->S k->Bj X.w0.heap.size X.Sc π fr k):Cells w S (.slice e) [v] ((xs.drop off).take len):=by
 have hb:=(h.heap l).Md hl
 simp only [Av,Fv] at hb
 cases hp:π l with
 |none=>
  rw [hp] at hb hv
  obtain ⟨rfl,rfl,rfl⟩:=hv
  exact ⟨none,0,0,rfl,by simp,Nat.le_refl _, .inl (by simp)⟩
 |some r=>
  rw [hp] at hb hv
  obtain ⟨h1,cur,_,h2,h3,h4,h5,h6,_⟩:=hb
  refine uT h2 hlen hv (λhs=>hS _ hs ⟨r,hp,h1.1⟩) λi x hx=>?_
  obtain ⟨es,he,hj,wa⟩:=h6 i x hx
  exact ⟨es,he,hj,Cells.Cn (Nat.le_refl _) (λ_ _ _=>rfl) hA e es x wa⟩
theorem Nq.slice {D S:Nat->Prop} {R:Option Real} {e:Ty} {x:List e.den} {u:Value} (h:Nq w D R e x) (hv:Ec R e.size 0 (List.length x) u) (hD: ∀k,S k->D k) (hg: ∀q,R=some q-> ¬S q.g):Cells w S (.slice e) [u] x:=by
 cases R with
 |none=>
  have hx:x= []:=h
  subst hx
  obtain ⟨rfl,_,_⟩:=hv
  exact ⟨none,0,0,rfl,rfl,Nat.le_refl _, .inl rfl⟩
 |some q=>
  obtain ⟨h1,cur,ti,h2,h3,h4,h5,h6⟩:=h
  obtain ⟨ad,rfl,g1,g2⟩:=hv
  refine ⟨some ad,List.length x,_,rfl,rfl,by omega,?_⟩
  rcases Nat.eq_zero_or_pos (List.length x) with hx|hx
  ·exact .inl (List.eq_nil_of_length_eq_zero hx)
  ·have RE:=g2 (by omega)
   subst RE
   refine .inr ⟨q.g,(q.o+0)*e.size,rfl,Dd h2,hg q rfl,λi y hy=>?_⟩
   obtain ⟨es,k1,k2,k3⟩:=h6 i y hy
   refine ⟨es,k1,λj u hu=>?_,Cells.Cn (Nat.le_refl _) (λ_ _ _=>rfl) (λk _ hk=>hD k hk) e es y k3⟩
   rw [cellOf h2,Nat.add_zero,<-Nat.add_mul]
   exact k2 j u hu
theorem kE {l off len:Nat} {v:Value} {e:Ty} {te:TypeId} {rows:List (List e.den)} {out:Option Nat} {kp:Option (Nat×Nat)} (h:Dv X w π H (.own l off len) v) (hl:Ad H l=some (.Al e te rows out kp)):off+len<=rows.length/\Ec (π l) 1 off len v:=by
 obtain ⟨b,sz,n,h1,h2,h3,h4⟩:=h
 rw [hl] at h1;cases h1
 simp only [OB.row,Option.some.injEq,Prod.mk.injEq] at h2
 obtain ⟨rfl,rfl⟩:=h2
 exact ⟨h3,h4⟩
theorem pN {l off len:Nat} {v:Value} {e:Ty} {te:TypeId} {rows:List (List e.den)} {kp:Option (Nat×Nat)} {S:Nat->Prop} (h:Im X w π H) (hl:Ad H l=some (.Al e te rows none kp))
  (hlen:off+len<=rows.length) (hv:Ec (π l) 1 off len v)
  (hS: ∀k,S k->(∃r,π l=some r/\r.Bg k)->False) (hA: ∀k,S k->Bj X.w0.heap.size X.Sc π false k):Cells w S (.slice (.slice e)) [v] ((rows.drop off).take len):=by
 have hb:=(h.heap l).Md hl
 simp only [Av] at hb
 have hb:=hb.1
 cases hp:π l with
 |none=>
  rw [hp] at hb hv
  have hb:rows= []:=hb
  obtain ⟨rfl,rfl,rfl⟩:=hv
  exact ⟨none,0,0,rfl,by simp,Nat.le_refl _, .inl (by simp)⟩
 |some r=>
  rw [hp] at hb hv
  obtain ⟨h1,cur,ti,h2,h3,h4,h5,Rs,h6,h7,h8,h9⟩:=hb
  obtain ⟨ad,rfl,g1,g2⟩:=hv
  refine ⟨some ad,len,_,rfl,by simp;omega,by omega,?_⟩
  rcases Nat.eq_zero_or_pos len with hx|hx
  ·subst hx;exact .inl (by simp)
  ·have RE:=g2 (by omega)
   subst RE
   refine .inr ⟨r.g,(r.o+off)*1,rfl,Dd h2,λhs=>hS _ hs ⟨r,hp,h1⟩,λi x hx=>?_⟩
   have hx:((rows.drop off).take len)[i]?=some x:=hx
   rw [List.getElem?_take] at hx
   split at hx
   ·rw [List.getElem?_drop] at hx
    obtain ⟨u,R,k1,k2,k3,k4⟩:=h9 _ x hx (by simp)
    refine ⟨[u],rfl,λj u' bE=>?_,k4.slice k3 hA λq hq hs=>hS _ hs ⟨r,hp,(h7 _ q (by rw [k2,hq])).1⟩⟩
    rcases j with _|j
    ·simp only [List.getElem?_cons_zero,Option.some.injEq] at bE
     subst bE
     rw [cellOf h2,<-k1]
     congr 1
     simp only [Ty.size];omega
    ·simp at bE
   ·cases hx
theorem yZ {l i c:Nat} {v:Value} {e:Ty} {te:TypeId} {rows:List (List e.den)} {out:Option Nat} {kp:Option (Nat×Nat)} (hv:Dv X w π H (.sub l i c) v) (hl:Ad H l=some (.Al e te rows out kp)):rows[i]?=some (rows.getD i []):=by
 obtain ⟨r,b,sz,n,h1,h0,_,h3,_⟩:=hv
 rw [hl] at h1;cases h1
 simp only [OB.cE,Option.some.injEq,Prod.mk.injEq] at h0
 obtain ⟨rfl,rfl⟩:=h0
 rw [List.getD_eq_getElem?_getD,List.getElem?_eq_getElem h3];rfl
theorem jS {l i:Nat} {e:Ty} {te:TypeId} {rows:List (List e.den)} {out:Option Nat} {kp:Option (Nat×Nat)} {r:Real} (h:Im X w π H) (hl:Ad H l=some (.Al e te rows out kp)) (hp:π l=some r) (hi:i<rows.length) (ho:out≠some i):
  ∃u R,w.cell? ⟨r.g,r.o+i,none⟩=some u/\Ec R e.size 0 (rows.getD i []).length u/\Nq w (Bj X.w0.heap.size X.Sc π false) R e (rows.getD i []):=by
 have hb:=(h.heap l).Md hl
 simp only [Av] at hb
 have hb:=hb.1
 rw [hp] at hb
 obtain ⟨h1,cur,ti,h2,h3,h4',h5',Rs,h6,h7,h8,h9⟩:=hb
 have hx:rows[i]?=some (rows.getD i []):=by rw [List.getD_eq_getElem?_getD,List.getElem?_eq_getElem hi];rfl
 obtain ⟨u,R,k1,k2,k3,k4⟩:=h9 _ _ hx ho
 exact ⟨u,R,by rw [cellOf h2];exact k1,k3,k4⟩
theorem Wj {R:Option Real} {sz off len:Nat} {u:Value} (h:Ec R sz off len u): ∃a n m,u= .slice a n m:=by
 cases R with
 |none=>exact ⟨_,_,_,h.1⟩
 |some q=>obtain ⟨ad,rfl,_⟩:=h;exact ⟨_,_,_,rfl⟩
theorem pO {l i c:Nat} {v:Value} {e:Ty} {te:TypeId} {rows:List (List e.den)} {kp:Option (Nat×Nat)} {x:List e.den} {S:Nat->Prop} (h:Im X w π H) (hl:Ad H l=some (.Al e te rows none kp)) (hx:rows[i]?=some x)
  (hv:Dv X w π H (.sub l i c) v)
  (hS: ∀k,S k->(∃r,π l=some r/\r.Bg k)->False) (hA: ∀k,S k->Bj X.w0.heap.size X.Sc π false k):Cells w S (.slice e) [v] x:=by
 obtain ⟨r,b,sz,n,h1,h0,hp,h3,⟨h4,_⟩,h5⟩:=hv
 rw [hl] at h1;cases h1
 simp only [OB.cE,Option.some.injEq,Prod.mk.injEq] at h0
 obtain ⟨rfl,rfl⟩:=h0
 have hb:=(h.heap l).Md hl
 simp only [Av] at hb
 have hb:=hb.1
 rw [hp] at hb
 obtain ⟨h1,cur,ti,h2,h3,h4',h5',Rs,h6,h7,h8,h9⟩:=hb
 obtain ⟨u,R,k1,k2,k3,k4⟩:=h9 _ x hx (by simp)
 have:c=0:=by omega
 subst this
 rw [cellOf h2,Nat.mul_one,Nat.add_zero,k1] at h5
 have hv:=Option.some.inj h5
 subst hv
 exact k4.slice k3 hA λq hq hs=>hS _ hs ⟨r,hp,(h7 _ q (by rw [k2,hq])).1⟩
theorem jj {l off len:Nat} {v:Value} {e:Ty} {tid:TypeId} {xs:List e.den} {S:Nat->Prop} (h:Im X w π H) (hl:Ad H l=some (.Dg e tid xs))
  (hlen:off+len<=xs.length) (hv:Ec (π l) e.size off len v)
  (hS: ∀k,S k->(∃r,π l=some r/\r.Bg k)->False):Cells w S (.slice e) [v] ((xs.drop off).take len):=by
 have hb:=(h.heap l).Md hl
 simp only [Av,Ji] at hb
 cases hp:π l with
 |none=>
  rw [hp] at hb hv
  obtain ⟨rfl,rfl,rfl⟩:=hv
  exact ⟨none,0,0,rfl,by simp,Nat.le_refl _, .inl (by simp)⟩
 |some r=>
  rw [hp] at hb hv
  obtain ⟨h1,cur,_,h2,h3,h4,h5,Fs,k1,k2,k3,k4⟩:=hb
  refine uT h2 hlen hv (λhs=>hS _ hs ⟨r,hp,h1⟩) λi x hx=>?_
  have hi:i<Fs.length:=by have:=(List.getElem?_eq_some_iff.1 hx).1;omega
  obtain ⟨es,he,hj,wa⟩:=k4 i x _ hx (List.getElem?_eq_getElem hi)
  exact ⟨es,he,hj,wa.cells _ _ _ _ λb hb hs=>hS b hs ⟨r,hp,k3 b (List.mem_flatten.2 ⟨_,List.getElem_mem hi,hb⟩)⟩⟩
theorem St.Mn (st:St) (l m:Nat) (fr:Bool) (e:Ty) (xs:List e.den) (h:m≠l):Ad (st.freeze l fr e xs).heap m=(Ad st.heap m).map (OB.map (Bh l fr e xs)):=by
 simp only [St.freeze,St.Gl]
 rw [Jd _ _ _ h,Kd]
theorem St.Hp (st:St) (l:Nat) (fr:Bool) (e:Ty) (xs:List e.den):Ad (st.freeze l fr e xs).heap l=none:=by
 simp only [St.freeze,St.Gl]
 exact Hy _ _
theorem pj {l:Nat} {B:Nat} {Sc:Nat->Prop} {fr:Bool} {k:Nat} (hA:Bj B Sc (Rl π l none) fr k):Bj B Sc π fr k:=by
 rcases hA with ⟨m,r,hm,hg⟩|h2
 ·by_cases gg:m=l
  ·subst gg;rw [Df] at hm;cases hm
  ·rw [Cy π none gg] at hm
   exact .inl ⟨m,r,hm,hg⟩
 ·exact .inr h2
theorem Im.let (h:Im X w π H) {l:Nat} {fr:Bool} (zd:fr=true-> ∀r,π l=some r-> ∀b,r.Bg b->X.w0.heap.size<=b) {k:Nat} (hS:Bj X.w0.heap.size X.Sc (Rl π l none) fr k) (hk: ∃r,π l=some r/\r.Bg k):False:=by
 obtain ⟨r,hr,EI⟩:=hk
 rcases hS with ⟨m,r',hm,hg⟩|hS|⟨hf,hS⟩
 ·by_cases gg:m=l
  ·subst gg;rw [Df] at hm;cases hm
  ·rw [Cy π none gg] at hm
   exact gg (h.apart hm hr hg EI)
 ·have h1:=h.sc k hS
  rcases (h.own ⟨l,r,hr,EI⟩).2 with h2|h2
  ·omega
  ·exact h1.2 h2
 ·have:=zd hf r hr k EI;omega
theorem Move.JI {l:Nat} {f:AC->AC} (hf: ∀c v,Dv X w π H c v->(∀k∈c.refs,k≠l)->f c=c)
  (hl: ∀c v,Dv X w π H c v->l∈c.refs->Dv X w (Rl π l none) H' (f c) v)
  (hH: ∀m,m≠l->Ad H' m=(Ad H m).map (OB.map f)):Move X w w π (Rl π l none) H H' f:=by
 have hc: ∀Qt τ cs x,Cells w (Bj X.w0.heap.size X.Sc π Qt) τ cs x->Cells w (Bj X.w0.heap.size X.Sc (Rl π l none) Qt) τ cs x:=
  fun Qt τ cs x hh=>Cells.Cn (Nat.le_refl _) (λ_ _ _=>rfl) (λk _ hA=>pj hA) τ cs x hh
 refine ⟨λc v za=>?_,hc⟩
 by_cases XW:l∈c.refs
 ·exact hl c v za XW
 ·rw [hf c v za λk hk e=>XW (e▸hk)]
  cases c with
  |data Qt τ x=>obtain ⟨cs,h1,h2⟩:=za;exact ⟨cs,hc _ _ _ _ h1,h2⟩
  |own k off len=>
   have Na:k≠l:= λe=>XW (by simp [AC.refs,e])
   obtain ⟨b,sz,n,h1,h0,h2,h3⟩:=za
   exact ⟨b.map f,sz,n,by rw [hH k Na,h1];rfl,by cases b<;>exact h0,h2,by rw [Cy π none Na];exact h3⟩
  |Dt k i=>
   have Na:k≠l:= λe=>XW (by simp [AC.refs,e])
   obtain ⟨r,Po,vs,h1,h2,h3⟩:=za
   exact ⟨r,Po,vs.map f,by rw [hH k Na,h1];rfl,by rw [Cy π none Na];exact h2,h3⟩
  |Fy k i=>
   have Na:k≠l:= λe=>XW (by simp [AC.refs,e])
   obtain ⟨r,b,sz,n,h1,h0,h2,h3,h4⟩:=za
   exact ⟨r,b.map f,sz,n,by rw [hH k Na,h1];rfl,by cases b<;>exact h0,h2,by rw [Cy π none Na];exact h3,h4⟩
  |sub k i c=>
   have Na:k≠l:= λe=>XW (by simp [AC.refs,e])
   obtain ⟨r,b,sz,n,h1,h0,h2,h3⟩:=za
   exact ⟨r,b.map f,sz,n,by rw [hH k Na,h1];rfl,by cases b<;>exact h0,by rw [Cy π none Na];exact h2,h3⟩
  |Fu k i c=>
   have Na:k≠l:= λe=>XW (by simp [AC.refs,e])
   obtain ⟨r,b,n,sz,g,o,len,cap,h1,h0,h2,h3⟩:=za
   exact ⟨r,b.map f,n,sz,g,o,len,cap,by rw [hH k Na,h1];rfl,by cases b<;>exact h0,by rw [Cy π none Na];exact h2,h3⟩
  |clo g Ca=>
   obtain ⟨us,h1,h2,h3⟩:=za
   refine ⟨us,h1,h2,λj p hp=>?_⟩
   obtain ⟨r,tid,vs,h4,h5,h6⟩:=h3 j p hp
   have fu:p.1≠l:= λe=>XW (by simp only [AC.refs,List.mem_map];exact ⟨p,List.mem_of_getElem? hp,e⟩)
   exact ⟨r,tid,vs.map f,by rw [hH _ fu,h4];rfl,by rw [Cy π none fu];exact h5,h6⟩
  |Gd k=>
   have Na:k≠l:= λe=>XW (by simp [AC.refs,e])
   obtain ⟨r,vt,m,h1,h2,h3⟩:=za
   exact ⟨r,vt,m,by rw [hH k Na,h1];rfl,by rw [Cy π none Na];exact h2,h3⟩
  |_=>exact za
theorem dv {l:Nat} {ls:List Nat} (h: ∀k∈ls,k≠l):ls.contains l=false:=by
 cases hc:ls.contains l with
 |false=>rfl
 |true=>exact absurd rfl (h l (by simpa using hc))
theorem dL {l:Nat} {fr:Bool} {e:Ty} {xs:List e.den} {c:AC} (h: ∀k∈c.refs,k≠l):Bh l fr e xs c=c:=by
 cases c<;>simp only [Bh]<;>first|rfl|skip
 case clo f Ca=>rw [if_neg (by rw [dv (show ∀k∈Ca.map (·.1),k≠l from h)];simp)]
 all_goals rw [if_neg (h _ (by simp [AC.refs]))]
theorem pL {l:Nat} {v:Ty} {m:ByteArray->Option v.den} {c:AC} (h: ∀k∈c.refs,k≠l):Dl l v m c=c:=by
 cases c<;>simp only [Dl]<;>first|rfl|skip
 case clo f Ca=>rw [if_neg (by rw [dv (show ∀k∈Ca.map (·.1),k≠l from h)];simp)]
 all_goals rw [if_neg (h _ (by simp [AC.refs]))]
theorem Move.freeze {l:Nat} {fr:Bool} {e:Ty} {xs:List e.den}
  (Ahd: ∀off len v,Dv X w π H (.own l off len) v->Cells w (Bj X.w0.heap.size X.Sc (Rl π l none) fr) (.slice e) [v] ((xs.drop off).take len))
  (hH: ∀m,m≠l->Ad H' m=(Ad H m).map (OB.map (Bh l fr e xs))):Move X w w π (Rl π l none) H H' (Bh l fr e xs):=by
 refine Move.JI (λc v _ h=>dL h) (λc v za hr=>?_) hH
 cases c with
 |own k off len=>
  have:k=l:=(List.mem_singleton.1 hr).symm
  subst this
  simp only [Bh,if_pos]
  exact ⟨[v],Ahd off len v za,by simp [Au,Ty.Ac]⟩
 |Dt k i=>have:k=l:=(List.mem_singleton.1 hr).symm
          subst this;simp only [Bh,if_pos];trivial
 |Fy k i=>have:k=l:=(List.mem_singleton.1 hr).symm
          subst this;simp only [Bh,if_pos];trivial
 |sub k i c=>have:k=l:=(List.mem_singleton.1 hr).symm
             subst this;simp only [Bh,if_pos];trivial
 |Fu k i c=>have:k=l:=(List.mem_singleton.1 hr).symm
            subst this;simp only [Bh,if_pos];trivial
 |Gd k=>have:k=l:=(List.mem_singleton.1 hr).symm
        subst this;simp only [Bh,if_pos];trivial
 |clo f Ca=>
  simp only [Bh]
  rw [if_pos (by simpa [AC.refs] using hr)];trivial
 |_=>simp [AC.refs] at hr
theorem Ak.freeze {st:St} {a:Act} (h:Ak X π st a w) {l:Nat} {fr:Bool} {e:Ty} {xs:List e.den}
  (hl:(∃tr tid,Ad st.heap l=some (.arr fr tr e tid xs))\/(fr=false/\ ∃tid,Ad st.heap l=some (.Dg e tid xs))):
  Ak X (Rl π l none) (st.freeze l fr e xs) a w/\Move X w w π (Rl π l none) st.heap (st.freeze l fr e xs).heap (Bh l fr e xs):=by
 have m:Move X w w π (Rl π l none) st.heap (st.freeze l fr e xs).heap (Bh l fr e xs):=by
  refine Move.freeze (λoff len v hv=>?_) (λm hm=>St.Mn st l m fr e xs hm)
  rcases hl with ⟨tr,tid,hl⟩|⟨rfl,tid,hl⟩
  ·obtain ⟨h2,h3⟩:=Jv hv hl
   refine m4 h.1 hl h2 h3 (λk hk=>?_) λk _ hk=>pj hk
   intro ⟨r,hr,EI⟩
   have hb:=(h.1.heap l).Md hl
   simp only [Av,Fv,hr] at hb
   by_cases hkg:k=r.g
   ·subst hkg
    rcases hk with ⟨m,r',hm,hg⟩|hS|⟨hf,hS⟩
    ·by_cases gg:m=l
     ·subst gg;rw [Df] at hm;cases hm
     ·rw [Cy π none gg] at hm
      exact gg (h.1.apart hm hr hg EI)
    ·have h1:=h.1.sc _ hS
     rcases (h.1.own ⟨l,r,hr,EI⟩).2 with h2|h2
     ·omega
     ·exact h1.2 h2
    ·have:=hb.1.2.2 hf;omega
   ·exact absurd (hb.1.2.1 k EI) hkg
  ·obtain ⟨h2,h3⟩:=Xy hv hl
   exact jj h.1 hl h2 h3 λk hk hr=>h.1.let (λhf=>by cases hf) hk hr
 refine ⟨⟨h.1.drop l m (St.Hp st l fr e xs) λk e'=>St.Mn st l k fr e xs e',?_⟩,m⟩
 have hh:p6 X w (Rl π l none) {tmps:=st.tmps.map (·.map (Bh l fr e xs)),heap:=(st.freeze l fr e xs).heap} a:=m.GM rfl h.2
 exact hh
theorem St.Ly (st:St) (l k:Nat) (v:Ty) (m:ByteArray->Option v.den) (h:k≠l):Ad (st.Eo l v m).heap k=(Ad st.heap k).map (OB.map (Dl l v m)):=by
 simp only [St.Eo,St.Gl]
 rw [Jd _ _ _ h,Kd]
theorem St.Nt (st:St) (l:Nat) (v:Ty) (m:ByteArray->Option v.den):Ad (st.Eo l v m).heap l=none:=by
 simp only [St.Eo,St.Gl]
 exact Hy _ _
theorem vf {r:Option Real} {v:Ty} {m:ByteArray->Option v.den} {g:Nat} {S:Nat->Prop} (h:QF w r v m) (hg:r.map (·.g)=some g) (hS: ¬S g):Cells w S (.smap v) [.map (some g)] m:=by
 obtain ⟨r',h0,h1,h2,h3⟩:=h
 rw [h0] at hg
 simp only [Option.map_some,Option.some.injEq] at hg
 subst hg
 simp only [Cells] at h3⊢
 rcases h3 with ⟨h3,_⟩|⟨g,h3,hg,_,es,clock,h4,h5,h6,h7⟩
 ·simp at h3
 ·simp only [List.cons.injEq,Value.map.injEq,Option.some.injEq,and_true] at h3
  subst h3
  refine .inr ⟨r'.g,rfl,hg,hS,es,clock,h4,h5,h6,λs y hy=>?_⟩
  obtain ⟨u,h8,h9⟩:=h7 s y hy
  exact ⟨u,h8,Cells.flat v [u] y h2.1 h9⟩
theorem Ak.Eo {st:St} {a:Act} (h:Ak X π st a w) {l:Nat} {v:Ty} {m:ByteArray->Option v.den} (hl:Ad st.heap l=some (.Qi v m)):
  Ak X (Rl π l none) (st.Eo l v m) a w/\Move X w w π (Rl π l none) st.heap (st.Eo l v m).heap (Dl l v m):=by
 have mv:Move X w w π (Rl π l none) st.heap (st.Eo l v m).heap (Dl l v m):=by
  refine Move.JI (λc u _ h=>pL h) (λc u za hr=>?_) (λk hk=>St.Ly st l k v m hk)
  cases c with
  |Gd k=>
   have:k=l:=(List.mem_singleton.1 hr).symm
   subst this
   simp only [Dl,if_pos]
   obtain ⟨r,vt,m',h1,h2,rfl⟩:=za
   exact ⟨[_],vf ((h.1.heap k).Md hl) (by rw [h2];rfl) λhS=>h.1.let (λhf=>by cases hf) hS ⟨r,h2,h.1.Bg h2⟩,by simp [Au,Ty.Ac]⟩
  |own k off len=>have:k=l:=(List.mem_singleton.1 hr).symm
                  subst this;simp only [Dl,if_pos];trivial
  |Dt k i=>have:k=l:=(List.mem_singleton.1 hr).symm
           subst this;simp only [Dl,if_pos];trivial
  |Fy k i=>have:k=l:=(List.mem_singleton.1 hr).symm
           subst this;simp only [Dl,if_pos];trivial
  |sub k i c=>have:k=l:=(List.mem_singleton.1 hr).symm
              subst this;simp only [Dl,if_pos];trivial
  |Fu k i c=>have:k=l:=(List.mem_singleton.1 hr).symm
             subst this;simp only [Dl,if_pos];trivial
  |clo f Ca=>
   simp only [Dl]
   rw [if_pos (by simpa [AC.refs] using hr)];trivial
  |_=>simp [AC.refs] at hr
 refine ⟨⟨h.1.drop l mv (St.Nt st l v m) λk e'=>St.Ly st l k v m e',?_⟩,mv⟩
 have hh:p6 X w (Rl π l none) {tmps:=st.tmps.map (·.map (Dl l v m)),heap:=(st.Eo l v m).heap} a:=mv.GM rfl h.2
 exact hh
def OB.fits:OB->OB->Prop
 | .arr _ _ e _ xs, .arr _ _ e' _ xs'=>e=e'/\xs.length<=xs'.length
 | .var _ _, .var _ _=>True
 | .Qi _ _, .Qi _ _=>True
 |_,_=>False
theorem Move.Abg {tc:Nat->Prop} {π':Pi} (hs:w.heap.size<=w'.heap.size)
  (hk: ∀k,k<w.heap.size->(∀l r,tc l->π l=some r-> ¬r.Bg k)->w'.heap[k]?=w.heap[k]?)
  (hO: ∀b,b<w.heap.size->Qj π' b->Qj π b)
  (hH: ∀m,¬tc m->Ad H' m=Ad H m/\π' m=π m) (hH': ∀m,tc m->Xc (π m) (π' m)/\ ∀b0,Ad H m=some b0-> ∃b,Ad H' m=some b/\b0.fits b)
  (hx: ∀m r,¬tc m->π m=some r->(∃b,Ad H m=some b/\b.cE≠none)->r.g<w.heap.size->w'.heap[r.g]?=w.heap[r.g]?):Move X w w' π π' H H' (λc=>c):=by
 have hc: ∀fr τ cs x,Cells w (Bj X.w0.heap.size X.Sc π fr) τ cs x->Cells w' (Bj X.w0.heap.size X.Sc π' fr) τ cs x:=by
  intro fr τ cs x h
  exact Cells.Cn hs (λk pV hn=>hk k pV λl r _ h0 h1=>hn (.inl ⟨l,r,h0,h1⟩)) (λk Ey hA=>hA.imp (hO k Ey) id) τ cs x h
 have same: ∀m r,π m=some r-> ∃r',π' m=some r'/\r.g=r'.g/\r.o=r'.o/\r.cap=r'.cap:=by
  intro m r hm
  by_cases ht:tc m
  ·have:=(hH' m ht).1
   rw [hm] at this
   cases hp:π' m with
   |none=>rw [hp] at this;exact this.elim
   |some r'=>rw [hp] at this;exact ⟨r',rfl,this.1,this.2.1,this.2.2.1⟩
  ·exact ⟨r,by rw [(hH m ht).2];exact hm,rfl,rfl,rfl⟩
 have fit: ∀m b,Ad H m=some b-> ∃b',Ad H' m=some b'/\(b'=b\/b.fits b'):=by
  intro m b hm
  by_cases ht:tc m
  ·obtain ⟨b',h1,h2⟩:=(hH' m ht).2 b hm;exact ⟨b',h1, .inr h2⟩
  ·exact ⟨b,by rw [(hH m ht).1];exact hm, .inl rfl⟩
 refine ⟨λc v h=>?_,hc⟩
 cases c with
 |data fr τ x=>obtain ⟨cs,h1,h2⟩:=h;exact ⟨cs,hc _ _ _ _ h1,h2⟩
 |own k off len=>
  obtain ⟨b,sz,n,h1,h0,h2,h3⟩:=h
  have s9:Ec (π' k) sz off len v:=by
   cases hp:π k with
   |none=>
    rw [hp] at h3
    have:π' k=none:=by
     by_cases ht:tc k
     ·have:=(hH' k ht).1
      rw [hp] at this
      cases jX:π' k with
      |none=>rfl
      |some r'=>rw [jX] at this;exact this.elim
     ·rw [(hH k ht).2];exact hp
    rw [this];exact h3
   |some r=>
    rw [hp] at h3
    obtain ⟨r',h4,h5,h6,h7⟩:=same k r hp
    rw [h4]
    unfold Ec at h3⊢
    simp only at h3⊢
    rw [<-h5,<-h6,<-h7]
    exact h3
  obtain ⟨b',h4,h5⟩:=fit k b h1
  rcases h5 with rfl|h5
  ·exact ⟨_,sz,n,h4,h0,h2,s9⟩
  ·cases b<;>cases b'<;>first|exact h5.elim|(simp [OB.row] at h0;done)|skip
   ·obtain ⟨rfl,hlen⟩:=h5
    simp only [OB.row,Option.some.injEq,Prod.mk.injEq] at h0
    obtain ⟨rfl,rfl⟩:=h0
    exact ⟨_,_,_,h4,rfl,by omega,s9⟩
 |Dt k i=>
  obtain ⟨r,tid,vs,h1,h2,h3⟩:=h
  obtain ⟨r',h4,h5,_⟩:=same k r h2
  obtain ⟨b',h6,h7⟩:=fit k _ h1
  rcases h7 with rfl|h7
  ·exact ⟨r',tid,vs,h6,h4,by rw [<-h5];exact h3⟩
  ·cases b'<;>first|exact h7.elim|exact ⟨r',_,_,h6,h4,by rw [<-h5];exact h3⟩
 |Fy k i=>
  obtain ⟨r,b,sz,n,h1,h0,h2,h3,h4⟩:=h
  obtain ⟨r',h5,h6,h7,_⟩:=same k r h3
  obtain ⟨b',h8,h9⟩:=fit k _ h1
  rcases h9 with rfl|h9
  ·exact ⟨r',_,sz,n,h8,h0,h2,h5,by rw [<-h6,<-h7];exact h4⟩
  ·cases b<;>cases b'<;>first|exact h9.elim|(simp [OB.row] at h0;done)|skip
   obtain ⟨rfl,hlen⟩:=h9
   simp only [OB.row,Option.some.injEq,Prod.mk.injEq] at h0
   obtain ⟨rfl,rfl⟩:=h0
   exact ⟨r',_,_,_,h8,rfl,by omega,h5,by rw [<-h6,<-h7];exact h4⟩
 |sub k i c=>
  obtain ⟨r,b,sz,n,h1,h0,h2,h3,h4,h5⟩:=h
  by_cases ht:tc k
  ·obtain ⟨b',h6,h7⟩:=(hH' k ht).2 _ h1
   cases b<;>first|(cases h0;done)|skip
   all_goals (cases b'<;>exact h7.elim)
  ·exact ⟨r,b,sz,n,by rw [(hH k ht).1];exact h1,h0,by rw [(hH k ht).2];exact h2,h3,h4,by rw [World.cell?_of_block (hx k r ht h2 ⟨b,h1,by rw [h0];simp⟩ (Yq h5))];exact h5⟩
 |Fu k i c=>
  obtain ⟨r,b,n,sz,g,o,len,cap,h1,h0,h2,h3,h4,h5,h6⟩:=h
  by_cases ht:tc k
  ·obtain ⟨b',h6,h7⟩:=(hH' k ht).2 _ h1
   cases b<;>first|(cases h0;done)|skip
   all_goals (cases b'<;>exact h7.elim)
  ·exact ⟨r,b,n,sz,g,o,len,cap,by rw [(hH k ht).1];exact h1,h0,by rw [(hH k ht).2];exact h2,h3,h4,by rw [World.cell?_of_block (hx k r ht h2 ⟨b,h1,by cases b<;>first|(cases h0;done)|simp [OB.cE]⟩ (Yq h5))];exact h5,h6⟩
 |clo f Ca=>
  obtain ⟨us,h1,h2,h3⟩:=h
  refine ⟨us,h1,h2,λj p hp=>?_⟩
  obtain ⟨r,tid,vs,h4,h5,h6⟩:=h3 j p hp
  obtain ⟨r',h7,h8,_⟩:=same _ r h5
  obtain ⟨b',h9,lg⟩:=fit _ _ h4
  rcases lg with rfl|lg
  ·exact ⟨r',tid,vs,h9,h7,by rw [<-h8];exact h6⟩
  ·cases b'<;>first|exact lg.elim|exact ⟨r',_,_,h9,h7,by rw [<-h8];exact h6⟩
 |Gd k=>
  obtain ⟨r,vt,m,h1,h2,h3⟩:=h
  obtain ⟨r',h4,h5,_⟩:=same k r h2
  obtain ⟨b',h6,h7⟩:=fit k _ h1
  rcases h7 with rfl|h7
  ·exact ⟨r',vt,m,h6,h4,by rw [<-h5];exact h3⟩
  ·cases b'<;>first|exact h7.elim|exact ⟨r',_,_,h6,h4,by rw [<-h5];exact h3⟩
 |_=>exact h
def Real.plus (r:Real) (N:List Nat):Real:= {r with cl:= λc=>r.cl c\/c∈N}
theorem Ak.Anw {st:St} {a:Act} (h:Ak X π st a w) {l:Nat} {b0 b:OB} (hl:Ad st.heap l=some b0) (hf:b0.fits b) {r:Real} (hr:π l=some r) {N:List Nat}
  (hN: ∀c∈N,(X.w0.heap.size<=c\/X.gv c)/\c<w.heap.size/\ ∀m r0,m≠l->π m=some r0-> ¬r0.cl c) (hg:w.grownBy w' (some r.g))
  (hb:Move X w w' π (Rl π l (some (r.plus N))) st.heap (st.Ft l b).heap (λc=>c)->Av X w' (Rl π l (some (r.plus N))) (st.Ft l b).heap (some (r.plus N)) b):Ak X (Rl π l (some (r.plus N))) (st.Ft l b) a w':=by
 have hk: ∀k,k<w.heap.size-> ¬r.Bg k->w'.heap[k]?=w.heap[k]?:= λk hk hn=>hg.block k hk (by
  intro e
  simp only [Option.some.injEq] at e
  exact hn (e▸h.1.Bg hr))
 have sa: ∀k q,Rl π l (some (r.plus N)) k=some q-> ∃q0,π k=some q0/\(q=q0\/(k=l/\q0=r/\q=r.plus N)):= λk q hq=>by
  by_cases e:k=l
  ·subst e;rw [Df] at hq;exact ⟨r,hr, .inr ⟨rfl,rfl,(Option.some.inj hq).symm⟩⟩
  ·rw [Cy π _ e] at hq;exact ⟨q,hq, .inl rfl⟩
 have cl': ∀k q q0 c,(q=q0\/(k=l/\q0=r/\q=r.plus N))->q.cl c->q0.cl c\/(k=l/\c∈N):= λk q q0 c h1 h2=>by
  rcases h1 with rfl|⟨rfl,rfl,rfl⟩
  ·exact .inl h2
  ·rcases h2 with h2|h2
   ·exact .inl h2
   ·exact .inr ⟨rfl,h2⟩
 have ft: ∀k q q0 c,(q=q0\/(k=l/\q0=r/\q=r.plus N))->(q.Bg c↔q0.Bg c):= λk q q0 c h1=>by
  rcases h1 with rfl|⟨rfl,rfl,rfl⟩<;>exact Iff.rfl
 have m:Move X w w' π (Rl π l (some (r.plus N))) st.heap (st.Ft l b).heap (λc=>c):=Move.Abg (tc:= λk=>k=l) hg.size (λk Ey hn=>hk k Ey (hn l r rfl hr)) (λc _ ⟨k,q,h1,h2⟩=>by
   obtain ⟨q0,h3,h4⟩:=sa k q h1
   exact ⟨k,q0,h3,(ft k q q0 c h4).1 h2⟩)
  (λm hm=>⟨Bv _ _ _ _ hm,Cy π _ hm⟩) (λm hm=>by subst hm;exact ⟨by rw [hr,Df];exact ⟨rfl,rfl,rfl,λ_=>Iff.rfl⟩,λb1 h1=>by rw [hl] at h1;cases h1;exact ⟨b,Cf _ _ _ _ hl,hf⟩⟩)
  (λm r' hm h1 _ Ey=>hk _ Ey λh3=>hm (h.1.apart h1 hr (h.1.Bg h1) h3))
 refine ⟨⟨?_,h.1.sc,λk q c h1 h2=>?_,λk q c h1 h2=>?_,λk k' q q' c h1 h2 h3 h4=>?_,λk hp Ek=>?_,λk=>?_⟩,?_⟩
 ·exact h.1.below.grown hg h.1.below.size λk hk=>by cases hk;exact (h.1.lt hr).2
 ·obtain ⟨q0,h3,h4⟩:=sa k q h1
  have:=h.1.sub k q0 c h3 ((ft k q q0 c h4).1 h2)
  rcases h4 with rfl|⟨rfl,rfl,rfl⟩
  ·exact this
  ·exact .inl this
 ·obtain ⟨q0,h3,h4⟩:=sa k q h1
  rcases cl' k q q0 c h4 h2 with h5|⟨_,h5⟩
  ·exact ⟨(h.1.place k q0 c h3 h5).1,Nat.lt_of_lt_of_le (h.1.place k q0 c h3 h5).2 hg.size⟩
  ·exact ⟨(hN c h5).1,Nat.lt_of_lt_of_le (hN c h5).2.1 hg.size⟩
 ·obtain ⟨q0,g1,g2⟩:=sa k q h1
  obtain ⟨q0',g3,g4⟩:=sa k' q' h2
  rcases cl' k q q0 c g2 h3 with h5|⟨h5,h6⟩<;>rcases cl' k' q' q0' c g4 h4 with h7|⟨h7,h8⟩
  ·exact h.1.inj k k' q0 q0' c g1 g3 h5 h7
  ·refine Classical.byContradiction λhn=>(hN c h8).2.2 k q0 (λe=>hn (e.trans h7.symm)) g1 h5
  ·refine Classical.byContradiction λhn=>(hN c h6).2.2 k' q0' (λe=>hn (h5.trans e.symm)) g3 h7
  ·rw [h5,h7]
 ·by_cases e:k=l
  ·subst e
   have:=h.1.db k hp (by rw [hl];simp)
   rw [hr] at this
   rw [Df]
   cases hx:X.db k with
   |none=>rw [hx] at this;exact this.elim
   |some q=>rw [hx] at this;exact this
  ·rw [Cy π _ e]
   exact h.1.db k hp λh0=>Ek (by rw [show Ad (st.Ft l b).heap k=Ad st.heap k from Bv _ _ _ _ e];exact h0)
 ·by_cases e:k=l
  ·subst e
   exact Cx.Hc (by rw [Df];exact hb m) (Cf _ _ _ _ hl)
  ·have hn:Ad (st.Ft l b).heap k=Ad st.heap k:=Bv _ _ _ _ e
   have ho:=h.1.heap k
   cases fp:Ad st.heap k with
   |none=>rw [fp] at hn;exact Cx.Ou (by rw [Cy π _ e];exact ho.emp fp) hn
   |some c=>
    rw [fp] at hn
    refine Cx.Hc ?_ hn
    rw [Cy π _ e]
    have:=(ho.Md fp).move m hg.size (λr0 c h0 h1=>h.1.sub _ r0 c h0 h1) λr0 c h0 h1 Ey=>hk _ Ey λh3=>e (h.1.inj _ _ r0 r c h0 hr h1 (h.1.sub _ _ _ hr h3))
    cases c with
    |var tid vs=>simpa [OB.map] using this
    |_=>exact this
 ·exact ⟨h.2.size,h.2.defers,λt=>by have:=m.av (h.2.tmps t);rwa [AC.map_id] at this⟩
theorem Ak.set {st:St} {a:Act} (h:Ak X π st a w) {l:Nat} {b0 b:OB} (hl:Ad st.heap l=some b0) (hf:b0.fits b)
  (hg:w.grownBy w' ((π l).map (·.g)))
  (hb:Move X w w' π π st.heap (st.Ft l b).heap (λc=>c)->Av X w' π (st.Ft l b).heap (π l) b):Ak X π (st.Ft l b) a w':=by
 have hk: ∀k,k<w.heap.size->(∀r,π l=some r-> ¬r.Bg k)->w'.heap[k]?=w.heap[k]?:= λk hk hn=>hg.block k hk (by
  intro e
  cases hp:π l with
  |none=>rw [hp] at e;cases e
  |some r=>rw [hp] at e;simp only [Option.map_some,Option.some.injEq] at e;exact hn r hp (e▸h.1.Bg hp))
 have m:Move X w w' π π st.heap (st.Ft l b).heap (λc=>c):=Move.Abg (tc:= λk=>k=l) hg.size (λk Ey hn=>hk k Ey λr hr=>hn l r rfl hr) (λ_ _ h=>h)
  (λm hm=>⟨Bv _ _ _ _ hm,rfl⟩) (λm hm=>by subst hm;exact ⟨Xc.rfl' _,λb1 h1=>by rw [hl] at h1;cases h1;exact ⟨b,Cf _ _ _ _ hl,hf⟩⟩)
  (λm r hm h1 _ Ey=>hk _ Ey λr1 h2 h3=>hm (h.1.apart h1 h2 (h.1.Bg h1) h3))
 refine ⟨⟨?_,h.1.sc,h.1.sub,λk r c h1 h2=>⟨(h.1.place k r c h1 h2).1,Nat.lt_of_lt_of_le (h.1.place k r c h1 h2).2 hg.size⟩,h.1.inj,λk hp Ek=>h.1.db k hp λh0=>Ek ?_,λk=>?_⟩,?_⟩
 ·refine h.1.below.grown hg h.1.below.size λk hk=>?_
  cases hp:π l with
  |none=>rw [hp] at hk;cases hk
  |some r=>rw [hp] at hk;simp only [Option.map_some,Option.some.injEq] at hk;rw [<-hk];exact (h.1.lt hp).2
 ·have:k≠l:= λe=>by subst e;rw [hl] at h0;cases h0
  rw [show Ad (st.Ft l b).heap k=Ad st.heap k from Bv _ _ _ _ this];exact h0
 ·by_cases e:k=l
  ·subst e
   exact Cx.Hc (hb m) (Cf _ _ _ _ hl)
  ·have hn:Ad (st.Ft l b).heap k=Ad st.heap k:=Bv _ _ _ _ e
   have ho:=h.1.heap k
   cases fp:Ad st.heap k with
   |none=>rw [fp] at hn;exact Cx.Ou (ho.emp fp) hn
   |some c=>
    rw [fp] at hn
    refine Cx.Hc ?_ hn
    have:=(ho.Md fp).move m hg.size (λr0 c h0 h1=>h.1.sub _ r0 c h0 h1) λr0 c h0 h1 Ey=>hk _ Ey λr1 h2 h3=>e (h.1.inj _ _ r0 r1 c h0 h2 h1 (h.1.sub _ _ _ h2 h3))
    cases c with
    |var tid vs=>simpa [OB.map] using this
    |_=>exact this
 ·exact ⟨h.2.size,h.2.defers,λt=>by have:=m.av (h.2.tmps t);rwa [AC.map_id] at this⟩
end
end Go.Proofs.YtfolipnappekaaaGreat
