/-
  Part 5 of the proof that the statement FnExactIsMethodSolution holds.
-/
import Derived.Test.YtebabhocakedaaaCIsMethodSolution03
namespace Go.Proofs.Ytebabhocakedaaa
open Go.RowKit
def upd (π:Pi) (l:Nat) (r:Option Real):Pi:=fun k=>if k=l then r else π k
theorem Cp (π:Pi) (l:Nat) (r:Option Real):upd π l r l=r:=by simp [upd]
theorem Co (π:Pi) {l m:Nat} (r:Option Real) (h:m≠l):upd π l r m=π m:=by simp [upd,h]
section
variable {X:Ctx} {w w':World} {π:Pi} {H H':List (Nat×OB)}
def Aq (X:Ctx) (w:World) (π:Pi) (H:List (Nat×OB)) (r:Option Real):OB→Prop
 | .arr fr tr e tid xs=>El X w π r fr tr e tid xs
 | .xarr e tid xs=>Hf w r e tid xs
 | .var tid vs=>Bef X w π H r tid vs
 | .grid e _ rows out kp=>Xt X w π r e rows out kp
 | .smp v m=>Bav w r v m
theorem Cq.blk {l:Nat} {b:OB} (h:Cq X w π H l) (hb:Ac H l=some b):Aq X w π H (π l) b:=by
 unfold Cq at h
 rw [hb] at h
 cases b<;>exact h
theorem Cq.Hb {l:Nat} {b:OB} (h:Aq X w π H (π l) b) (hb:Ac H l=some b):Cq X w π H l:=by
 unfold Cq
 rw [hb]
 cases b<;>exact h
theorem Cq.Mh {l:Nat} (h:π l=none) (hb:Ac H l=none):Cq X w π H l:=by
 unfold Cq;rw [hb];exact h
theorem Cq.emp {l:Nat} (h:Cq X w π H l) (hb:Ac H l=none):π l=none:=by
 unfold Cq at h;rw [hb] at h;exact h
theorem Aq.move {f:AC→AC} {π':Pi} (m:Move X w w' π π' H H' f) {r:Option Real} {b:OB} (h:Aq X w π H r b) (hs:w.heap.size≤w'.heap.size)
  (hsub: ∀r' c,r=some r'→r'.Av c→r'.cl c) (hk: ∀r' c,r=some r'→r'.cl c→c<w.heap.size→w'.heap[c]?=w.heap[c]?):
  Aq X w' π' H' r (b.map f):=by
 cases b with
 |arr fr tr e tid xs=>
  simp only [Aq,El,OB.map] at h⊢
  cases hr:r with
  |none=>rw [hr] at h;exact h
  |some r=>
   rw [hr] at h
   obtain ⟨h1,cur,ti,h2,h3,h4,h5,h6,h7⟩:=h
   refine ⟨h1,cur,ti,(hk r _ hr (hsub r _ hr h1.1) (Cn h2)).trans h2,h3,h4,h5,fun i x hx=>?_,fun ht=>(h7 ht).Ch hs (fun c _ hlt hc=>hk r c hr hc hlt) fun _ hb=>hb⟩
   obtain ⟨es,he,hj,hc⟩:=h6 i x hx
   exact ⟨es,he,hj,m.cells _ _ _ _ hc⟩
 |xarr e tid xs=>
  simp only [Aq,Hf,OB.map] at h⊢
  cases hr:r with
  |none=>rw [hr] at h;exact h
  |some r=>
   rw [hr] at h
   obtain ⟨h1,cur,ti,h2,h3,h4,h5,h7⟩:=h
   exact ⟨h1,cur,ti,(hk r _ hr (hsub r _ hr h1) (Cn h2)).trans h2,h3,h4,h5,h7.Ch hs (fun c _ hlt hc=>hk r c hr (hsub r c hr hc) hlt) fun _ hb=>hb⟩
 |var tid vs=>
  obtain ⟨r',h0,h1,cur,h2,h3⟩:=h
  exact ⟨r',h0,h1,cur,(hk r' _ h0 (hsub r' _ h0 h1) (Cn h2)).trans h2,m.acs h3⟩
 |grid e te rows out kp=>exact Xt.Ch h (fun q b hq hf hlt=>hk q b hq (hsub q b hq hf) hlt) (fun es x=>m.cells false e es x)
 |smp v g=>
  obtain ⟨r',h0,h1,h2,h3⟩:=h
  refine ⟨r',h0,h1,h2,?_⟩
  simp only [Cells] at h3⊢
  rcases h3 with ⟨h3,_⟩|⟨g,h3,hg,_,es,clock,h4,h5,h6,h7⟩
  ·simp at h3
  ·simp only [List.cons.injEq,Value.map.injEq,Option.some.injEq,and_true] at h3
   subst h3
   refine .inr ⟨r'.g,rfl,by omega,fun h=>h,es,clock,(hk r' _ h0 (hsub r' _ h0 h1) hg).trans h4,h5,h6,fun s y hy=>?_⟩
   obtain ⟨u,h8,h9⟩:=h7 s y hy
   exact ⟨u,h8,Cells.flat v [u] y h2.1 h9⟩
theorem Move.forget {l:Nat} {r':Option Real} (hs:w.heap.size≤w'.heap.size)
  (hk: ∀k,k<w.heap.size→(∀r,π l=some r→ ¬r.Av k)→w'.heap[k]?=w.heap[k]?)
  (hr: ∀r b,r'=some r→r.Av b→(∃r0,π l=some r0∧r0.Av b)∨w.heap.size≤b)
  (hH: ∀m,m≠l→Ac H' m=(Ac H m).map (OB.map (Aw l)))
  (hx: ∀m r,m≠l→π m=some r→(∃b,Ac H m=some b∧b.inn≠none)→r.g<w.heap.size→w'.heap[r.g]?=w.heap[r.g]?):Move X w w' π (upd π l r') H H' (Aw l):=by
 have hc: ∀fr τ cs x,Cells w (Bb X.w0.heap.size X.Sc π fr) τ cs x→Cells w' (Bb X.w0.heap.size X.Sc (upd π l r') fr) τ cs x:=by
  intro fr τ cs x h
  refine Cells.Ch hs (fun k hk' hn=>hk k hk' fun r h0 h1=>hn (.inl ⟨l,r,h0,h1⟩)) (fun k hk' hA=>?_) τ cs x h
  rcases hA with ⟨m,r,hm,hg⟩|h2
  ·by_cases hml:m=l
   ·subst hml
    rw [Cp] at hm
    rcases hr r k hm hg with ⟨r0,h0,h1⟩|h1
    ·exact .inl ⟨m,r0,h0,h1⟩
    ·omega
   ·rw [Co π r' hml] at hm
    exact .inl ⟨m,r,hm,hg⟩
  ·exact .inr h2
 refine ⟨fun c v h=>?_,hc⟩
 cases c with
 |data fr τ x=>obtain ⟨cs,h1,h2⟩:=h;exact ⟨cs,hc _ _ _ _ h1,h2⟩
 |own k off len=>
  simp only [Aw]
  split
  ·trivial
  ·rename_i hkl
   obtain ⟨b,sz,n,h1,h0,h2,h3⟩:=h
   exact ⟨b.map (Aw l),sz,n,by rw [hH k hkl,h1];rfl,by cases b<;>exact h0,h2,by rw [Co π r' hkl];exact h3⟩
 |vptr k i=>
  simp only [Aw]
  split
  ·trivial
  ·rename_i hkl
   obtain ⟨r,tid,vs,h1,h2,h3⟩:=h
   exact ⟨r,tid,vs.map (Aw l),by rw [hH k hkl,h1];rfl,by rw [Co π r' hkl];exact h2,h3⟩
 |eptr k i=>
  simp only [Aw]
  split
  ·trivial
  ·rename_i hkl
   obtain ⟨r,b,sz,n,h1,h0,h2,h3,h4⟩:=h
   exact ⟨r,b.map (Aw l),sz,n,by rw [hH k hkl,h1];rfl,by cases b<;>exact h0,h2,by rw [Co π r' hkl];exact h3,h4⟩
 |sub k i c=>
  simp only [Aw]
  split
  ·trivial
  ·rename_i hkl
   obtain ⟨r,b,sz,n,h1,h0,h2,h3,h4,h5⟩:=h
   exact ⟨r,b.map (Aw l),sz,n,by rw [hH k hkl,h1];rfl,by cases b<;>exact h0,by rw [Co π r' hkl];exact h2,h3,h4,by rw [World.cell?_of_block (hx k r hkl h2 ⟨b,h1,by rw [h0];simp⟩ (Ry h5))];exact h5⟩
 |sptr k i c=>
  simp only [Aw]
  split
  ·trivial
  ·rename_i hkl
   obtain ⟨r,b,n,sz,g,o,len,cap,h1,h0,h2,h3,h4,h5,h6⟩:=h
   exact ⟨r,b.map (Aw l),n,sz,g,o,len,cap,by rw [hH k hkl,h1];rfl,by cases b<;>exact h0,by rw [Co π r' hkl];exact h2,h3,h4,by rw [World.cell?_of_block (hx k r hkl h2 ⟨b,h1,by cases b<;>first|(cases h0;done)|simp [OB.inn]⟩ (Ry h5))];exact h5,h6⟩
 |clo f caps=>
  simp only [Aw]
  split
  ·trivial
  ·rename_i hkl
   obtain ⟨us,h1,h2,h3⟩:=h
   refine ⟨us,h1,h2,fun j p hp=>?_⟩
   obtain ⟨r,tid,vs,h4,h5,h6⟩:=h3 j p hp
   have hpl:p.1≠l:=fun e=>hkl (by simp only [List.contains_iff_mem,List.mem_map];exact ⟨p,List.mem_of_getElem? hp,e⟩)
   exact ⟨r,tid,vs.map (Aw l),by rw [hH _ hpl,h4];rfl,by rw [Co π r' hpl];exact h5,h6⟩
 |mapr k=>
  simp only [Aw]
  split
  ·trivial
  ·rename_i hkl
   obtain ⟨r,vt,m,h1,h2,h3⟩:=h
   exact ⟨r,vt,m,by rw [hH k hkl,h1];rfl,by rw [Co π r' hkl];exact h2,h3⟩
 |_=>exact h
theorem St.Ot (st:St) (l m:Nat) (b:OB) (h:m≠l):Ac (st.new l b).heap m=(Ac st.heap m).map (OB.map (Aw l)):=by
 simp only [St.new,St.forget,St.Fc]
 rw [Ic _ _ _ _ h,Gy _ _ _ h,Hw]
theorem St.Cy (st:St) (l:Nat) (b:OB):Ac (st.new l b).heap l=some b:=by
 simp only [St.new,St.forget,St.Fc]
 exact Jc _ _ _ (Ge _ _)
theorem St.Yr (st:St) (l m:Nat) (h:m≠l):Ac (st.forget l).heap m=(Ac st.heap m).map (OB.map (Aw l)):=by
 simp only [St.forget,St.Fc]
 rw [Gy _ _ _ h,Hw]
theorem St.Afd (st:St) (l:Nat):Ac (st.forget l).heap l=none:=by
 simp only [St.forget,St.Fc]
 exact Ge _ _
theorem Af.Zk {st:St} {a:Act} (h:Af X π st a w) (l:Nat) (hl:l<Ag) (r':Option Real) (b:OB)
  (hg:w.grownBy w' ((π l).map (·.g)))
  (hf: ∀r b,r'=some r→r.Av b→r.cl b∧((∃r0,π l=some r0∧r0.Av b)∨w.heap.size≤b))
  (hr: ∀r b,r'=some r→r.cl b→(X.w0.heap.size≤b∨X.gv b)∧b<w'.heap.size∧ ∀m r0,m≠l→π m=some r0→ ¬r0.cl b)
  (hb:Move X w w' π (upd π l r') st.heap (st.new l b).heap (Aw l)→Aq X w' (upd π l r') (st.new l b).heap r' b):Af X (upd π l r') (st.new l b) a w':=by
 have hk: ∀k,k<w.heap.size→(∀r,π l=some r→ ¬r.Av k)→w'.heap[k]?=w.heap[k]?:=fun k hk hn=>hg.block k hk (by
  intro e
  cases hp:π l with
  |none=>rw [hp] at e;cases e
  |some r=>rw [hp] at e;simp only [Option.map_some,Option.some.injEq] at e;exact hn r hp (e▸h.1.Av hp))
 have m:Move X w w' π (upd π l r') st.heap (st.new l b).heap (Aw l):=Move.forget hg.size hk (fun r c h1 h2=>(hf r c h1 h2).2) (fun m hm=>St.Ot st l m b hm)
  (fun m r hm h1 _ hlt=>hk _ hlt fun r1 h2 h3=>hm (h.1.apart h1 h2 (h.1.Av h1) h3))
 refine ⟨⟨?_,h.1.sc,?_,?_,?_,?_,fun k=>?_⟩,?_⟩
 ·refine h.1.below.grown hg h.1.below.size fun k hk=>?_
  cases hp:π l with
  |none=>rw [hp] at hk;cases hk
  |some r=>rw [hp] at hk;simp only [Option.map_some,Option.some.injEq] at hk;rw [←hk];exact (h.1.lt hp).2
 ·intro k r c h1 h2
  by_cases e1:k=l
  ·subst e1;rw [Cp] at h1;exact (hf r c h1 h2).1
  ·rw [Co π r' e1] at h1;exact h.1.sub k r c h1 h2
 ·intro k r c h1 h2
  by_cases e1:k=l
  ·subst e1;rw [Cp] at h1;have:=hr r c h1 h2;exact ⟨this.1,this.2.1⟩
  ·rw [Co π r' e1] at h1;have:=h.1.place k r c h1 h2;exact ⟨this.1,Nat.lt_of_lt_of_le this.2 hg.size⟩
 ·intro l1 l2 r1 r2 c h1 h2 h3 h4
  by_cases e1:l1=l<;>by_cases e2:l2=l
  ·rw [e1,e2]
  ·subst e1
   rw [Cp] at h1;rw [Co π r' e2] at h2
   exact absurd h4 ((hr r1 c h1 h3).2.2 l2 r2 e2 h2)
  ·subst e2
   rw [Cp] at h2;rw [Co π r' e1] at h1
   exact absurd h3 ((hr r2 c h2 h4).2.2 l1 r1 e1 h1)
  ·rw [Co π r' e1] at h1;rw [Co π r' e2] at h2
   exact h.1.inj _ _ r1 r2 c h1 h2 h3 h4
 ·intro k hpk hne
  have e:k≠l:=fun e=>by subst e;omega
  rw [St.Ot st l k b e] at hne
  rw [Co π r' e]
  exact h.1.pin k hpk fun h0=>hne (by rw [h0];rfl)
 ·by_cases e:k=l
  ·subst e
   exact Cq.Hb (by rw [Cp];exact hb m) (St.Cy st k b)
  ·have hn:=St.Ot st l k b e
   have ho:=h.1.heap k
   cases hgk:Ac st.heap k with
   |none=>rw [hgk] at hn;exact Cq.Mh (by rw [Co π r' e];exact ho.emp hgk) hn
   |some c=>
    rw [hgk] at hn
    refine Cq.Hb ?_ hn
    rw [Co π r' e]
    exact (ho.blk hgk).move m hg.size (fun r0 c h0 h1=>h.1.sub _ r0 c h0 h1) fun r0 c h0 h1 hlt=>hk _ hlt fun r1 h2 h3=>e (h.1.inj _ _ r0 r1 c h0 h2 h1 (h.1.sub _ _ _ h2 h3))
 ·have hh:Ai9 X w' (upd π l r') {tmps:=st.tmps.map (·.map (Aw l)),heap:=(st.new l b).heap} a:=m.Awo rfl h.2
  exact hh
def Real.one (g o cap:Nat):Real:=⟨g,o,cap,fun b=>b=g,fun b=>b=g⟩
theorem Af.replace {st:St} {a:Act} (h:Af X π st a w) (l:Nat) (hl:l<Ag) (r':Option Real) (b:OB)
  (hg:w.grownBy w' ((π l).map (·.g)))
  (hr: ∀r,r'=some r→r=Real.one r.g r.o r.cap∧((∃r0,π l=some r0∧r0.g=r.g)∨w.heap.size≤r.g)∧r.g<w'.heap.size)
  (hb:Move X w w' π (upd π l r') st.heap (st.new l b).heap (Aw l)→Aq X w' (upd π l r') (st.new l b).heap r' b):Af X (upd π l r') (st.new l b) a w':=by
 refine h.Zk l hl r' b hg (fun r c h1 h2=>?_) (fun r c h1 h2=>?_) hb
 ·obtain ⟨h3,h4,_⟩:=hr r h1
  have h2':c=r.g:=by rw [h3] at h2;exact h2
  subst h2'
  refine ⟨by rw [h3];rfl,h4.imp (fun ⟨r0,h5,h6⟩=>⟨r0,h5,h6▸h.1.Av h5⟩) id⟩
 ·obtain ⟨h3,h4,h5⟩:=hr r h1
  have h2':c=r.g:=by rw [h3] at h2;exact h2
  subst h2'
  refine ⟨?_,h5,fun m r0 hm h6 h7=>?_⟩
  ·rcases h4 with ⟨r0,h6,h7⟩|h6
   ·rw [←h7];exact (h.1.lt h6).2
   ·exact .inl (Nat.le_trans h.1.below.size h6)
  ·rcases h4 with ⟨r1,h8,h9⟩|h8
   ·exact hm (h.1.inj m l r0 r1 r.g h6 h8 h7 (h9▸h.1.sub l r1 _ h8 (h.1.Av h8)))
   ·have:=(h.1.place m r0 _ h6 h7).2;omega
theorem Gj.drop (h:Gj X w π H) {f:AC→AC} (l:Nat) (m:Move X w w π (upd π l none) H H' f) (h0:Ac H' l=none) (hH: ∀k,k≠l→Ac H' k=(Ac H k).map (OB.map f)):Gj X w (upd π l none) H':=by
 have un: ∀k r,upd π l none k=some r→k≠l∧π k=some r:=fun k r hk=>by
  by_cases e:k=l
  ·subst e;rw [Cp] at hk;cases hk
  ·rw [Co π none e] at hk;exact ⟨e,hk⟩
 refine ⟨h.below,h.sc,fun k r c h1 h2=>h.sub k r c (un k r h1).2 h2,fun k r c h1 h2=>h.place k r c (un k r h1).2 h2,fun l1 l2 r1 r2 c h1 h2 h3 h4=>h.inj _ _ r1 r2 c (un _ _ h1).2 (un _ _ h2).2 h3 h4,fun k hp hne=>?_,fun k=>?_⟩
 ·have e:k≠l:=fun e=>by subst e;exact hne h0
  rw [hH k e] at hne
  rw [Co π none e]
  exact h.pin k hp fun h1=>hne (by rw [h1];rfl)
 ·by_cases e:k=l
  ·subst e
   exact Cq.Mh (by rw [Cp]) h0
  ·have hn:=hH k e
   have ho:=h.heap k
   cases hgk:Ac H k with
   |none=>rw [hgk] at hn;exact Cq.Mh (by rw [Co π none e];exact ho.emp hgk) hn
   |some c=>
    rw [hgk] at hn
    refine Cq.Hb ?_ hn
    rw [Co π none e]
    exact (ho.blk hgk).move m (Nat.le_refl _) (fun r0 c h0 h1=>h.sub _ r0 c h0 h1) fun r0 c h0 h1 hlt=>rfl
theorem Af.forget {st:St} {a:Act} (h:Af X π st a w) (l:Nat):Af X (upd π l none) (st.forget l) a w:=by
 have m:Move X w w π (upd π l none) st.heap (st.forget l).heap (Aw l):=
  Move.forget (Nat.le_refl _) (fun _ _ _=>rfl) (fun r c hr=>by cases hr) (fun m hm=>St.Yr st l m hm) (fun _ _ _ _ _ _=>rfl)
 refine ⟨h.1.drop l m (St.Afd st l) fun k e=>St.Yr st l k e,?_⟩
 have hh:Ai9 X w (upd π l none) {tmps:=st.tmps.map (·.map (Aw l)),heap:=(st.forget l).heap} a:=m.Awo rfl h.2
 exact hh
theorem cellOf {w:World} {g:Nat} {cur:Array Value} {tid:TypeId} (h:w.heap[g]?=some (.cells cur tid (0,0))) (i:Nat):w.cell? ⟨g,i,none⟩=cur[i]?:=by
 simp [World.cell?,h]
theorem Ht {l off len:Nat} {v:Value} {fr tr:Bool} {e:Ty} {tid:TypeId} {xs:List e.den} (h:Df X w π H (.own l off len) v) (hl:Ac H l=some (.arr fr tr e tid xs)):off+len≤xs.length∧De (π l) e.size off len v:=by
 obtain ⟨b,sz,n,h1,h0,h2,h3⟩:=h
 rw [hl] at h1;cases h1
 simp only [OB.row,Option.some.injEq,Prod.mk.injEq] at h0
 obtain ⟨rfl,rfl⟩:=h0
 exact ⟨h2,h3⟩
theorem Ro {l off len:Nat} {v:Value} {e:Ty} {tid:TypeId} {xs:List e.den} (h:Df X w π H (.own l off len) v) (hl:Ac H l=some (.xarr e tid xs)):off+len≤xs.length∧De (π l) e.size off len v:=by
 obtain ⟨b,sz,n,h1,h0,h2,h3⟩:=h
 rw [hl] at h1;cases h1
 simp only [OB.row,Option.some.injEq,Prod.mk.injEq] at h0
 obtain ⟨rfl,rfl⟩:=h0
 exact ⟨h2,h3⟩
theorem Avz {l off len:Nat} {v:Value} {fr tr:Bool} {e:Ty} {tid:TypeId} {xs:List e.den} (hl:Ac H l=some (.arr fr tr e tid xs)) (h1:off+len≤xs.length) (h2:De (π l) e.size off len v):Df X w π H (.own l off len) v:=
 ⟨_,e.size,xs.length,hl,rfl,h1,h2⟩
theorem Anq {r:Real} {off len:Nat} {v:Value} {e:Ty} {tid:TypeId} {xs:List e.den} {S:Nat→Prop} {cur:Array Value} (h2:w.heap[r.g]?=some (.cells cur tid (0,0)))
  (hlen:off+len≤xs.length) (hv:De (some r) e.size off len v) (hg: ¬S r.g)
  (hA: ∀(i:Nat) (x:e.den),xs[i]?=some x→ ∃es:List Value,es.length=e.size∧(∀j u,es[j]?=some u→cur[(r.o+i)*e.size+j]?=some u)∧Cells w S e es x):Cells w S (.slice e) [v] ((xs.drop off).take len):=by
 have hll:((xs.drop off).take len).length=len:=by simp;omega
 obtain ⟨ad,rfl,hc,ha⟩:=hv
 refine ⟨some ad,len,r.cap-off,rfl,hll.symm,by omega,?_⟩
 rcases Nat.eq_zero_or_pos len with h0|h0
 ·left;subst h0;simp
 ·right
  refine ⟨r.g,(r.o+off)*e.size,by rw [ha (by omega)],Cn h2,hg,fun i x hx=>?_⟩
  have hi:i<len:=by
   have:=(List.getElem?_eq_some_iff.1 hx).1
   rw [hll] at this;exact this
  have hx':xs[off+i]?=some x:=by
   rw [List.getElem?_take,if_pos hi,List.getElem?_drop] at hx;exact hx
  obtain ⟨es,he,hj,hcs⟩:=hA (off+i) x hx'
  refine ⟨es,he,fun j u hu=>?_,hcs⟩
  rw [cellOf h2]
  have:=hj j u hu
  rw [←this]
  congr 1
  rw [←Nat.add_assoc,Nat.add_mul (r.o+off) i]
theorem Afu {l off len:Nat} {v:Value} {fr tr:Bool} {e:Ty} {tid:TypeId} {xs:List e.den} {S:Nat→Prop} (h:Gj X w π H) (hl:Ac H l=some (.arr fr tr e tid xs))
  (hlen:off+len≤xs.length) (hv:De (π l) e.size off len v)
  (hS: ∀k,S k→(∃r,π l=some r∧r.Av k)→False) (hA: ∀k,k<w.heap.size→S k→Bb X.w0.heap.size X.Sc π fr k):Cells w S (.slice e) [v] ((xs.drop off).take len):=by
 have hb:=(h.heap l).blk hl
 simp only [Aq,El] at hb
 cases hp:π l with
 |none=>
  rw [hp] at hb hv
  obtain ⟨rfl,rfl,rfl⟩:=hv
  exact ⟨none,0,0,rfl,by simp,Nat.le_refl _, .inl (by simp)⟩
 |some r=>
  rw [hp] at hb hv
  obtain ⟨h1,cur,_,h2,h3,h4,h5,h6,_⟩:=hb
  refine Anq h2 hlen hv (fun hs=>hS _ hs ⟨r,hp,h1.1⟩) fun i x hx=>?_
  obtain ⟨es,he,hj,hcs⟩:=h6 i x hx
  exact ⟨es,he,hj,Cells.Ch (Nat.le_refl _) (fun _ _ _=>rfl) hA e es x hcs⟩
theorem Kf.slice {D S:Nat→Prop} {R:Option Real} {e:Ty} {x:List e.den} {u:Value} (h:Kf w D R e x) (hv:De R e.size 0 (List.length x) u) (hD: ∀k,S k→D k) (hg: ∀q,R=some q→ ¬S q.g):Cells w S (.slice e) [u] x:=by
 cases R with
 |none=>
  have hx:x= []:=h
  subst hx
  obtain ⟨rfl,_,_⟩:=hv
  exact ⟨none,0,0,rfl,rfl,Nat.le_refl _, .inl rfl⟩
 |some q=>
  obtain ⟨h1,cur,ti,h2,h3,h4,h5,h6⟩:=h
  obtain ⟨ad,rfl,g1,g2⟩:=hv
  refine ⟨some ad,List.length x,_,rfl,rfl,by omega,?_⟩
  rcases Nat.eq_zero_or_pos (List.length x) with hx|hx
  ·exact .inl (List.eq_nil_of_length_eq_zero hx)
  ·have had:=g2 (by omega)
   subst had
   refine .inr ⟨q.g,(q.o+0)*e.size,rfl,Cn h2,hg q rfl,fun i y hy=>?_⟩
   obtain ⟨es,k1,k2,k3⟩:=h6 i y hy
   refine ⟨es,k1,fun j u hu=>?_,Cells.Ch (Nat.le_refl _) (fun _ _ _=>rfl) (fun k _ hk=>hD k hk) e es y k3⟩
   rw [cellOf h2,Nat.add_zero,←Nat.add_mul]
   exact k2 j u hu
theorem Aeh {l off len:Nat} {v:Value} {e:Ty} {te:TypeId} {rows:List (List e.den)} {out:Option Nat} {kp:Option (Nat×Nat)} (h:Df X w π H (.own l off len) v) (hl:Ac H l=some (.grid e te rows out kp)):off+len≤rows.length∧De (π l) 1 off len v:=by
 obtain ⟨b,sz,n,h1,h2,h3,h4⟩:=h
 rw [hl] at h1;cases h1
 simp only [OB.row,Option.some.injEq,Prod.mk.injEq] at h2
 obtain ⟨rfl,rfl⟩:=h2
 exact ⟨h3,h4⟩
theorem Aj2 {l off len:Nat} {v:Value} {e:Ty} {te:TypeId} {rows:List (List e.den)} {kp:Option (Nat×Nat)} {S:Nat→Prop} (h:Gj X w π H) (hl:Ac H l=some (.grid e te rows none kp))
  (hlen:off+len≤rows.length) (hv:De (π l) 1 off len v)
  (hS: ∀k,S k→(∃r,π l=some r∧r.Av k)→False) (hA: ∀k,S k→Bb X.w0.heap.size X.Sc π false k):Cells w S (.slice (.slice e)) [v] ((rows.drop off).take len):=by
 have hb:=(h.heap l).blk hl
 simp only [Aq] at hb
 have hb:=hb.1
 cases hp:π l with
 |none=>
  rw [hp] at hb hv
  have hb:rows= []:=hb
  obtain ⟨rfl,rfl,rfl⟩:=hv
  exact ⟨none,0,0,rfl,by simp,Nat.le_refl _, .inl (by simp)⟩
 |some r=>
  rw [hp] at hb hv
  obtain ⟨h1,cur,ti,h2,h3,h4,h5,Rs,h6,h7,h8,h9⟩:=hb
  obtain ⟨ad,rfl,g1,g2⟩:=hv
  refine ⟨some ad,len,_,rfl,by simp;omega,by omega,?_⟩
  rcases Nat.eq_zero_or_pos len with hx|hx
  ·subst hx;exact .inl (by simp)
  ·have had:=g2 (by omega)
   subst had
   refine .inr ⟨r.g,(r.o+off)*1,rfl,Cn h2,fun hs=>hS _ hs ⟨r,hp,h1⟩,fun i x hx=>?_⟩
   have hx:((rows.drop off).take len)[i]?=some x:=hx
   rw [List.getElem?_take] at hx
   split at hx
   ·rw [List.getElem?_drop] at hx
    obtain ⟨u,R,k1,k2,k3,k4⟩:=h9 _ x hx (by simp)
    refine ⟨[u],rfl,fun j u' hu'=>?_,k4.slice k3 hA fun q hq hs=>hS _ hs ⟨r,hp,(h7 _ q (by rw [k2,hq])).1⟩⟩
    rcases j with _|j
    ·simp only [List.getElem?_cons_zero,Option.some.injEq] at hu'
     subst hu'
     rw [cellOf h2,←k1]
     congr 1
     simp only [Ty.size];omega
    ·simp at hu'
   ·cases hx
theorem Asb {l i c:Nat} {v:Value} {e:Ty} {te:TypeId} {rows:List (List e.den)} {out:Option Nat} {kp:Option (Nat×Nat)} (hv:Df X w π H (.sub l i c) v) (hl:Ac H l=some (.grid e te rows out kp)):rows[i]?=some (rows.getD i []):=by
 obtain ⟨r,b,sz,n,h1,h0,_,h3,_⟩:=hv
 rw [hl] at h1;cases h1
 simp only [OB.inn,Option.some.injEq,Prod.mk.injEq] at h0
 obtain ⟨rfl,rfl⟩:=h0
 rw [List.getD_eq_getElem?_getD,List.getElem?_eq_getElem h3];rfl
theorem Adw {l i:Nat} {e:Ty} {te:TypeId} {rows:List (List e.den)} {out:Option Nat} {kp:Option (Nat×Nat)} {r:Real} (h:Gj X w π H) (hl:Ac H l=some (.grid e te rows out kp)) (hp:π l=some r) (hi:i<rows.length) (ho:out≠some i):
  ∃u R,w.cell? ⟨r.g,r.o+i,none⟩=some u∧De R e.size 0 (rows.getD i []).length u∧Kf w (Bb X.w0.heap.size X.Sc π false) R e (rows.getD i []):=by
 have hb:=(h.heap l).blk hl
 simp only [Aq] at hb
 have hb:=hb.1
 rw [hp] at hb
 obtain ⟨h1,cur,ti,h2,h3,h4',h5',Rs,h6,h7,h8,h9⟩:=hb
 have hx:rows[i]?=some (rows.getD i []):=by rw [List.getD_eq_getElem?_getD,List.getElem?_eq_getElem hi];rfl
 obtain ⟨u,R,k1,k2,k3,k4⟩:=h9 _ _ hx ho
 exact ⟨u,R,by rw [cellOf h2];exact k1,k3,k4⟩
theorem Qb {R:Option Real} {sz off len:Nat} {u:Value} (h:De R sz off len u): ∃a n m,u= .slice a n m:=by
 cases R with
 |none=>exact ⟨_,_,_,h.1⟩
 |some q=>obtain ⟨ad,rfl,_⟩:=h;exact ⟨_,_,_,rfl⟩
theorem Aj3 {l i c:Nat} {v:Value} {e:Ty} {te:TypeId} {rows:List (List e.den)} {kp:Option (Nat×Nat)} {x:List e.den} {S:Nat→Prop} (h:Gj X w π H) (hl:Ac H l=some (.grid e te rows none kp)) (hx:rows[i]?=some x)
  (hv:Df X w π H (.sub l i c) v)
  (hS: ∀k,S k→(∃r,π l=some r∧r.Av k)→False) (hA: ∀k,S k→Bb X.w0.heap.size X.Sc π false k):Cells w S (.slice e) [v] x:=by
 obtain ⟨r,b,sz,n,h1,h0,hp,h3,⟨h4,_⟩,h5⟩:=hv
 rw [hl] at h1;cases h1
 simp only [OB.inn,Option.some.injEq,Prod.mk.injEq] at h0
 obtain ⟨rfl,rfl⟩:=h0
 have hb:=(h.heap l).blk hl
 simp only [Aq] at hb
 have hb:=hb.1
 rw [hp] at hb
 obtain ⟨h1,cur,ti,h2,h3,h4',h5',Rs,h6,h7,h8,h9⟩:=hb
 obtain ⟨u,R,k1,k2,k3,k4⟩:=h9 _ x hx (by simp)
 have:c=0:=by omega
 subst this
 rw [cellOf h2,Nat.mul_one,Nat.add_zero,k1] at h5
 have hv:=Option.some.inj h5
 subst hv
 exact k4.slice k3 hA fun q hq hs=>hS _ hs ⟨r,hp,(h7 _ q (by rw [k2,hq])).1⟩
theorem Ad3 {l off len:Nat} {v:Value} {e:Ty} {tid:TypeId} {xs:List e.den} {S:Nat→Prop} (h:Gj X w π H) (hl:Ac H l=some (.xarr e tid xs))
  (hlen:off+len≤xs.length) (hv:De (π l) e.size off len v)
  (hS: ∀k,S k→(∃r,π l=some r∧r.Av k)→False):Cells w S (.slice e) [v] ((xs.drop off).take len):=by
 have hb:=(h.heap l).blk hl
 simp only [Aq,Hf] at hb
 cases hp:π l with
 |none=>
  rw [hp] at hb hv
  obtain ⟨rfl,rfl,rfl⟩:=hv
  exact ⟨none,0,0,rfl,by simp,Nat.le_refl _, .inl (by simp)⟩
 |some r=>
  rw [hp] at hb hv
  obtain ⟨h1,cur,_,h2,h3,h4,h5,Fs,k1,k2,k3,k4⟩:=hb
  refine Anq h2 hlen hv (fun hs=>hS _ hs ⟨r,hp,h1⟩) fun i x hx=>?_
  have hi:i<Fs.length:=by have:=(List.getElem?_eq_some_iff.1 hx).1;omega
  obtain ⟨es,he,hj,hcs⟩:=k4 i x _ hx (List.getElem?_eq_getElem hi)
  exact ⟨es,he,hj,hcs.cells _ _ _ _ fun b hb hs=>hS b hs ⟨r,hp,k3 b (List.mem_flatten.2 ⟨_,List.getElem_mem hi,hb⟩)⟩⟩
theorem St.Jq (st:St) (l m:Nat) (fr:Bool) (e:Ty) (xs:List e.den) (h:m≠l):Ac (st.freeze l fr e xs).heap m=(Ac st.heap m).map (OB.map (Ax l fr e xs)):=by
 simp only [St.freeze,St.Fc]
 rw [Gy _ _ _ h,Hw]
theorem St.Fy (st:St) (l:Nat) (fr:Bool) (e:Ty) (xs:List e.den):Ac (st.freeze l fr e xs).heap l=none:=by
 simp only [St.freeze,St.Fc]
 exact Ge _ _
theorem Ail {l:Nat} {B:Nat} {Sc:Nat→Prop} {fr:Bool} {k:Nat} (hA:Bb B Sc (upd π l none) fr k):Bb B Sc π fr k:=by
 rcases hA with ⟨m,r,hm,hg⟩|h2
 ·by_cases hml:m=l
  ·subst hml;rw [Cp] at hm;cases hm
  ·rw [Co π none hml] at hm
   exact .inl ⟨m,r,hm,hg⟩
 ·exact .inr h2
theorem Gj.let (h:Gj X w π H) {l:Nat} {fr:Bool} (hfr:fr=true→ ∀r,π l=some r→ ∀b,r.Av b→X.w0.heap.size≤b) {k:Nat} (hS:Bb X.w0.heap.size X.Sc (upd π l none) fr k) (hk: ∃r,π l=some r∧r.Av k):False:=by
 obtain ⟨r,hr,hrk⟩:=hk
 rcases hS with ⟨m,r',hm,hg⟩|hS|⟨hf,hS⟩
 ·by_cases hml:m=l
  ·subst hml;rw [Cp] at hm;cases hm
  ·rw [Co π none hml] at hm
   exact hml (h.apart hm hr hg hrk)
 ·have h1:=h.sc k hS
  rcases (h.own ⟨l,r,hr,hrk⟩).2 with h2|h2
  ·omega
  ·exact h1.2 h2
 ·have:=hfr hf r hr k hrk;omega
theorem Move.Axy {l:Nat} {f:AC→AC} (hf: ∀c v,Df X w π H c v→(∀k∈c.refs,k≠l)→f c=c)
  (hl: ∀c v,Df X w π H c v→l∈c.refs→Df X w (upd π l none) H' (f c) v)
  (hH: ∀m,m≠l→Ac H' m=(Ac H m).map (OB.map f)):Move X w w π (upd π l none) H H' f:=by
 have hc: ∀fr' τ cs x,Cells w (Bb X.w0.heap.size X.Sc π fr') τ cs x→Cells w (Bb X.w0.heap.size X.Sc (upd π l none) fr') τ cs x:=
  fun fr' τ cs x hh=>Cells.Ch (Nat.le_refl _) (fun _ _ _=>rfl) (fun k _ hA=>Ail hA) τ cs x hh
 refine ⟨fun c v hcv=>?_,hc⟩
 by_cases hlr:l∈c.refs
 ·exact hl c v hcv hlr
 ·rw [hf c v hcv fun k hk e=>hlr (e▸hk)]
  cases c with
  |data fr' τ x=>obtain ⟨cs,h1,h2⟩:=hcv;exact ⟨cs,hc _ _ _ _ h1,h2⟩
  |own k off len=>
   have hkl:k≠l:=fun e=>hlr (by simp [AC.refs,e])
   obtain ⟨b,sz,n,h1,h0,h2,h3⟩:=hcv
   exact ⟨b.map f,sz,n,by rw [hH k hkl,h1];rfl,by cases b<;>exact h0,h2,by rw [Co π none hkl];exact h3⟩
  |vptr k i=>
   have hkl:k≠l:=fun e=>hlr (by simp [AC.refs,e])
   obtain ⟨r,tid',vs,h1,h2,h3⟩:=hcv
   exact ⟨r,tid',vs.map f,by rw [hH k hkl,h1];rfl,by rw [Co π none hkl];exact h2,h3⟩
  |eptr k i=>
   have hkl:k≠l:=fun e=>hlr (by simp [AC.refs,e])
   obtain ⟨r,b,sz,n,h1,h0,h2,h3,h4⟩:=hcv
   exact ⟨r,b.map f,sz,n,by rw [hH k hkl,h1];rfl,by cases b<;>exact h0,h2,by rw [Co π none hkl];exact h3,h4⟩
  |sub k i c=>
   have hkl:k≠l:=fun e=>hlr (by simp [AC.refs,e])
   obtain ⟨r,b,sz,n,h1,h0,h2,h3⟩:=hcv
   exact ⟨r,b.map f,sz,n,by rw [hH k hkl,h1];rfl,by cases b<;>exact h0,by rw [Co π none hkl];exact h2,h3⟩
  |sptr k i c=>
   have hkl:k≠l:=fun e=>hlr (by simp [AC.refs,e])
   obtain ⟨r,b,n,sz,g,o,len,cap,h1,h0,h2,h3⟩:=hcv
   exact ⟨r,b.map f,n,sz,g,o,len,cap,by rw [hH k hkl,h1];rfl,by cases b<;>exact h0,by rw [Co π none hkl];exact h2,h3⟩
  |clo g caps=>
   obtain ⟨us,h1,h2,h3⟩:=hcv
   refine ⟨us,h1,h2,fun j p hp=>?_⟩
   obtain ⟨r,tid,vs,h4,h5,h6⟩:=h3 j p hp
   have hpl:p.1≠l:=fun e=>hlr (by simp only [AC.refs,List.mem_map];exact ⟨p,List.mem_of_getElem? hp,e⟩)
   exact ⟨r,tid,vs.map f,by rw [hH _ hpl,h4];rfl,by rw [Co π none hpl];exact h5,h6⟩
  |mapr k=>
   have hkl:k≠l:=fun e=>hlr (by simp [AC.refs,e])
   obtain ⟨r,vt,m,h1,h2,h3⟩:=hcv
   exact ⟨r,vt,m,by rw [hH k hkl,h1];rfl,by rw [Co π none hkl];exact h2,h3⟩
  |_=>exact hcv
theorem Yg {l:Nat} {ls:List Nat} (h: ∀k∈ls,k≠l):ls.contains l=false:=by
 cases hc:ls.contains l with
 |false=>rfl
 |true=>exact absurd rfl (h l (by simpa using hc))
theorem Ys {l:Nat} {fr:Bool} {e:Ty} {xs:List e.den} {c:AC} (h: ∀k∈c.refs,k≠l):Ax l fr e xs c=c:=by
 cases c<;>simp only [Ax]<;>first|rfl|skip
 case clo f caps=>rw [if_neg (by rw [Yg (show ∀k∈caps.map (·.1),k≠l from h)];simp)]
 all_goals rw [if_neg (h _ (by simp [AC.refs]))]
theorem Aj0 {l:Nat} {v:Ty} {m:ByteArray→Option v.den} {c:AC} (h: ∀k∈c.refs,k≠l):Cs l v m c=c:=by
 cases c<;>simp only [Cs]<;>first|rfl|skip
 case clo f caps=>rw [if_neg (by rw [Yg (show ∀k∈caps.map (·.1),k≠l from h)];simp)]
 all_goals rw [if_neg (h _ (by simp [AC.refs]))]
theorem Move.freeze {l:Nat} {fr:Bool} {e:Ty} {xs:List e.den}
  (hread: ∀off len v,Df X w π H (.own l off len) v→Cells w (Bb X.w0.heap.size X.Sc (upd π l none) fr) (.slice e) [v] ((xs.drop off).take len))
  (hH: ∀m,m≠l→Ac H' m=(Ac H m).map (OB.map (Ax l fr e xs))):Move X w w π (upd π l none) H H' (Ax l fr e xs):=by
 refine Move.Axy (fun c v _ h=>Ys h) (fun c v hcv hr=>?_) hH
 cases c with
 |own k off len=>
  have:k=l:=(List.mem_singleton.1 hr).symm
  subst this
  simp only [Ax,if_pos]
  exact ⟨[v],hread off len v hcv,by simp [Ap,Ty.Ab]⟩
 |vptr k i=>have:k=l:=(List.mem_singleton.1 hr).symm
            subst this;simp only [Ax,if_pos];trivial
 |eptr k i=>have:k=l:=(List.mem_singleton.1 hr).symm
            subst this;simp only [Ax,if_pos];trivial
 |sub k i c=>have:k=l:=(List.mem_singleton.1 hr).symm
             subst this;simp only [Ax,if_pos];trivial
 |sptr k i c=>have:k=l:=(List.mem_singleton.1 hr).symm
              subst this;simp only [Ax,if_pos];trivial
 |mapr k=>have:k=l:=(List.mem_singleton.1 hr).symm
          subst this;simp only [Ax,if_pos];trivial
 |clo f caps=>
  simp only [Ax]
  rw [if_pos (by simpa [AC.refs] using hr)];trivial
 |_=>simp [AC.refs] at hr
theorem Af.freeze {st:St} {a:Act} (h:Af X π st a w) {l:Nat} {fr:Bool} {e:Ty} {xs:List e.den}
  (hl:(∃tr tid,Ac st.heap l=some (.arr fr tr e tid xs))∨(fr=false∧ ∃tid,Ac st.heap l=some (.xarr e tid xs))):
  Af X (upd π l none) (st.freeze l fr e xs) a w∧Move X w w π (upd π l none) st.heap (st.freeze l fr e xs).heap (Ax l fr e xs):=by
 have m:Move X w w π (upd π l none) st.heap (st.freeze l fr e xs).heap (Ax l fr e xs):=by
  refine Move.freeze (fun off len v hv=>?_) (fun m hm=>St.Jq st l m fr e xs hm)
  rcases hl with ⟨tr,tid,hl⟩|⟨rfl,tid,hl⟩
  ·obtain ⟨h2,h3⟩:=Ht hv hl
   refine Afu h.1 hl h2 h3 (fun k hk=>?_) fun k _ hk=>Ail hk
   intro ⟨r,hr,hrk⟩
   have hb:=(h.1.heap l).blk hl
   simp only [Aq,El,hr] at hb
   by_cases hkg:k=r.g
   ·subst hkg
    rcases hk with ⟨m,r',hm,hg⟩|hS|⟨hf,hS⟩
    ·by_cases hml:m=l
     ·subst hml;rw [Cp] at hm;cases hm
     ·rw [Co π none hml] at hm
      exact hml (h.1.apart hm hr hg hrk)
    ·have h1:=h.1.sc _ hS
     rcases (h.1.own ⟨l,r,hr,hrk⟩).2 with h2|h2
     ·omega
     ·exact h1.2 h2
    ·have:=hb.1.2.2 hf;omega
   ·exact absurd (hb.1.2.1 k hrk) hkg
  ·obtain ⟨h2,h3⟩:=Ro hv hl
   exact Ad3 h.1 hl h2 h3 fun k hk hr=>h.1.let (fun hf=>by cases hf) hk hr
 refine ⟨⟨h.1.drop l m (St.Fy st l fr e xs) fun k e'=>St.Jq st l k fr e xs e',?_⟩,m⟩
 have hh:Ai9 X w (upd π l none) {tmps:=st.tmps.map (·.map (Ax l fr e xs)),heap:=(st.freeze l fr e xs).heap} a:=m.Awo rfl h.2
 exact hh
theorem St.Ji (st:St) (l k:Nat) (v:Ty) (m:ByteArray→Option v.den) (h:k≠l):Ac (st.Dt l v m).heap k=(Ac st.heap k).map (OB.map (Cs l v m)):=by
 simp only [St.Dt,St.Fc]
 rw [Gy _ _ _ h,Hw]
theorem St.Ki (st:St) (l:Nat) (v:Ty) (m:ByteArray→Option v.den):Ac (st.Dt l v m).heap l=none:=by
 simp only [St.Dt,St.Fc]
 exact Ge _ _
theorem Ao5 {r:Option Real} {v:Ty} {m:ByteArray→Option v.den} {g:Nat} {S:Nat→Prop} (h:Bav w r v m) (hg:r.map (·.g)=some g) (hS: ¬S g):Cells w S (.smap v) [.map (some g)] m:=by
 obtain ⟨r',h0,h1,h2,h3⟩:=h
 rw [h0] at hg
 simp only [Option.map_some,Option.some.injEq] at hg
 subst hg
 simp only [Cells] at h3⊢
 rcases h3 with ⟨h3,_⟩|⟨g,h3,hg,_,es,clock,h4,h5,h6,h7⟩
 ·simp at h3
 ·simp only [List.cons.injEq,Value.map.injEq,Option.some.injEq,and_true] at h3
  subst h3
  refine .inr ⟨r'.g,rfl,hg,hS,es,clock,h4,h5,h6,fun s y hy=>?_⟩
  obtain ⟨u,h8,h9⟩:=h7 s y hy
  exact ⟨u,h8,Cells.flat v [u] y h2.1 h9⟩
theorem Af.Dt {st:St} {a:Act} (h:Af X π st a w) {l:Nat} {v:Ty} {m:ByteArray→Option v.den} (hl:Ac st.heap l=some (.smp v m)):
  Af X (upd π l none) (st.Dt l v m) a w∧Move X w w π (upd π l none) st.heap (st.Dt l v m).heap (Cs l v m):=by
 have mv:Move X w w π (upd π l none) st.heap (st.Dt l v m).heap (Cs l v m):=by
  refine Move.Axy (fun c u _ h=>Aj0 h) (fun c u hcv hr=>?_) (fun k hk=>St.Ji st l k v m hk)
  cases c with
  |mapr k=>
   have:k=l:=(List.mem_singleton.1 hr).symm
   subst this
   simp only [Cs,if_pos]
   obtain ⟨r,vt,m',h1,h2,rfl⟩:=hcv
   exact ⟨[_],Ao5 ((h.1.heap k).blk hl) (by rw [h2];rfl) fun hS=>h.1.let (fun hf=>by cases hf) hS ⟨r,h2,h.1.Av h2⟩,by simp [Ap,Ty.Ab]⟩
  |own k off len=>have:k=l:=(List.mem_singleton.1 hr).symm
                  subst this;simp only [Cs,if_pos];trivial
  |vptr k i=>have:k=l:=(List.mem_singleton.1 hr).symm
             subst this;simp only [Cs,if_pos];trivial
  |eptr k i=>have:k=l:=(List.mem_singleton.1 hr).symm
             subst this;simp only [Cs,if_pos];trivial
  |sub k i c=>have:k=l:=(List.mem_singleton.1 hr).symm
              subst this;simp only [Cs,if_pos];trivial
  |sptr k i c=>have:k=l:=(List.mem_singleton.1 hr).symm
               subst this;simp only [Cs,if_pos];trivial
  |clo f caps=>
   simp only [Cs]
   rw [if_pos (by simpa [AC.refs] using hr)];trivial
  |_=>simp [AC.refs] at hr
 refine ⟨⟨h.1.drop l mv (St.Ki st l v m) fun k e'=>St.Ji st l k v m e',?_⟩,mv⟩
 have hh:Ai9 X w (upd π l none) {tmps:=st.tmps.map (·.map (Cs l v m)),heap:=(st.Dt l v m).heap} a:=mv.Awo rfl h.2
 exact hh
def OB.fits:OB→OB→Prop
 | .arr _ _ e _ xs, .arr _ _ e' _ xs'=>e=e'∧xs.length≤xs'.length
 | .var _ _, .var _ _=>True
 | .smp _ _, .smp _ _=>True
 |_,_=>False
theorem Move.Bek {tc:Nat→Prop} {π':Pi} (hs:w.heap.size≤w'.heap.size)
  (hk: ∀k,k<w.heap.size→(∀l r,tc l→π l=some r→ ¬r.Av k)→w'.heap[k]?=w.heap[k]?)
  (hO: ∀b,b<w.heap.size→Own π' b→Own π b)
  (hH: ∀m,¬tc m→Ac H' m=Ac H m∧π' m=π m) (hH': ∀m,tc m→Qu (π m) (π' m)∧ ∀b0,Ac H m=some b0→ ∃b,Ac H' m=some b∧b0.fits b)
  (hx: ∀m r,¬tc m→π m=some r→(∃b,Ac H m=some b∧b.inn≠none)→r.g<w.heap.size→w'.heap[r.g]?=w.heap[r.g]?):Move X w w' π π' H H' (fun c=>c):=by
 have hc: ∀fr τ cs x,Cells w (Bb X.w0.heap.size X.Sc π fr) τ cs x→Cells w' (Bb X.w0.heap.size X.Sc π' fr) τ cs x:=by
  intro fr τ cs x h
  exact Cells.Ch hs (fun k hk' hn=>hk k hk' fun l r _ h0 h1=>hn (.inl ⟨l,r,h0,h1⟩)) (fun k hlt hA=>hA.imp (hO k hlt) id) τ cs x h
 have same: ∀m r,π m=some r→ ∃r',π' m=some r'∧r.g=r'.g∧r.o=r'.o∧r.cap=r'.cap:=by
  intro m r hm
  by_cases ht:tc m
  ·have:=(hH' m ht).1
   rw [hm] at this
   cases hp:π' m with
   |none=>rw [hp] at this;exact this.elim
   |some r'=>rw [hp] at this;exact ⟨r',rfl,this.1,this.2.1,this.2.2.1⟩
  ·exact ⟨r,by rw [(hH m ht).2];exact hm,rfl,rfl,rfl⟩
 have fit: ∀m b,Ac H m=some b→ ∃b',Ac H' m=some b'∧(b'=b∨b.fits b'):=by
  intro m b hm
  by_cases ht:tc m
  ·obtain ⟨b',h1,h2⟩:=(hH' m ht).2 b hm;exact ⟨b',h1, .inr h2⟩
  ·exact ⟨b,by rw [(hH m ht).1];exact hm, .inl rfl⟩
 refine ⟨fun c v h=>?_,hc⟩
 cases c with
 |data fr τ x=>obtain ⟨cs,h1,h2⟩:=h;exact ⟨cs,hc _ _ _ _ h1,h2⟩
 |own k off len=>
  obtain ⟨b,sz,n,h1,h0,h2,h3⟩:=h
  have hov:De (π' k) sz off len v:=by
   cases hp:π k with
   |none=>
    rw [hp] at h3
    have:π' k=none:=by
     by_cases ht:tc k
     ·have:=(hH' k ht).1
      rw [hp] at this
      cases hp':π' k with
      |none=>rfl
      |some r'=>rw [hp'] at this;exact this.elim
     ·rw [(hH k ht).2];exact hp
    rw [this];exact h3
   |some r=>
    rw [hp] at h3
    obtain ⟨r',h4,h5,h6,h7⟩:=same k r hp
    rw [h4]
    unfold De at h3⊢
    simp only at h3⊢
    rw [←h5,←h6,←h7]
    exact h3
  obtain ⟨b',h4,h5⟩:=fit k b h1
  rcases h5 with rfl|h5
  ·exact ⟨_,sz,n,h4,h0,h2,hov⟩
  ·cases b<;>cases b'<;>first|exact h5.elim|(simp [OB.row] at h0;done)|skip
   ·obtain ⟨rfl,hlen⟩:=h5
    simp only [OB.row,Option.some.injEq,Prod.mk.injEq] at h0
    obtain ⟨rfl,rfl⟩:=h0
    exact ⟨_,_,_,h4,rfl,by omega,hov⟩
 |vptr k i=>
  obtain ⟨r,tid,vs,h1,h2,h3⟩:=h
  obtain ⟨r',h4,h5,_⟩:=same k r h2
  obtain ⟨b',h6,h7⟩:=fit k _ h1
  rcases h7 with rfl|h7
  ·exact ⟨r',tid,vs,h6,h4,by rw [←h5];exact h3⟩
  ·cases b'<;>first|exact h7.elim|exact ⟨r',_,_,h6,h4,by rw [←h5];exact h3⟩
 |eptr k i=>
  obtain ⟨r,b,sz,n,h1,h0,h2,h3,h4⟩:=h
  obtain ⟨r',h5,h6,h7,_⟩:=same k r h3
  obtain ⟨b',h8,h9⟩:=fit k _ h1
  rcases h9 with rfl|h9
  ·exact ⟨r',_,sz,n,h8,h0,h2,h5,by rw [←h6,←h7];exact h4⟩
  ·cases b<;>cases b'<;>first|exact h9.elim|(simp [OB.row] at h0;done)|skip
   obtain ⟨rfl,hlen⟩:=h9
   simp only [OB.row,Option.some.injEq,Prod.mk.injEq] at h0
   obtain ⟨rfl,rfl⟩:=h0
   exact ⟨r',_,_,_,h8,rfl,by omega,h5,by rw [←h6,←h7];exact h4⟩
 |sub k i c=>
  obtain ⟨r,b,sz,n,h1,h0,h2,h3,h4,h5⟩:=h
  by_cases ht:tc k
  ·obtain ⟨b',h6,h7⟩:=(hH' k ht).2 _ h1
   cases b<;>first|(cases h0;done)|skip
   all_goals (cases b'<;>exact h7.elim)
  ·exact ⟨r,b,sz,n,by rw [(hH k ht).1];exact h1,h0,by rw [(hH k ht).2];exact h2,h3,h4,by rw [World.cell?_of_block (hx k r ht h2 ⟨b,h1,by rw [h0];simp⟩ (Ry h5))];exact h5⟩
 |sptr k i c=>
  obtain ⟨r,b,n,sz,g,o,len,cap,h1,h0,h2,h3,h4,h5,h6⟩:=h
  by_cases ht:tc k
  ·obtain ⟨b',h6,h7⟩:=(hH' k ht).2 _ h1
   cases b<;>first|(cases h0;done)|skip
   all_goals (cases b'<;>exact h7.elim)
  ·exact ⟨r,b,n,sz,g,o,len,cap,by rw [(hH k ht).1];exact h1,h0,by rw [(hH k ht).2];exact h2,h3,h4,by rw [World.cell?_of_block (hx k r ht h2 ⟨b,h1,by cases b<;>first|(cases h0;done)|simp [OB.inn]⟩ (Ry h5))];exact h5,h6⟩
 |clo f caps=>
  obtain ⟨us,h1,h2,h3⟩:=h
  refine ⟨us,h1,h2,fun j p hp=>?_⟩
  obtain ⟨r,tid,vs,h4,h5,h6⟩:=h3 j p hp
  obtain ⟨r',h7,h8,_⟩:=same _ r h5
  obtain ⟨b',h9,h10⟩:=fit _ _ h4
  rcases h10 with rfl|h10
  ·exact ⟨r',tid,vs,h9,h7,by rw [←h8];exact h6⟩
  ·cases b'<;>first|exact h10.elim|exact ⟨r',_,_,h9,h7,by rw [←h8];exact h6⟩
 |mapr k=>
  obtain ⟨r,vt,m,h1,h2,h3⟩:=h
  obtain ⟨r',h4,h5,_⟩:=same k r h2
  obtain ⟨b',h6,h7⟩:=fit k _ h1
  rcases h7 with rfl|h7
  ·exact ⟨r',vt,m,h6,h4,by rw [←h5];exact h3⟩
  ·cases b'<;>first|exact h7.elim|exact ⟨r',_,_,h6,h4,by rw [←h5];exact h3⟩
 |_=>exact h
def Real.plus (r:Real) (N:List Nat):Real:= {r with cl:=fun c=>r.cl c∨c∈N}
theorem Af.Bgy {st:St} {a:Act} (h:Af X π st a w) {l:Nat} {b0 b:OB} (hl:Ac st.heap l=some b0) (hf:b0.fits b) {r:Real} (hr:π l=some r) {N:List Nat}
  (hN: ∀c∈N,(X.w0.heap.size≤c∨X.gv c)∧c<w.heap.size∧ ∀m r0,m≠l→π m=some r0→ ¬r0.cl c) (hg:w.grownBy w' (some r.g))
  (hb:Move X w w' π (upd π l (some (r.plus N))) st.heap (st.Ew l b).heap (fun c=>c)→Aq X w' (upd π l (some (r.plus N))) (st.Ew l b).heap (some (r.plus N)) b):Af X (upd π l (some (r.plus N))) (st.Ew l b) a w':=by
 have hk: ∀k,k<w.heap.size→ ¬r.Av k→w'.heap[k]?=w.heap[k]?:=fun k hk hn=>hg.block k hk (by
  intro e
  simp only [Option.some.injEq] at e
  exact hn (e▸h.1.Av hr))
 have old: ∀k q,upd π l (some (r.plus N)) k=some q→ ∃q0,π k=some q0∧(q=q0∨(k=l∧q0=r∧q=r.plus N)):=fun k q hq=>by
  by_cases e:k=l
  ·subst e;rw [Cp] at hq;exact ⟨r,hr, .inr ⟨rfl,rfl,(Option.some.inj hq).symm⟩⟩
  ·rw [Co π _ e] at hq;exact ⟨q,hq, .inl rfl⟩
 have cl': ∀k q q0 c,(q=q0∨(k=l∧q0=r∧q=r.plus N))→q.cl c→q0.cl c∨(k=l∧c∈N):=fun k q q0 c h1 h2=>by
  rcases h1 with rfl|⟨rfl,rfl,rfl⟩
  ·exact .inl h2
  ·rcases h2 with h2|h2
   ·exact .inl h2
   ·exact .inr ⟨rfl,h2⟩
 have ft: ∀k q q0 c,(q=q0∨(k=l∧q0=r∧q=r.plus N))→(q.Av c↔q0.Av c):=fun k q q0 c h1=>by
  rcases h1 with rfl|⟨rfl,rfl,rfl⟩<;>exact Iff.rfl
 have m:Move X w w' π (upd π l (some (r.plus N))) st.heap (st.Ew l b).heap (fun c=>c):=Move.Bek (tc:=fun k=>k=l) hg.size (fun k hlt hn=>hk k hlt (hn l r rfl hr)) (fun c _ ⟨k,q,h1,h2⟩=>by
   obtain ⟨q0,h3,h4⟩:=old k q h1
   exact ⟨k,q0,h3,(ft k q q0 c h4).1 h2⟩)
  (fun m hm=>⟨Cb _ _ _ _ hm,Co π _ hm⟩) (fun m hm=>by subst hm;exact ⟨by rw [hr,Cp];exact ⟨rfl,rfl,rfl,fun _=>Iff.rfl⟩,fun b1 h1=>by rw [hl] at h1;cases h1;exact ⟨b,Cf _ _ _ _ hl,hf⟩⟩)
  (fun m r' hm h1 _ hlt=>hk _ hlt fun h3=>hm (h.1.apart h1 hr (h.1.Av h1) h3))
 refine ⟨⟨?_,h.1.sc,fun k q c h1 h2=>?_,fun k q c h1 h2=>?_,fun k k' q q' c h1 h2 h3 h4=>?_,fun k hp hne=>?_,fun k=>?_⟩,?_⟩
 ·exact h.1.below.grown hg h.1.below.size fun k hk=>by cases hk;exact (h.1.lt hr).2
 ·obtain ⟨q0,h3,h4⟩:=old k q h1
  have:=h.1.sub k q0 c h3 ((ft k q q0 c h4).1 h2)
  rcases h4 with rfl|⟨rfl,rfl,rfl⟩
  ·exact this
  ·exact .inl this
 ·obtain ⟨q0,h3,h4⟩:=old k q h1
  rcases cl' k q q0 c h4 h2 with h5|⟨_,h5⟩
  ·exact ⟨(h.1.place k q0 c h3 h5).1,Nat.lt_of_lt_of_le (h.1.place k q0 c h3 h5).2 hg.size⟩
  ·exact ⟨(hN c h5).1,Nat.lt_of_lt_of_le (hN c h5).2.1 hg.size⟩
 ·obtain ⟨q0,g1,g2⟩:=old k q h1
  obtain ⟨q0',g3,g4⟩:=old k' q' h2
  rcases cl' k q q0 c g2 h3 with h5|⟨h5,h6⟩<;>rcases cl' k' q' q0' c g4 h4 with h7|⟨h7,h8⟩
  ·exact h.1.inj k k' q0 q0' c g1 g3 h5 h7
  ·refine Classical.byContradiction fun hn=>(hN c h8).2.2 k q0 (fun e=>hn (e.trans h7.symm)) g1 h5
  ·refine Classical.byContradiction fun hn=>(hN c h6).2.2 k' q0' (fun e=>hn (h5.trans e.symm)) g3 h7
  ·rw [h5,h7]
 ·by_cases e:k=l
  ·subst e
   have:=h.1.pin k hp (by rw [hl];simp)
   rw [hr] at this
   rw [Cp]
   cases hx:X.pin k with
   |none=>rw [hx] at this;exact this.elim
   |some q=>rw [hx] at this;exact this
  ·rw [Co π _ e]
   exact h.1.pin k hp fun h0=>hne (by rw [show Ac (st.Ew l b).heap k=Ac st.heap k from Cb _ _ _ _ e];exact h0)
 ·by_cases e:k=l
  ·subst e
   exact Cq.Hb (by rw [Cp];exact hb m) (Cf _ _ _ _ hl)
  ·have hn:Ac (st.Ew l b).heap k=Ac st.heap k:=Cb _ _ _ _ e
   have ho:=h.1.heap k
   cases hgk:Ac st.heap k with
   |none=>rw [hgk] at hn;exact Cq.Mh (by rw [Co π _ e];exact ho.emp hgk) hn
   |some c=>
    rw [hgk] at hn
    refine Cq.Hb ?_ hn
    rw [Co π _ e]
    have:=(ho.blk hgk).move m hg.size (fun r0 c h0 h1=>h.1.sub _ r0 c h0 h1) fun r0 c h0 h1 hlt=>hk _ hlt fun h3=>e (h.1.inj _ _ r0 r c h0 hr h1 (h.1.sub _ _ _ hr h3))
    cases c with
    |var tid vs=>simpa [OB.map] using this
    |_=>exact this
 ·exact ⟨h.2.size,h.2.defers,fun t=>by have:=m.av (h.2.tmps t);rwa [AC.map_id] at this⟩
theorem Af.set {st:St} {a:Act} (h:Af X π st a w) {l:Nat} {b0 b:OB} (hl:Ac st.heap l=some b0) (hf:b0.fits b)
  (hg:w.grownBy w' ((π l).map (·.g)))
  (hb:Move X w w' π π st.heap (st.Ew l b).heap (fun c=>c)→Aq X w' π (st.Ew l b).heap (π l) b):Af X π (st.Ew l b) a w':=by
 have hk: ∀k,k<w.heap.size→(∀r,π l=some r→ ¬r.Av k)→w'.heap[k]?=w.heap[k]?:=fun k hk hn=>hg.block k hk (by
  intro e
  cases hp:π l with
  |none=>rw [hp] at e;cases e
  |some r=>rw [hp] at e;simp only [Option.map_some,Option.some.injEq] at e;exact hn r hp (e▸h.1.Av hp))
 have m:Move X w w' π π st.heap (st.Ew l b).heap (fun c=>c):=Move.Bek (tc:=fun k=>k=l) hg.size (fun k hlt hn=>hk k hlt fun r hr=>hn l r rfl hr) (fun _ _ h=>h)
  (fun m hm=>⟨Cb _ _ _ _ hm,rfl⟩) (fun m hm=>by subst hm;exact ⟨Qu.Hl _,fun b1 h1=>by rw [hl] at h1;cases h1;exact ⟨b,Cf _ _ _ _ hl,hf⟩⟩)
  (fun m r hm h1 _ hlt=>hk _ hlt fun r1 h2 h3=>hm (h.1.apart h1 h2 (h.1.Av h1) h3))
 refine ⟨⟨?_,h.1.sc,h.1.sub,fun k r c h1 h2=>⟨(h.1.place k r c h1 h2).1,Nat.lt_of_lt_of_le (h.1.place k r c h1 h2).2 hg.size⟩,h.1.inj,fun k hp hne=>h.1.pin k hp fun h0=>hne ?_,fun k=>?_⟩,?_⟩
 ·refine h.1.below.grown hg h.1.below.size fun k hk=>?_
  cases hp:π l with
  |none=>rw [hp] at hk;cases hk
  |some r=>rw [hp] at hk;simp only [Option.map_some,Option.some.injEq] at hk;rw [←hk];exact (h.1.lt hp).2
 ·have:k≠l:=fun e=>by subst e;rw [hl] at h0;cases h0
  rw [show Ac (st.Ew l b).heap k=Ac st.heap k from Cb _ _ _ _ this];exact h0
 ·by_cases e:k=l
  ·subst e
   exact Cq.Hb (hb m) (Cf _ _ _ _ hl)
  ·have hn:Ac (st.Ew l b).heap k=Ac st.heap k:=Cb _ _ _ _ e
   have ho:=h.1.heap k
   cases hgk:Ac st.heap k with
   |none=>rw [hgk] at hn;exact Cq.Mh (ho.emp hgk) hn
   |some c=>
    rw [hgk] at hn
    refine Cq.Hb ?_ hn
    have:=(ho.blk hgk).move m hg.size (fun r0 c h0 h1=>h.1.sub _ r0 c h0 h1) fun r0 c h0 h1 hlt=>hk _ hlt fun r1 h2 h3=>e (h.1.inj _ _ r0 r1 c h0 h2 h1 (h.1.sub _ _ _ h2 h3))
    cases c with
    |var tid vs=>simpa [OB.map] using this
    |_=>exact this
 ·exact ⟨h.2.size,h.2.defers,fun t=>by have:=m.av (h.2.tmps t);rwa [AC.map_id] at this⟩
end
end Go.Proofs.Ytebabhocakedaaa
