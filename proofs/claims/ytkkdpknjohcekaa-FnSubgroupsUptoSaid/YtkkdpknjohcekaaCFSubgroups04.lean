/-
  Part 5 of the proof that the statement FnSubgroups holds.
-/
import Derived.Test.YtkkdpknjohcekaaCFSubgroups03
namespace Go.Proofs.Ytkkdpknjohcekaa
open Go.RowKit
def Ww (π:Pi) (l:Nat) (r:Option Real):Pi:= λk=>if k=l then r else π k
theorem Gm (π:Pi) (l:Nat) (r:Option Real):Ww π l r l=r:=by simp [Ww]
theorem Gi (π:Pi) {l m:Nat} (r:Option Real) (h:m≠l):Ww π l r m=π m:=by simp [Ww,h]
section
variable {X:Ctx} {w w':World} {π:Pi} {H H':List (Nat×OB)}
def Cn (X:Ctx) (w:World) (π:Pi) (H:List (Nat×OB)) (r:Option Real):OB->Prop
 | .arr fr tr e tid xs=>Jt X w π r fr tr e tid xs
 | .Gx e tid xs=>No w r e tid xs
 | .var tid vs=>Ags X w π H r tid vs
 | .Bo e _ rows out kp=>iz X w π r e rows out kp
 | .Vq v m=>YB w r v m
theorem Gg.Rc {l:Nat} {b:OB} (h:Gg X w π H l) (hb:Aw H l=some b):Cn X w π H (π l) b:=by
 unfold Gg at h
 rw [hb] at h
 cases b<;>exact h
theorem Gg.Lk {l:Nat} {b:OB} (h:Cn X w π H (π l) b) (hb:Aw H l=some b):Gg X w π H l:=by
 unfold Gg
 rw [hb]
 cases b<;>exact h
theorem Gg.Uk {l:Nat} (h:π l=none) (hb:Aw H l=none):Gg X w π H l:=by
 unfold Gg;rw [hb];exact h
theorem Gg.emp {l:Nat} (h:Gg X w π H l) (hb:Aw H l=none):π l=none:=by
 unfold Gg at h;rw [hb] at h;exact h
theorem Cn.move {f:AC->AC} {π':Pi} (m:Move X w w' π π' H H' f) {r:Option Real} {b:OB} (h:Cn X w π H r b) (hs:w.heap.size<=w'.heap.size)
  (Jl: ∀r' c,r=some r'->r'.Cz c->r'.cl c) (hk: ∀r' c,r=some r'->r'.cl c->c<w.heap.size->w'.heap[c]?=w.heap[c]?):
  Cn X w' π' H' r (b.map f):=by
 cases b with
 |arr fr tr e tid xs=>
  simp only [Cn,Jt,OB.map] at h⊢
  cases hr:r with
  |none=>rw [hr] at h;exact h
  |some r=>
   rw [hr] at h
   obtain ⟨h1,cur,ti,h2,h3,h4,h5,h6,h7⟩:=h
   refine ⟨h1,cur,ti,(hk r _ hr (Jl r _ hr h1.1) (Gh h2)).trans h2,h3,h4,h5,λi x hx=>?_,λht=>(h7 ht).Fm hs (λc _ Jc hc=>hk r c hr hc Jc) λ_ hb=>hb⟩
   obtain ⟨es,he,hj,hc⟩:=h6 i x hx
   exact ⟨es,he,hj,m.cells _ _ _ _ hc⟩
 |Gx e tid xs=>
  simp only [Cn,No,OB.map] at h⊢
  cases hr:r with
  |none=>rw [hr] at h;exact h
  |some r=>
   rw [hr] at h
   obtain ⟨h1,cur,ti,h2,h3,h4,h5,h7⟩:=h
   exact ⟨h1,cur,ti,(hk r _ hr (Jl r _ hr h1) (Gh h2)).trans h2,h3,h4,h5,h7.Fm hs (λc _ Jc hc=>hk r c hr (Jl r c hr hc) Jc) λ_ hb=>hb⟩
 |var tid vs=>
  obtain ⟨r',h0,h1,cur,h2,h3⟩:=h
  exact ⟨r',h0,h1,cur,(hk r' _ h0 (Jl r' _ h0 h1) (Gh h2)).trans h2,m.acs h3⟩
 |Bo e te rows out kp=>exact iz.Fm h (λq b hq hf Jc=>hk q b hq (Jl q b hq hf) Jc) (λes x=>m.cells false e es x)
 |Vq v g=>
  obtain ⟨r',h0,h1,h2,h3⟩:=h
  refine ⟨r',h0,h1,h2,?_⟩
  simp only [Cells] at h3⊢
  rcases h3 with ⟨h3,_⟩|⟨g,h3,hg,_,es,clock,h4,h5,h6,h7⟩
  ·simp at h3
  ·simp only [Gu,Value.map.injEq,Aa,Oa] at h3
   subst h3
   refine .inr ⟨r'.g,rfl,by omega,λh=>h,es,clock,(hk r' _ h0 (Jl r' _ h0 h1) hg).trans h4,h5,h6,λs y hy=>?_⟩
   obtain ⟨u,h8,h9⟩:=h7 s y hy
   exact ⟨u,h8,Cells.flat v [u] y h2.1 h9⟩
theorem Move.forget {l:Nat} {r':Option Real} (hs:w.heap.size<=w'.heap.size)
  (hk: ∀k,k<w.heap.size->(∀r,π l=some r-> ¬r.Cz k)->w'.heap[k]?=w.heap[k]?)
  (hr: ∀r b,r'=some r->r.Cz b->(∃r0,π l=some r0/\r0.Cz b)\/w.heap.size<=b)
  (hH: ∀m,m≠l->Aw H' m=(Aw H m).map (OB.map (Cu l)))
  (hx: ∀m r,m≠l->π m=some r->(∃b,Aw H m=some b/\b.gK≠none)->r.g<w.heap.size->w'.heap[r.g]?=w.heap[r.g]?):Move X w w' π (Ww π l r') H H' (Cu l):=by
 have hc: ∀fr τ cs x,Cells w (De X.w0.heap.size X.Sc π fr) τ cs x->Cells w' (De X.w0.heap.size X.Sc (Ww π l r') fr) τ cs x:=by
  intro fr τ cs x h
  refine Cells.Fm hs (λk ng hn=>hk k ng λr h0 h1=>hn (.inl ⟨l,r,h0,h1⟩)) (λk ng hA=>?_) τ cs x h
  rcases hA with ⟨m,r,hm,hg⟩|h2
  ·by_cases j9:m=l
   ·subst j9
    rw [Gm] at hm
    rcases hr r k hm hg with ⟨r0,h0,h1⟩|h1
    ·exact .inl ⟨m,r0,h0,h1⟩
    ·omega
   ·rw [Gi π r' j9] at hm
    exact .inl ⟨m,r,hm,hg⟩
  ·exact .inr h2
 refine ⟨λc v h=>?_,hc⟩
 cases c with
 |data fr τ x=>obtain ⟨cs,h1,h2⟩:=h;exact ⟨cs,hc _ _ _ _ h1,h2⟩
 |own k off len=>
  simp only [Cu]
  split
  ·trivial
  ·rename_i My
   obtain ⟨b,sz,n,h1,h0,h2,h3⟩:=h
   exact ⟨b.map (Cu l),sz,n,by rw [hH k My,h1];rfl,by cases b<;>exact h0,h2,by rw [Gi π r' My];exact h3⟩
 |He k i=>
  simp only [Cu]
  split
  ·trivial
  ·rename_i My
   obtain ⟨r,tid,vs,h1,h2,h3⟩:=h
   exact ⟨r,tid,vs.map (Cu l),by rw [hH k My,h1];rfl,by rw [Gi π r' My];exact h2,h3⟩
 |Jv k i=>
  simp only [Cu]
  split
  ·trivial
  ·rename_i My
   obtain ⟨r,b,sz,n,h1,h0,h2,h3,h4⟩:=h
   exact ⟨r,b.map (Cu l),sz,n,by rw [hH k My,h1];rfl,by cases b<;>exact h0,h2,by rw [Gi π r' My];exact h3,h4⟩
 |sub k i c=>
  simp only [Cu]
  split
  ·trivial
  ·rename_i My
   obtain ⟨r,b,sz,n,h1,h0,h2,h3,h4,h5⟩:=h
   exact ⟨r,b.map (Cu l),sz,n,by rw [hH k My,h1];rfl,by cases b<;>exact h0,by rw [Gi π r' My];exact h2,h3,h4,by rw [World.cell?_of_block (hx k r My h2 ⟨b,h1,by rw [h0];simp⟩ (cC h5))];exact h5⟩
 |Js k i c=>
  simp only [Cu]
  split
  ·trivial
  ·rename_i My
   obtain ⟨r,b,n,sz,g,o,len,cap,h1,h0,h2,h3,h4,h5,h6⟩:=h
   exact ⟨r,b.map (Cu l),n,sz,g,o,len,cap,by rw [hH k My,h1];rfl,by cases b<;>exact h0,by rw [Gi π r' My];exact h2,h3,h4,by rw [World.cell?_of_block (hx k r My h2 ⟨b,h1,by cases b<;>first|(cases h0;done)|simp [OB.gK]⟩ (cC h5))];exact h5,h6⟩
 |clo f Ek=>
  simp only [Cu]
  split
  ·trivial
  ·rename_i My
   obtain ⟨us,h1,h2,h3⟩:=h
   refine ⟨us,h1,h2,λj p hp=>?_⟩
   obtain ⟨r,tid,vs,h4,h5,h6⟩:=h3 j p hp
   have lq:p.1≠l:= λe=>My (by simp only [Je,Ba];exact ⟨p,Cp hp,e⟩)
   exact ⟨r,tid,vs.map (Cu l),by rw [hH _ lq,h4];rfl,by rw [Gi π r' lq];exact h5,h6⟩
 |Kh k=>
  simp only [Cu]
  split
  ·trivial
  ·rename_i My
   obtain ⟨r,vt,m,h1,h2,h3⟩:=h
   exact ⟨r,vt,m,by rw [hH k My,h1];rfl,by rw [Gi π r' My];exact h2,h3⟩
 |_=>exact h
theorem St.Zz (st:St) (l m:Nat) (b:OB) (h:m≠l):Aw (st.new l b).heap m=(Aw st.heap m).map (OB.map (Cu l)):=by
 simp only [St.new,St.forget,St.Kv]
 rw [Pb _ _ _ _ h,Nh _ _ _ h,Ol]
theorem St.Gy (st:St) (l:Nat) (b:OB):Aw (st.new l b).heap l=some b:=by
 simp only [St.new,St.forget,St.Kv]
 exact Qg _ _ _ (Mg _ _)
theorem St.j0 (st:St) (l m:Nat) (h:m≠l):Aw (st.forget l).heap m=(Aw st.heap m).map (OB.map (Cu l)):=by
 simp only [St.forget,St.Kv]
 rw [Nh _ _ _ h,Ol]
theorem St.px (st:St) (l:Nat):Aw (st.forget l).heap l=none:=by
 simp only [St.forget,St.Kv]
 exact Mg _ _
theorem Bl.jB {st:St} {a:Act} (h:Bl X π st a w) (l:Nat) (hl:l<Bp) (r':Option Real) (b:OB)
  (hg:w.grownBy w' ((π l).map (·.g)))
  (hf: ∀r b,r'=some r->r.Cz b->r.cl b/\((∃r0,π l=some r0/\r0.Cz b)\/w.heap.size<=b))
  (hr: ∀r b,r'=some r->r.cl b->(X.w0.heap.size<=b\/X.gv b)/\b<w'.heap.size/\ ∀m r0,m≠l->π m=some r0-> ¬r0.cl b)
  (hb:Move X w w' π (Ww π l r') st.heap (st.new l b).heap (Cu l)->Cn X w' (Ww π l r') (st.new l b).heap r' b):Bl X (Ww π l r') (st.new l b) a w':=by
 have hk: ∀k,k<w.heap.size->(∀r,π l=some r-> ¬r.Cz k)->w'.heap[k]?=w.heap[k]?:= λk hk hn=>hg.block k hk (by
  intro e
  cases hp:π l with
  |none=>rw [hp] at e;cases e
  |some r=>rw [hp] at e;simp only [Am,Aa] at e;exact hn r hp (e▸h.1.Cz hp))
 have m:Move X w w' π (Ww π l r') st.heap (st.new l b).heap (Cu l):=Move.forget hg.size hk (λr c h1 h2=>(hf r c h1 h2).2) (λm hm=>St.Zz st l m b hm)
  (λm r hm h1 _ Jc=>hk _ Jc λr1 h2 h3=>hm (h.1.apart h1 h2 (h.1.Cz h1) h3))
 refine ⟨⟨?_,h.1.sc,?_,?_,?_,?_,λk=>?_⟩,?_⟩
 ·refine h.1.below.grown hg h.1.below.size λk hk=>?_
  cases hp:π l with
  |none=>rw [hp] at hk;cases hk
  |some r=>rw [hp] at hk;simp only [Am,Aa] at hk;rw [<-hk];exact (h.1.lt hp).2
 ·intro k r c h1 h2
  by_cases e1:k=l
  ·subst e1;rw [Gm] at h1;exact (hf r c h1 h2).1
  ·rw [Gi π r' e1] at h1;exact h.1.sub k r c h1 h2
 ·intro k r c h1 h2
  by_cases e1:k=l
  ·subst e1;rw [Gm] at h1;have:=hr r c h1 h2;exact ⟨this.1,this.2.1⟩
  ·rw [Gi π r' e1] at h1;have:=h.1.place k r c h1 h2;exact ⟨this.1,El this.2 hg.size⟩
 ·intro l1 l2 r1 r2 c h1 h2 h3 h4
  by_cases e1:l1=l<;>by_cases e2:l2=l
  ·rw [e1,e2]
  ·subst e1
   rw [Gm] at h1;rw [Gi π r' e2] at h2
   exact absurd h4 ((hr r1 c h1 h3).2.2 l2 r2 e2 h2)
  ·subst e2
   rw [Gm] at h2;rw [Gi π r' e1] at h1
   exact absurd h3 ((hr r2 c h2 h4).2.2 l1 r1 e1 h1)
  ·rw [Gi π r' e1] at h1;rw [Gi π r' e2] at h2
   exact h.1.inj _ _ r1 r2 c h1 h2 h3 h4
 ·intro k hpk Ig
  have e:k≠l:= λe=>by subst e;omega
  rw [St.Zz st l k b e] at Ig
  rw [Gi π r' e]
  exact h.1.iu k hpk λh0=>Ig (by rw [h0];rfl)
 ·by_cases e:k=l
  ·subst e
   exact Gg.Lk (by rw [Gm];exact hb m) (St.Gy st k b)
  ·have hn:=St.Zz st l k b e
   have ho:=h.1.heap k
   cases gI:Aw st.heap k with
   |none=>rw [gI] at hn;exact Gg.Uk (by rw [Gi π r' e];exact ho.emp gI) hn
   |some c=>
    rw [gI] at hn
    refine Gg.Lk ?_ hn
    rw [Gi π r' e]
    exact (ho.Rc gI).move m hg.size (λr0 c h0 h1=>h.1.sub _ r0 c h0 h1) λr0 c h0 h1 Jc=>hk _ Jc λr1 h2 h3=>e (h.1.inj _ _ r0 r1 c h0 h2 h1 (h.1.sub _ _ _ h2 h3))
 ·have hh:sB X w' (Ww π l r') {tmps:=st.tmps.map (·.map (Cu l)),heap:=(st.new l b).heap} a:=m.NU rfl h.2
  exact hh
def Real.one (g o cap:Nat):Real:=⟨g,o,cap,λb=>b=g,λb=>b=g⟩
theorem Bl.replace {st:St} {a:Act} (h:Bl X π st a w) (l:Nat) (hl:l<Bp) (r':Option Real) (b:OB)
  (hg:w.grownBy w' ((π l).map (·.g)))
  (hr: ∀r,r'=some r->r=Real.one r.g r.o r.cap/\((∃r0,π l=some r0/\r0.g=r.g)\/w.heap.size<=r.g)/\r.g<w'.heap.size)
  (hb:Move X w w' π (Ww π l r') st.heap (st.new l b).heap (Cu l)->Cn X w' (Ww π l r') (st.new l b).heap r' b):Bl X (Ww π l r') (st.new l b) a w':=by
 refine h.jB l hl r' b hg (λr c h1 h2=>?_) (λr c h1 h2=>?_) hb
 ·obtain ⟨h3,h4,_⟩:=hr r h1
  have h2':c=r.g:=by rw [h3] at h2;exact h2
  subst h2'
  refine ⟨by rw [h3];rfl,h4.imp (λ⟨r0,h5,h6⟩=>⟨r0,h5,h6▸h.1.Cz h5⟩) id⟩
 ·obtain ⟨h3,h4,h5⟩:=hr r h1
  have h2':c=r.g:=by rw [h3] at h2;exact h2
  subst h2'
  refine ⟨?_,h5,λm r0 hm h6 h7=>?_⟩
  ·rcases h4 with ⟨r0,h6,h7⟩|h6
   ·rw [<-h7];exact (h.1.lt h6).2
   ·exact .inl (Hq h.1.below.size h6)
  ·rcases h4 with ⟨r1,h8,h9⟩|h8
   ·exact hm (h.1.inj m l r0 r1 r.g h6 h8 h7 (h9▸h.1.sub l r1 _ h8 (h.1.Cz h8)))
   ·have:=(h.1.place m r0 _ h6 h7).2;omega
theorem Mr.drop (h:Mr X w π H) {f:AC->AC} (l:Nat) (m:Move X w w π (Ww π l none) H H' f) (h0:Aw H' l=none) (hH: ∀k,k≠l->Aw H' k=(Aw H k).map (OB.map f)):Mr X w (Ww π l none) H':=by
 have un: ∀k r,Ww π l none k=some r->k≠l/\π k=some r:= λk r hk=>by
  by_cases e:k=l
  ·subst e;rw [Gm] at hk;cases hk
  ·rw [Gi π none e] at hk;exact ⟨e,hk⟩
 refine ⟨h.below,h.sc,λk r c h1 h2=>h.sub k r c (un k r h1).2 h2,λk r c h1 h2=>h.place k r c (un k r h1).2 h2,λl1 l2 r1 r2 c h1 h2 h3 h4=>h.inj _ _ r1 r2 c (un _ _ h1).2 (un _ _ h2).2 h3 h4,λk hp Ig=>?_,λk=>?_⟩
 ·have e:k≠l:= λe=>by subst e;exact Ig h0
  rw [hH k e] at Ig
  rw [Gi π none e]
  exact h.iu k hp λh1=>Ig (by rw [h1];rfl)
 ·by_cases e:k=l
  ·subst e
   exact Gg.Uk (by rw [Gm]) h0
  ·have hn:=hH k e
   have ho:=h.heap k
   cases gI:Aw H k with
   |none=>rw [gI] at hn;exact Gg.Uk (by rw [Gi π none e];exact ho.emp gI) hn
   |some c=>
    rw [gI] at hn
    refine Gg.Lk ?_ hn
    rw [Gi π none e]
    exact (ho.Rc gI).move m (Aq _) (λr0 c h0 h1=>h.sub _ r0 c h0 h1) λr0 c h0 h1 Jc=>rfl
theorem Bl.forget {st:St} {a:Act} (h:Bl X π st a w) (l:Nat):Bl X (Ww π l none) (st.forget l) a w:=by
 have m:Move X w w π (Ww π l none) st.heap (st.forget l).heap (Cu l):=
  Move.forget (Aq _) (λ_ _ _=>rfl) (λr c hr=>by cases hr) (λm hm=>St.j0 st l m hm) (λ_ _ _ _ _ _=>rfl)
 refine ⟨h.1.drop l m (St.px st l) λk e=>St.j0 st l k e,?_⟩
 have hh:sB X w (Ww π l none) {tmps:=st.tmps.map (·.map (Cu l)),heap:=(st.forget l).heap} a:=m.NU rfl h.2
 exact hh
theorem cellOf {w:World} {g:Nat} {cur:Array Value} {tid:TypeId} (h:w.heap[g]?=some (.cells cur tid (0,0))) (i:Nat):w.cell? ⟨g,i,none⟩=cur[i]?:=by
 simp [World.cell?,h]
theorem Oc {l off len:Nat} {v:Value} {fr tr:Bool} {e:Ty} {tid:TypeId} {xs:List e.den} (h:Hj X w π H (.own l off len) v) (hl:Aw H l=some (.arr fr tr e tid xs)):off+len<=xs.length/\Hs (π l) e.size off len v:=by
 obtain ⟨b,sz,n,h1,h0,h2,h3⟩:=h
 rw [hl] at h1;cases h1
 simp only [OB.row,Aa,Ah] at h0
 obtain ⟨rfl,rfl⟩:=h0
 exact ⟨h2,h3⟩
theorem bZ {l off len:Nat} {v:Value} {e:Ty} {tid:TypeId} {xs:List e.den} (h:Hj X w π H (.own l off len) v) (hl:Aw H l=some (.Gx e tid xs)):off+len<=xs.length/\Hs (π l) e.size off len v:=by
 obtain ⟨b,sz,n,h1,h0,h2,h3⟩:=h
 rw [hl] at h1;cases h1
 simp only [OB.row,Aa,Ah] at h0
 obtain ⟨rfl,rfl⟩:=h0
 exact ⟨h2,h3⟩
theorem MO {l off len:Nat} {v:Value} {fr tr:Bool} {e:Ty} {tid:TypeId} {xs:List e.den} (hl:Aw H l=some (.arr fr tr e tid xs)) (h1:off+len<=xs.length) (h2:Hs (π l) e.size off len v):Hj X w π H (.own l off len) v:=
 ⟨_,e.size,xs.length,hl,rfl,h1,h2⟩
theorem yg {r:Real} {off len:Nat} {v:Value} {e:Ty} {tid:TypeId} {xs:List e.den} {S:Nat->Prop} {cur:Array Value} (h2:w.heap[r.g]?=some (.cells cur tid (0,0)))
  (hlen:off+len<=xs.length) (hv:Hs (some r) e.size off len v) (hg: ¬S r.g)
  (hA: ∀(i:Nat) (x:e.den),xs[i]?=some x-> ∃es:List Value,es.length=e.size/\(∀j u,es[j]?=some u->cur[(r.o+i)*e.size+j]?=some u)/\Cells w S e es x):Cells w S (.slice e) [v] ((xs.drop off).take len):=by
 have hll:((xs.drop off).take len).length=len:=by simp;omega
 obtain ⟨ad,rfl,hc,ha⟩:=hv
 refine ⟨some ad,len,r.cap-off,rfl,hll.symm,by omega,?_⟩
 rcases Tl len with h0|h0
 ·left;subst h0;simp
 ·right
  refine ⟨r.g,(r.o+off)*e.size,by rw [ha (by omega)],Gh h2,hg,λi x hx=>?_⟩
  have hi:i<len:=by
   have:=(Ao.1 hx).1
   rw [hll] at this;exact this
  have hx':xs[off+i]?=some x:=by
   rw [Dc,Ab hi,Db] at hx;exact hx
  obtain ⟨es,he,hj,zi⟩:=hA (off+i) x hx'
  refine ⟨es,he,λj u hu=>?_,zi⟩
  rw [cellOf h2]
  have:=hj j u hu
  rw [<-this]
  congr 1
  rw [<-Gs,Dh (r.o+off) i]
theorem pR {l off len:Nat} {v:Value} {fr tr:Bool} {e:Ty} {tid:TypeId} {xs:List e.den} {S:Nat->Prop} (h:Mr X w π H) (hl:Aw H l=some (.arr fr tr e tid xs))
  (hlen:off+len<=xs.length) (hv:Hs (π l) e.size off len v)
  (hS: ∀k,S k->(∃r,π l=some r/\r.Cz k)->False) (hA: ∀k,k<w.heap.size->S k->De X.w0.heap.size X.Sc π fr k):Cells w S (.slice e) [v] ((xs.drop off).take len):=by
 have hb:=(h.heap l).Rc hl
 simp only [Cn,Jt] at hb
 cases hp:π l with
 |none=>
  rw [hp] at hb hv
  obtain ⟨rfl,rfl,rfl⟩:=hv
  exact ⟨none,0,0,rfl,by simp,Aq _, .inl (by simp)⟩
 |some r=>
  rw [hp] at hb hv
  obtain ⟨h1,cur,_,h2,h3,h4,h5,h6,_⟩:=hb
  refine yg h2 hlen hv (λhs=>hS _ hs ⟨r,hp,h1.1⟩) λi x hx=>?_
  obtain ⟨es,he,hj,zi⟩:=h6 i x hx
  exact ⟨es,he,hj,Cells.Fm (Aq _) (λ_ _ _=>rfl) hA e es x zi⟩
theorem Sv.slice {D S:Nat->Prop} {R:Option Real} {e:Ty} {x:List e.den} {u:Value} (h:Sv w D R e x) (hv:Hs R e.size 0 (List.length x) u) (hD: ∀k,S k->D k) (hg: ∀q,R=some q-> ¬S q.g):Cells w S (.slice e) [u] x:=by
 cases R with
 |none=>
  have hx:x= []:=h
  subst hx
  obtain ⟨rfl,_,_⟩:=hv
  exact ⟨none,0,0,rfl,rfl,Aq _, .inl rfl⟩
 |some q=>
  obtain ⟨h1,cur,ti,h2,h3,h4,h5,h6⟩:=h
  obtain ⟨ad,rfl,g1,g2⟩:=hv
  refine ⟨some ad,List.length x,_,rfl,rfl,by omega,?_⟩
  rcases Tl (List.length x) with hx|hx
  ·exact .inl (Co hx)
  ·have ZI:=g2 (by omega)
   subst ZI
   refine .inr ⟨q.g,(q.o+0)*e.size,rfl,Gh h2,hg q rfl,λi y hy=>?_⟩
   obtain ⟨es,k1,k2,k3⟩:=h6 i y hy
   refine ⟨es,k1,λj u hu=>?_,Cells.Fm (Aq _) (λ_ _ _=>rfl) (λk _ hk=>hD k hk) e es y k3⟩
   rw [cellOf h2,Dv,<-Dh]
   exact k2 j u hu
theorem oE {l off len:Nat} {v:Value} {e:Ty} {te:TypeId} {rows:List (List e.den)} {out:Option Nat} {kp:Option (Nat×Nat)} (h:Hj X w π H (.own l off len) v) (hl:Aw H l=some (.Bo e te rows out kp)):off+len<=rows.length/\Hs (π l) 1 off len v:=by
 obtain ⟨b,sz,n,h1,h2,h3,h4⟩:=h
 rw [hl] at h1;cases h1
 simp only [OB.row,Aa,Ah] at h2
 obtain ⟨rfl,rfl⟩:=h2
 exact ⟨h3,h4⟩
theorem tu {l off len:Nat} {v:Value} {e:Ty} {te:TypeId} {rows:List (List e.den)} {kp:Option (Nat×Nat)} {S:Nat->Prop} (h:Mr X w π H) (hl:Aw H l=some (.Bo e te rows none kp))
  (hlen:off+len<=rows.length) (hv:Hs (π l) 1 off len v)
  (hS: ∀k,S k->(∃r,π l=some r/\r.Cz k)->False) (hA: ∀k,S k->De X.w0.heap.size X.Sc π false k):Cells w S (.slice (.slice e)) [v] ((rows.drop off).take len):=by
 have hb:=(h.heap l).Rc hl
 simp only [Cn] at hb
 have hb:=hb.1
 cases hp:π l with
 |none=>
  rw [hp] at hb hv
  have hb:rows= []:=hb
  obtain ⟨rfl,rfl,rfl⟩:=hv
  exact ⟨none,0,0,rfl,by simp,Aq _, .inl (by simp)⟩
 |some r=>
  rw [hp] at hb hv
  obtain ⟨h1,cur,ti,h2,h3,h4,h5,Rs,h6,h7,h8,h9⟩:=hb
  obtain ⟨ad,rfl,g1,g2⟩:=hv
  refine ⟨some ad,len,_,rfl,by simp;omega,by omega,?_⟩
  rcases Tl len with hx|hx
  ·subst hx;exact .inl (by simp)
  ·have ZI:=g2 (by omega)
   subst ZI
   refine .inr ⟨r.g,(r.o+off)*1,rfl,Gh h2,λhs=>hS _ hs ⟨r,hp,h1⟩,λi x hx=>?_⟩
   have hx:((rows.drop off).take len)[i]?=some x:=hx
   rw [Dc] at hx
   split at hx
   ·rw [Db] at hx
    obtain ⟨u,R,k1,k2,k3,k4⟩:=h9 _ x hx (by simp)
    refine ⟨[u],rfl,λj u' ic=>?_,k4.slice k3 hA λq hq hs=>hS _ hs ⟨r,hp,(h7 _ q (by rw [k2,hq])).1⟩⟩
    rcases j with _|j
    ·simp only [Bz,Aa] at ic
     subst ic
     rw [cellOf h2,<-k1]
     congr 1
     simp only [Ty.size];omega
    ·simp at ic
   ·cases hx
theorem FE {l i c:Nat} {v:Value} {e:Ty} {te:TypeId} {rows:List (List e.den)} {out:Option Nat} {kp:Option (Nat×Nat)} (hv:Hj X w π H (.sub l i c) v) (hl:Aw H l=some (.Bo e te rows out kp)):rows[i]?=some (rows.getD i []):=by
 obtain ⟨r,b,sz,n,h1,h0,_,h3,_⟩:=hv
 rw [hl] at h1;cases h1
 simp only [OB.gK,Aa,Ah] at h0
 obtain ⟨rfl,rfl⟩:=h0
 rw [Al,Ad h3];rfl
theorem nU {l i:Nat} {e:Ty} {te:TypeId} {rows:List (List e.den)} {out:Option Nat} {kp:Option (Nat×Nat)} {r:Real} (h:Mr X w π H) (hl:Aw H l=some (.Bo e te rows out kp)) (hp:π l=some r) (hi:i<rows.length) (ho:out≠some i):
  ∃u R,w.cell? ⟨r.g,r.o+i,none⟩=some u/\Hs R e.size 0 (rows.getD i []).length u/\Sv w (De X.w0.heap.size X.Sc π false) R e (rows.getD i []):=by
 have hb:=(h.heap l).Rc hl
 simp only [Cn] at hb
 have hb:=hb.1
 rw [hp] at hb
 obtain ⟨h1,cur,ti,h2,h3,h4',h5',Rs,h6,h7,h8,h9⟩:=hb
 have hx:rows[i]?=some (rows.getD i []):=by rw [Al,Ad hi];rfl
 obtain ⟨u,R,k1,k2,k3,k4⟩:=h9 _ _ hx ho
 exact ⟨u,R,by rw [cellOf h2];exact k1,k3,k4⟩
theorem aW {R:Option Real} {sz off len:Nat} {u:Value} (h:Hs R sz off len u): ∃a n m,u= .slice a n m:=by
 cases R with
 |none=>exact ⟨_,_,_,h.1⟩
 |some q=>obtain ⟨ad,rfl,_⟩:=h;exact ⟨_,_,_,rfl⟩
theorem tv {l i c:Nat} {v:Value} {e:Ty} {te:TypeId} {rows:List (List e.den)} {kp:Option (Nat×Nat)} {x:List e.den} {S:Nat->Prop} (h:Mr X w π H) (hl:Aw H l=some (.Bo e te rows none kp)) (hx:rows[i]?=some x)
  (hv:Hj X w π H (.sub l i c) v)
  (hS: ∀k,S k->(∃r,π l=some r/\r.Cz k)->False) (hA: ∀k,S k->De X.w0.heap.size X.Sc π false k):Cells w S (.slice e) [v] x:=by
 obtain ⟨r,b,sz,n,h1,h0,hp,h3,⟨h4,_⟩,h5⟩:=hv
 rw [hl] at h1;cases h1
 simp only [OB.gK,Aa,Ah] at h0
 obtain ⟨rfl,rfl⟩:=h0
 have hb:=(h.heap l).Rc hl
 simp only [Cn] at hb
 have hb:=hb.1
 rw [hp] at hb
 obtain ⟨h1,cur,ti,h2,h3,h4',h5',Rs,h6,h7,h8,h9⟩:=hb
 obtain ⟨u,R,k1,k2,k3,k4⟩:=h9 _ x hx (by simp)
 have:c=0:=by omega
 subst this
 rw [cellOf h2,Fo,Dv,k1] at h5
 have hv:=Bd h5
 subst hv
 exact k4.slice k3 hA λq hq hs=>hS _ hs ⟨r,hp,(h7 _ q (by rw [k2,hq])).1⟩
theorem nc {l off len:Nat} {v:Value} {e:Ty} {tid:TypeId} {xs:List e.den} {S:Nat->Prop} (h:Mr X w π H) (hl:Aw H l=some (.Gx e tid xs))
  (hlen:off+len<=xs.length) (hv:Hs (π l) e.size off len v)
  (hS: ∀k,S k->(∃r,π l=some r/\r.Cz k)->False):Cells w S (.slice e) [v] ((xs.drop off).take len):=by
 have hb:=(h.heap l).Rc hl
 simp only [Cn,No] at hb
 cases hp:π l with
 |none=>
  rw [hp] at hb hv
  obtain ⟨rfl,rfl,rfl⟩:=hv
  exact ⟨none,0,0,rfl,by simp,Aq _, .inl (by simp)⟩
 |some r=>
  rw [hp] at hb hv
  obtain ⟨h1,cur,_,h2,h3,h4,h5,Fs,k1,k2,k3,k4⟩:=hb
  refine yg h2 hlen hv (λhs=>hS _ hs ⟨r,hp,h1⟩) λi x hx=>?_
  have hi:i<Fs.length:=by have:=(Ao.1 hx).1;omega
  obtain ⟨es,he,hj,zi⟩:=k4 i x _ hx (Ad hi)
  exact ⟨es,he,hj,zi.cells _ _ _ _ λb hb hs=>hS b hs ⟨r,hp,k3 b (Hi.2 ⟨_,An hi,hb⟩)⟩⟩
theorem St.Ri (st:St) (l m:Nat) (fr:Bool) (e:Ty) (xs:List e.den) (h:m≠l):Aw (st.freeze l fr e xs).heap m=(Aw st.heap m).map (OB.map (Dd l fr e xs)):=by
 simp only [St.freeze,St.Kv]
 rw [Nh _ _ _ h,Ol]
theorem St.Lz (st:St) (l:Nat) (fr:Bool) (e:Ty) (xs:List e.den):Aw (st.freeze l fr e xs).heap l=none:=by
 simp only [St.freeze,St.Kv]
 exact Mg _ _
theorem sO {l:Nat} {B:Nat} {Sc:Nat->Prop} {fr:Bool} {k:Nat} (hA:De B Sc (Ww π l none) fr k):De B Sc π fr k:=by
 rcases hA with ⟨m,r,hm,hg⟩|h2
 ·by_cases j9:m=l
  ·subst j9;rw [Gm] at hm;cases hm
  ·rw [Gi π none j9] at hm
   exact .inl ⟨m,r,hm,hg⟩
 ·exact .inr h2
theorem Mr.let (h:Mr X w π H) {l:Nat} {fr:Bool} (FJ:fr=true-> ∀r,π l=some r-> ∀b,r.Cz b->X.w0.heap.size<=b) {k:Nat} (hS:De X.w0.heap.size X.Sc (Ww π l none) fr k) (hk: ∃r,π l=some r/\r.Cz k):False:=by
 obtain ⟨r,hr,LX⟩:=hk
 rcases hS with ⟨m,r',hm,hg⟩|hS|⟨hf,hS⟩
 ·by_cases j9:m=l
  ·subst j9;rw [Gm] at hm;cases hm
  ·rw [Gi π none j9] at hm
   exact j9 (h.apart hm hr hg LX)
 ·have h1:=h.sc k hS
  rcases (h.own ⟨l,r,hr,LX⟩).2 with h2|h2
  ·omega
  ·exact h1.2 h2
 ·have:=FJ hf r hr k LX;omega
theorem Move.QS {l:Nat} {f:AC->AC} (hf: ∀c v,Hj X w π H c v->(∀k∈c.refs,k≠l)->f c=c)
  (hl: ∀c v,Hj X w π H c v->l∈c.refs->Hj X w (Ww π l none) H' (f c) v)
  (hH: ∀m,m≠l->Aw H' m=(Aw H m).map (OB.map f)):Move X w w π (Ww π l none) H H' f:=by
 have hc: ∀Wd τ cs x,Cells w (De X.w0.heap.size X.Sc π Wd) τ cs x->Cells w (De X.w0.heap.size X.Sc (Ww π l none) Wd) τ cs x:=
  fun Wd τ cs x hh=>Cells.Fm (Aq _) (λ_ _ _=>rfl) (λk _ hA=>sO hA) τ cs x hh
 refine ⟨λc v LO=>?_,hc⟩
 by_cases hlr:l∈c.refs
 ·exact hl c v LO hlr
 ·rw [hf c v LO λk hk e=>hlr (e▸hk)]
  cases c with
  |data Wd τ x=>obtain ⟨cs,h1,h2⟩:=LO;exact ⟨cs,hc _ _ _ _ h1,h2⟩
  |own k off len=>
   have My:k≠l:= λe=>hlr (by simp [AC.refs,e])
   obtain ⟨b,sz,n,h1,h0,h2,h3⟩:=LO
   exact ⟨b.map f,sz,n,by rw [hH k My,h1];rfl,by cases b<;>exact h0,h2,by rw [Gi π none My];exact h3⟩
  |He k i=>
   have My:k≠l:= λe=>hlr (by simp [AC.refs,e])
   obtain ⟨r,Ux,vs,h1,h2,h3⟩:=LO
   exact ⟨r,Ux,vs.map f,by rw [hH k My,h1];rfl,by rw [Gi π none My];exact h2,h3⟩
  |Jv k i=>
   have My:k≠l:= λe=>hlr (by simp [AC.refs,e])
   obtain ⟨r,b,sz,n,h1,h0,h2,h3,h4⟩:=LO
   exact ⟨r,b.map f,sz,n,by rw [hH k My,h1];rfl,by cases b<;>exact h0,h2,by rw [Gi π none My];exact h3,h4⟩
  |sub k i c=>
   have My:k≠l:= λe=>hlr (by simp [AC.refs,e])
   obtain ⟨r,b,sz,n,h1,h0,h2,h3⟩:=LO
   exact ⟨r,b.map f,sz,n,by rw [hH k My,h1];rfl,by cases b<;>exact h0,by rw [Gi π none My];exact h2,h3⟩
  |Js k i c=>
   have My:k≠l:= λe=>hlr (by simp [AC.refs,e])
   obtain ⟨r,b,n,sz,g,o,len,cap,h1,h0,h2,h3⟩:=LO
   exact ⟨r,b.map f,n,sz,g,o,len,cap,by rw [hH k My,h1];rfl,by cases b<;>exact h0,by rw [Gi π none My];exact h2,h3⟩
  |clo g Ek=>
   obtain ⟨us,h1,h2,h3⟩:=LO
   refine ⟨us,h1,h2,λj p hp=>?_⟩
   obtain ⟨r,tid,vs,h4,h5,h6⟩:=h3 j p hp
   have lq:p.1≠l:= λe=>hlr (by simp only [AC.refs,Ba];exact ⟨p,Cp hp,e⟩)
   exact ⟨r,tid,vs.map f,by rw [hH _ lq,h4];rfl,by rw [Gi π none lq];exact h5,h6⟩
  |Kh k=>
   have My:k≠l:= λe=>hlr (by simp [AC.refs,e])
   obtain ⟨r,vt,m,h1,h2,h3⟩:=LO
   exact ⟨r,vt,m,by rw [hH k My,h1];rfl,by rw [Gi π none My];exact h2,h3⟩
  |_=>exact LO
theorem iN {l:Nat} {ls:List Nat} (h: ∀k∈ls,k≠l):ls.contains l=false:=by
 cases hc:ls.contains l with
 |false=>rfl
 |true=>exact absurd rfl (h l (by simpa using hc))
theorem j4 {l:Nat} {fr:Bool} {e:Ty} {xs:List e.den} {c:AC} (h: ∀k∈c.refs,k≠l):Dd l fr e xs c=c:=by
 cases c<;>simp only [Dd]<;>first|rfl|skip
 case clo f Ek=>rw [Ak (by rw [iN (show ∀k∈Ek.map (·.1),k≠l from h)];simp)]
 all_goals rw [Ak (h _ (by simp [AC.refs]))]
theorem tt {l:Nat} {v:Ty} {m:ByteArray->Option v.den} {c:AC} (h: ∀k∈c.refs,k≠l):Ha l v m c=c:=by
 cases c<;>simp only [Ha]<;>first|rfl|skip
 case clo f Ek=>rw [Ak (by rw [iN (show ∀k∈Ek.map (·.1),k≠l from h)];simp)]
 all_goals rw [Ak (h _ (by simp [AC.refs]))]
theorem Move.freeze {l:Nat} {fr:Bool} {e:Ty} {xs:List e.den}
  (Aoo: ∀off len v,Hj X w π H (.own l off len) v->Cells w (De X.w0.heap.size X.Sc (Ww π l none) fr) (.slice e) [v] ((xs.drop off).take len))
  (hH: ∀m,m≠l->Aw H' m=(Aw H m).map (OB.map (Dd l fr e xs))):Move X w w π (Ww π l none) H H' (Dd l fr e xs):=by
 refine Move.QS (λc v _ h=>j4 h) (λc v LO hr=>?_) hH
 cases c with
 |own k off len=>
  have:k=l:=(Ae.1 hr).symm
  subst this
  simp only [Dd,Ab]
  exact ⟨[v],Aoo off len v LO,by simp [Ce,Ty.Ap]⟩
 |He k i=>have:k=l:=(Ae.1 hr).symm
          subst this;simp only [Dd,Ab];trivial
 |Jv k i=>have:k=l:=(Ae.1 hr).symm
          subst this;simp only [Dd,Ab];trivial
 |sub k i c=>have:k=l:=(Ae.1 hr).symm
             subst this;simp only [Dd,Ab];trivial
 |Js k i c=>have:k=l:=(Ae.1 hr).symm
            subst this;simp only [Dd,Ab];trivial
 |Kh k=>have:k=l:=(Ae.1 hr).symm
        subst this;simp only [Dd,Ab];trivial
 |clo f Ek=>
  simp only [Dd]
  rw [Ab (by simpa [AC.refs] using hr)];trivial
 |_=>simp [AC.refs] at hr
theorem Bl.freeze {st:St} {a:Act} (h:Bl X π st a w) {l:Nat} {fr:Bool} {e:Ty} {xs:List e.den}
  (hl:(∃tr tid,Aw st.heap l=some (.arr fr tr e tid xs))\/(fr=false/\ ∃tid,Aw st.heap l=some (.Gx e tid xs))):
  Bl X (Ww π l none) (st.freeze l fr e xs) a w/\Move X w w π (Ww π l none) st.heap (st.freeze l fr e xs).heap (Dd l fr e xs):=by
 have m:Move X w w π (Ww π l none) st.heap (st.freeze l fr e xs).heap (Dd l fr e xs):=by
  refine Move.freeze (λoff len v hv=>?_) (λm hm=>St.Ri st l m fr e xs hm)
  rcases hl with ⟨tr,tid,hl⟩|⟨rfl,tid,hl⟩
  ·obtain ⟨h2,h3⟩:=Oc hv hl
   refine pR h.1 hl h2 h3 (λk hk=>?_) λk _ hk=>sO hk
   intro ⟨r,hr,LX⟩
   have hb:=(h.1.heap l).Rc hl
   simp only [Cn,Jt,hr] at hb
   by_cases hkg:k=r.g
   ·subst hkg
    rcases hk with ⟨m,r',hm,hg⟩|hS|⟨hf,hS⟩
    ·by_cases j9:m=l
     ·subst j9;rw [Gm] at hm;cases hm
     ·rw [Gi π none j9] at hm
      exact j9 (h.1.apart hm hr hg LX)
    ·have h1:=h.1.sc _ hS
     rcases (h.1.own ⟨l,r,hr,LX⟩).2 with h2|h2
     ·omega
     ·exact h1.2 h2
    ·have:=hb.1.2.2 hf;omega
   ·exact absurd (hb.1.2.1 k LX) hkg
  ·obtain ⟨h2,h3⟩:=bZ hv hl
   exact nc h.1 hl h2 h3 λk hk hr=>h.1.let (λhf=>by cases hf) hk hr
 refine ⟨⟨h.1.drop l m (St.Lz st l fr e xs) λk e'=>St.Ri st l k fr e xs e',?_⟩,m⟩
 have hh:sB X w (Ww π l none) {tmps:=st.tmps.map (·.map (Dd l fr e xs)),heap:=(st.freeze l fr e xs).heap} a:=m.NU rfl h.2
 exact hh
theorem St.Qr (st:St) (l k:Nat) (v:Ty) (m:ByteArray->Option v.den) (h:k≠l):Aw (st.Ik l v m).heap k=(Aw st.heap k).map (OB.map (Ha l v m)):=by
 simp only [St.Ik,St.Kv]
 rw [Nh _ _ _ h,Ol]
theorem St.Sy (st:St) (l:Nat) (v:Ty) (m:ByteArray->Option v.den):Aw (st.Ik l v m).heap l=none:=by
 simp only [St.Ik,St.Kv]
 exact Mg _ _
theorem yt {r:Option Real} {v:Ty} {m:ByteArray->Option v.den} {g:Nat} {S:Nat->Prop} (h:YB w r v m) (hg:r.map (·.g)=some g) (hS: ¬S g):Cells w S (.smap v) [.map (some g)] m:=by
 obtain ⟨r',h0,h1,h2,h3⟩:=h
 rw [h0] at hg
 simp only [Am,Aa] at hg
 subst hg
 simp only [Cells] at h3⊢
 rcases h3 with ⟨h3,_⟩|⟨g,h3,hg,_,es,clock,h4,h5,h6,h7⟩
 ·simp at h3
 ·simp only [Gu,Value.map.injEq,Aa,Oa] at h3
  subst h3
  refine .inr ⟨r'.g,rfl,hg,hS,es,clock,h4,h5,h6,λs y hy=>?_⟩
  obtain ⟨u,h8,h9⟩:=h7 s y hy
  exact ⟨u,h8,Cells.flat v [u] y h2.1 h9⟩
theorem Bl.Ik {st:St} {a:Act} (h:Bl X π st a w) {l:Nat} {v:Ty} {m:ByteArray->Option v.den} (hl:Aw st.heap l=some (.Vq v m)):
  Bl X (Ww π l none) (st.Ik l v m) a w/\Move X w w π (Ww π l none) st.heap (st.Ik l v m).heap (Ha l v m):=by
 have mv:Move X w w π (Ww π l none) st.heap (st.Ik l v m).heap (Ha l v m):=by
  refine Move.QS (λc u _ h=>tt h) (λc u LO hr=>?_) (λk hk=>St.Qr st l k v m hk)
  cases c with
  |Kh k=>
   have:k=l:=(Ae.1 hr).symm
   subst this
   simp only [Ha,Ab]
   obtain ⟨r,vt,m',h1,h2,rfl⟩:=LO
   exact ⟨[_],yt ((h.1.heap k).Rc hl) (by rw [h2];rfl) λhS=>h.1.let (λhf=>by cases hf) hS ⟨r,h2,h.1.Cz h2⟩,by simp [Ce,Ty.Ap]⟩
  |own k off len=>have:k=l:=(Ae.1 hr).symm
                  subst this;simp only [Ha,Ab];trivial
  |He k i=>have:k=l:=(Ae.1 hr).symm
           subst this;simp only [Ha,Ab];trivial
  |Jv k i=>have:k=l:=(Ae.1 hr).symm
           subst this;simp only [Ha,Ab];trivial
  |sub k i c=>have:k=l:=(Ae.1 hr).symm
              subst this;simp only [Ha,Ab];trivial
  |Js k i c=>have:k=l:=(Ae.1 hr).symm
             subst this;simp only [Ha,Ab];trivial
  |clo f Ek=>
   simp only [Ha]
   rw [Ab (by simpa [AC.refs] using hr)];trivial
  |_=>simp [AC.refs] at hr
 refine ⟨⟨h.1.drop l mv (St.Sy st l v m) λk e'=>St.Qr st l k v m e',?_⟩,mv⟩
 have hh:sB X w (Ww π l none) {tmps:=st.tmps.map (·.map (Ha l v m)),heap:=(st.Ik l v m).heap} a:=mv.NU rfl h.2
 exact hh
def OB.fits:OB->OB->Prop
 | .arr _ _ e _ xs, .arr _ _ e' _ xs'=>e=e'/\xs.length<=xs'.length
 | .var _ _, .var _ _=>True
 | .Vq _ _, .Vq _ _=>True
 |_,_=>False
theorem Move.Aif {tc:Nat->Prop} {π':Pi} (hs:w.heap.size<=w'.heap.size)
  (hk: ∀k,k<w.heap.size->(∀l r,tc l->π l=some r-> ¬r.Cz k)->w'.heap[k]?=w.heap[k]?)
  (hO: ∀b,b<w.heap.size->Vu π' b->Vu π b)
  (hH: ∀m,¬tc m->Aw H' m=Aw H m/\π' m=π m) (hH': ∀m,tc m->bw (π m) (π' m)/\ ∀b0,Aw H m=some b0-> ∃b,Aw H' m=some b/\b0.fits b)
  (hx: ∀m r,¬tc m->π m=some r->(∃b,Aw H m=some b/\b.gK≠none)->r.g<w.heap.size->w'.heap[r.g]?=w.heap[r.g]?):Move X w w' π π' H H' (λc=>c):=by
 have hc: ∀fr τ cs x,Cells w (De X.w0.heap.size X.Sc π fr) τ cs x->Cells w' (De X.w0.heap.size X.Sc π' fr) τ cs x:=by
  intro fr τ cs x h
  exact Cells.Fm hs (λk ng hn=>hk k ng λl r _ h0 h1=>hn (.inl ⟨l,r,h0,h1⟩)) (λk Jc hA=>hA.imp (hO k Jc) id) τ cs x h
 have same: ∀m r,π m=some r-> ∃r',π' m=some r'/\r.g=r'.g/\r.o=r'.o/\r.cap=r'.cap:=by
  intro m r hm
  by_cases ht:tc m
  ·have:=(hH' m ht).1
   rw [hm] at this
   cases hp:π' m with
   |none=>rw [hp] at this;exact this.elim
   |some r'=>rw [hp] at this;exact ⟨r',rfl,this.1,this.2.1,this.2.2.1⟩
  ·exact ⟨r,by rw [(hH m ht).2];exact hm,rfl,rfl,rfl⟩
 have fit: ∀m b,Aw H m=some b-> ∃b',Aw H' m=some b'/\(b'=b\/b.fits b'):=by
  intro m b hm
  by_cases ht:tc m
  ·obtain ⟨b',h1,h2⟩:=(hH' m ht).2 b hm;exact ⟨b',h1, .inr h2⟩
  ·exact ⟨b,by rw [(hH m ht).1];exact hm, .inl rfl⟩
 refine ⟨λc v h=>?_,hc⟩
 cases c with
 |data fr τ x=>obtain ⟨cs,h1,h2⟩:=h;exact ⟨cs,hc _ _ _ _ h1,h2⟩
 |own k off len=>
  obtain ⟨b,sz,n,h1,h0,h2,h3⟩:=h
  have vN:Hs (π' k) sz off len v:=by
   cases hp:π k with
   |none=>
    rw [hp] at h3
    have:π' k=none:=by
     by_cases ht:tc k
     ·have:=(hH' k ht).1
      rw [hp] at this
      cases nW:π' k with
      |none=>rfl
      |some r'=>rw [nW] at this;exact this.elim
     ·rw [(hH k ht).2];exact hp
    rw [this];exact h3
   |some r=>
    rw [hp] at h3
    obtain ⟨r',h4,h5,h6,h7⟩:=same k r hp
    rw [h4]
    unfold Hs at h3⊢
    simp only at h3⊢
    rw [<-h5,<-h6,<-h7]
    exact h3
  obtain ⟨b',h4,h5⟩:=fit k b h1
  rcases h5 with rfl|h5
  ·exact ⟨_,sz,n,h4,h0,h2,vN⟩
  ·cases b<;>cases b'<;>first|exact h5.elim|(simp [OB.row] at h0;done)|skip
   ·obtain ⟨rfl,hlen⟩:=h5
    simp only [OB.row,Aa,Ah] at h0
    obtain ⟨rfl,rfl⟩:=h0
    exact ⟨_,_,_,h4,rfl,by omega,vN⟩
 |He k i=>
  obtain ⟨r,tid,vs,h1,h2,h3⟩:=h
  obtain ⟨r',h4,h5,_⟩:=same k r h2
  obtain ⟨b',h6,h7⟩:=fit k _ h1
  rcases h7 with rfl|h7
  ·exact ⟨r',tid,vs,h6,h4,by rw [<-h5];exact h3⟩
  ·cases b'<;>first|exact h7.elim|exact ⟨r',_,_,h6,h4,by rw [<-h5];exact h3⟩
 |Jv k i=>
  obtain ⟨r,b,sz,n,h1,h0,h2,h3,h4⟩:=h
  obtain ⟨r',h5,h6,h7,_⟩:=same k r h3
  obtain ⟨b',h8,h9⟩:=fit k _ h1
  rcases h9 with rfl|h9
  ·exact ⟨r',_,sz,n,h8,h0,h2,h5,by rw [<-h6,<-h7];exact h4⟩
  ·cases b<;>cases b'<;>first|exact h9.elim|(simp [OB.row] at h0;done)|skip
   obtain ⟨rfl,hlen⟩:=h9
   simp only [OB.row,Aa,Ah] at h0
   obtain ⟨rfl,rfl⟩:=h0
   exact ⟨r',_,_,_,h8,rfl,by omega,h5,by rw [<-h6,<-h7];exact h4⟩
 |sub k i c=>
  obtain ⟨r,b,sz,n,h1,h0,h2,h3,h4,h5⟩:=h
  by_cases ht:tc k
  ·obtain ⟨b',h6,h7⟩:=(hH' k ht).2 _ h1
   cases b<;>first|(cases h0;done)|skip
   all_goals (cases b'<;>exact h7.elim)
  ·exact ⟨r,b,sz,n,by rw [(hH k ht).1];exact h1,h0,by rw [(hH k ht).2];exact h2,h3,h4,by rw [World.cell?_of_block (hx k r ht h2 ⟨b,h1,by rw [h0];simp⟩ (cC h5))];exact h5⟩
 |Js k i c=>
  obtain ⟨r,b,n,sz,g,o,len,cap,h1,h0,h2,h3,h4,h5,h6⟩:=h
  by_cases ht:tc k
  ·obtain ⟨b',h6,h7⟩:=(hH' k ht).2 _ h1
   cases b<;>first|(cases h0;done)|skip
   all_goals (cases b'<;>exact h7.elim)
  ·exact ⟨r,b,n,sz,g,o,len,cap,by rw [(hH k ht).1];exact h1,h0,by rw [(hH k ht).2];exact h2,h3,h4,by rw [World.cell?_of_block (hx k r ht h2 ⟨b,h1,by cases b<;>first|(cases h0;done)|simp [OB.gK]⟩ (cC h5))];exact h5,h6⟩
 |clo f Ek=>
  obtain ⟨us,h1,h2,h3⟩:=h
  refine ⟨us,h1,h2,λj p hp=>?_⟩
  obtain ⟨r,tid,vs,h4,h5,h6⟩:=h3 j p hp
  obtain ⟨r',h7,h8,_⟩:=same _ r h5
  obtain ⟨b',h9,oX⟩:=fit _ _ h4
  rcases oX with rfl|oX
  ·exact ⟨r',tid,vs,h9,h7,by rw [<-h8];exact h6⟩
  ·cases b'<;>first|exact oX.elim|exact ⟨r',_,_,h9,h7,by rw [<-h8];exact h6⟩
 |Kh k=>
  obtain ⟨r,vt,m,h1,h2,h3⟩:=h
  obtain ⟨r',h4,h5,_⟩:=same k r h2
  obtain ⟨b',h6,h7⟩:=fit k _ h1
  rcases h7 with rfl|h7
  ·exact ⟨r',vt,m,h6,h4,by rw [<-h5];exact h3⟩
  ·cases b'<;>first|exact h7.elim|exact ⟨r',_,_,h6,h4,by rw [<-h5];exact h3⟩
 |_=>exact h
def Real.plus (r:Real) (N:List Nat):Real:= {r with cl:= λc=>r.cl c\/c∈N}
theorem Bl.Avd {st:St} {a:Act} (h:Bl X π st a w) {l:Nat} {b0 b:OB} (hl:Aw st.heap l=some b0) (hf:b0.fits b) {r:Real} (hr:π l=some r) {N:List Nat}
  (hN: ∀c∈N,(X.w0.heap.size<=c\/X.gv c)/\c<w.heap.size/\ ∀m r0,m≠l->π m=some r0-> ¬r0.cl c) (hg:w.grownBy w' (some r.g))
  (hb:Move X w w' π (Ww π l (some (r.plus N))) st.heap (st.Jr l b).heap (λc=>c)->Cn X w' (Ww π l (some (r.plus N))) (st.Jr l b).heap (some (r.plus N)) b):Bl X (Ww π l (some (r.plus N))) (st.Jr l b) a w':=by
 have hk: ∀k,k<w.heap.size-> ¬r.Cz k->w'.heap[k]?=w.heap[k]?:= λk hk hn=>hg.block k hk (by
  intro e
  simp only [Aa] at e
  exact hn (e▸h.1.Cz hr))
 have vP: ∀k q,Ww π l (some (r.plus N)) k=some q-> ∃q0,π k=some q0/\(q=q0\/(k=l/\q0=r/\q=r.plus N)):= λk q hq=>by
  by_cases e:k=l
  ·subst e;rw [Gm] at hq;exact ⟨r,hr, .inr ⟨rfl,rfl,(Bd hq).symm⟩⟩
  ·rw [Gi π _ e] at hq;exact ⟨q,hq, .inl rfl⟩
 have cl': ∀k q q0 c,(q=q0\/(k=l/\q0=r/\q=r.plus N))->q.cl c->q0.cl c\/(k=l/\c∈N):= λk q q0 c h1 h2=>by
  rcases h1 with rfl|⟨rfl,rfl,rfl⟩
  ·exact .inl h2
  ·rcases h2 with h2|h2
   ·exact .inl h2
   ·exact .inr ⟨rfl,h2⟩
 have ft: ∀k q q0 c,(q=q0\/(k=l/\q0=r/\q=r.plus N))->(q.Cz c↔q0.Cz c):= λk q q0 c h1=>by
  rcases h1 with rfl|⟨rfl,rfl,rfl⟩<;>exact Iff.rfl
 have m:Move X w w' π (Ww π l (some (r.plus N))) st.heap (st.Jr l b).heap (λc=>c):=Move.Aif (tc:= λk=>k=l) hg.size (λk Jc hn=>hk k Jc (hn l r rfl hr)) (λc _ ⟨k,q,h1,h2⟩=>by
   obtain ⟨q0,h3,h4⟩:=vP k q h1
   exact ⟨k,q0,h3,(ft k q q0 c h4).1 h2⟩)
  (λm hm=>⟨Eg _ _ _ _ hm,Gi π _ hm⟩) (λm hm=>by subst hm;exact ⟨by rw [hr,Gm];exact ⟨rfl,rfl,rfl,λ_=>Iff.rfl⟩,λb1 h1=>by rw [hl] at h1;cases h1;exact ⟨b,Fb _ _ _ _ hl,hf⟩⟩)
  (λm r' hm h1 _ Jc=>hk _ Jc λh3=>hm (h.1.apart h1 hr (h.1.Cz h1) h3))
 refine ⟨⟨?_,h.1.sc,λk q c h1 h2=>?_,λk q c h1 h2=>?_,λk k' q q' c h1 h2 h3 h4=>?_,λk hp Ig=>?_,λk=>?_⟩,?_⟩
 ·exact h.1.below.grown hg h.1.below.size λk hk=>by cases hk;exact (h.1.lt hr).2
 ·obtain ⟨q0,h3,h4⟩:=vP k q h1
  have:=h.1.sub k q0 c h3 ((ft k q q0 c h4).1 h2)
  rcases h4 with rfl|⟨rfl,rfl,rfl⟩
  ·exact this
  ·exact .inl this
 ·obtain ⟨q0,h3,h4⟩:=vP k q h1
  rcases cl' k q q0 c h4 h2 with h5|⟨_,h5⟩
  ·exact ⟨(h.1.place k q0 c h3 h5).1,El (h.1.place k q0 c h3 h5).2 hg.size⟩
  ·exact ⟨(hN c h5).1,El (hN c h5).2.1 hg.size⟩
 ·obtain ⟨q0,g1,g2⟩:=vP k q h1
  obtain ⟨q0',g3,g4⟩:=vP k' q' h2
  rcases cl' k q q0 c g2 h3 with h5|⟨h5,h6⟩<;>rcases cl' k' q' q0' c g4 h4 with h7|⟨h7,h8⟩
  ·exact h.1.inj k k' q0 q0' c g1 g3 h5 h7
  ·refine Bk λhn=>(hN c h8).2.2 k q0 (λe=>hn (e.trans h7.symm)) g1 h5
  ·refine Bk λhn=>(hN c h6).2.2 k' q0' (λe=>hn (h5.trans e.symm)) g3 h7
  ·rw [h5,h7]
 ·by_cases e:k=l
  ·subst e
   have:=h.1.iu k hp (by rw [hl];simp)
   rw [hr] at this
   rw [Gm]
   cases hx:X.iu k with
   |none=>rw [hx] at this;exact this.elim
   |some q=>rw [hx] at this;exact this
  ·rw [Gi π _ e]
   exact h.1.iu k hp λh0=>Ig (by rw [show Aw (st.Jr l b).heap k=Aw st.heap k from Eg _ _ _ _ e];exact h0)
 ·by_cases e:k=l
  ·subst e
   exact Gg.Lk (by rw [Gm];exact hb m) (Fb _ _ _ _ hl)
  ·have hn:Aw (st.Jr l b).heap k=Aw st.heap k:=Eg _ _ _ _ e
   have ho:=h.1.heap k
   cases gI:Aw st.heap k with
   |none=>rw [gI] at hn;exact Gg.Uk (by rw [Gi π _ e];exact ho.emp gI) hn
   |some c=>
    rw [gI] at hn
    refine Gg.Lk ?_ hn
    rw [Gi π _ e]
    have:=(ho.Rc gI).move m hg.size (λr0 c h0 h1=>h.1.sub _ r0 c h0 h1) λr0 c h0 h1 Jc=>hk _ Jc λh3=>e (h.1.inj _ _ r0 r c h0 hr h1 (h.1.sub _ _ _ hr h3))
    cases c with
    |var tid vs=>simpa [OB.map] using this
    |_=>exact this
 ·exact ⟨h.2.size,h.2.defers,λt=>by have:=m.av (h.2.tmps t);rwa [AC.map_id] at this⟩
theorem Bl.set {st:St} {a:Act} (h:Bl X π st a w) {l:Nat} {b0 b:OB} (hl:Aw st.heap l=some b0) (hf:b0.fits b)
  (hg:w.grownBy w' ((π l).map (·.g)))
  (hb:Move X w w' π π st.heap (st.Jr l b).heap (λc=>c)->Cn X w' π (st.Jr l b).heap (π l) b):Bl X π (st.Jr l b) a w':=by
 have hk: ∀k,k<w.heap.size->(∀r,π l=some r-> ¬r.Cz k)->w'.heap[k]?=w.heap[k]?:= λk hk hn=>hg.block k hk (by
  intro e
  cases hp:π l with
  |none=>rw [hp] at e;cases e
  |some r=>rw [hp] at e;simp only [Am,Aa] at e;exact hn r hp (e▸h.1.Cz hp))
 have m:Move X w w' π π st.heap (st.Jr l b).heap (λc=>c):=Move.Aif (tc:= λk=>k=l) hg.size (λk Jc hn=>hk k Jc λr hr=>hn l r rfl hr) (λ_ _ h=>h)
  (λm hm=>⟨Eg _ _ _ _ hm,rfl⟩) (λm hm=>by subst hm;exact ⟨bw.rfl' _,λb1 h1=>by rw [hl] at h1;cases h1;exact ⟨b,Fb _ _ _ _ hl,hf⟩⟩)
  (λm r hm h1 _ Jc=>hk _ Jc λr1 h2 h3=>hm (h.1.apart h1 h2 (h.1.Cz h1) h3))
 refine ⟨⟨?_,h.1.sc,h.1.sub,λk r c h1 h2=>⟨(h.1.place k r c h1 h2).1,El (h.1.place k r c h1 h2).2 hg.size⟩,h.1.inj,λk hp Ig=>h.1.iu k hp λh0=>Ig ?_,λk=>?_⟩,?_⟩
 ·refine h.1.below.grown hg h.1.below.size λk hk=>?_
  cases hp:π l with
  |none=>rw [hp] at hk;cases hk
  |some r=>rw [hp] at hk;simp only [Am,Aa] at hk;rw [<-hk];exact (h.1.lt hp).2
 ·have:k≠l:= λe=>by subst e;rw [hl] at h0;cases h0
  rw [show Aw (st.Jr l b).heap k=Aw st.heap k from Eg _ _ _ _ this];exact h0
 ·by_cases e:k=l
  ·subst e
   exact Gg.Lk (hb m) (Fb _ _ _ _ hl)
  ·have hn:Aw (st.Jr l b).heap k=Aw st.heap k:=Eg _ _ _ _ e
   have ho:=h.1.heap k
   cases gI:Aw st.heap k with
   |none=>rw [gI] at hn;exact Gg.Uk (ho.emp gI) hn
   |some c=>
    rw [gI] at hn
    refine Gg.Lk ?_ hn
    have:=(ho.Rc gI).move m hg.size (λr0 c h0 h1=>h.1.sub _ r0 c h0 h1) λr0 c h0 h1 Jc=>hk _ Jc λr1 h2 h3=>e (h.1.inj _ _ r0 r1 c h0 h2 h1 (h.1.sub _ _ _ h2 h3))
    cases c with
    |var tid vs=>simpa [OB.map] using this
    |_=>exact this
 ·exact ⟨h.2.size,h.2.defers,λt=>by have:=m.av (h.2.tmps t);rwa [AC.map_id] at this⟩
end
end Go.Proofs.Ytkkdpknjohcekaa
