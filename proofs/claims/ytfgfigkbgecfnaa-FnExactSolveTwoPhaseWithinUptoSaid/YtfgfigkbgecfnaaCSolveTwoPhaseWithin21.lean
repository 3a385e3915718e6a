/-
  Part 22 of the proof that the statement FnExactSolveTwoPhaseWithin holds.
-/
import Derived.Test.YtfgfigkbgecfnaaCSolveTwoPhaseWithin20
namespace Go.Proofs.Ytfgfigkbgecfnaa
open Go.RowKit
section
variable {P:Program} {T:Tab} {X:Ctx} {w w':World} {π π':Pi} {H H':List (Nat×OB)}
def sR (w:World) (D:Nat->Prop) (us:List Value) (Rs:List (Option Real)) (e:Ty) (rows:List (List e.den)):Prop:=
 us.length=rows.length/\Rs.length=rows.length/\(∀(i j:Nat) (q q':Real),Rs[i]?=some (some q)->Rs[j]?=some (some q')->q.g=q'.g->i=j)/\
  ∀(i:Nat) (x:List e.den),rows[i]?=some x-> ∃u R,us[i]?=some u/\Rs[i]?=some R/\Ih R e.size 0 x.length u/\Tr w D R e x
theorem sR.append {D:Nat->Prop} {u1 u2:List Value} {R1 R2:List (Option Real)} {e:Ty} {r1 r2:List (List e.den)} (h1:sR w D u1 R1 e r1) (h2:sR w D u2 R2 e r2)
  (ha: ∀(i j:Nat) (q q':Real),R1[i]?=some (some q)->R2[j]?=some (some q')->q.g≠q'.g):sR w D (u1++u2) (R1++R2) e (r1++r2):=by
 obtain ⟨a1,a2,a3,a4⟩:=h1;obtain ⟨b1,b2,b3,b4⟩:=h2;refine ⟨by simp [a1,b1],by simp [a2,b2],λi j q q' h1 h2 he=>?_,λi x hx=>?_⟩
 ·by_cases hi:i<R1.length<;>by_cases hj:j<R1.length
  ·rw [Au hi] at h1;rw [Au hj] at h2;exact a3 i j q q' h1 h2 he
  ·rw [Au hi] at h1;rw [As (by omega)] at h2;exact absurd he (ha i _ q q' h1 h2)
  ·rw [As (by omega)] at h1;rw [Au hj] at h2;exact absurd he.symm (ha j _ q' q h2 h1)
  ·rw [As (by omega)] at h1 h2;have:=b3 _ _ q q' h1 h2 he;omega
 ·by_cases hi:i<r1.length
  ·rw [Au hi] at hx;obtain ⟨u,R,g1,g2,g3⟩:=a4 i x hx;exact ⟨u,R,by rw [Au (by omega)];exact g1,by rw [Au (by omega)];exact g2,g3⟩
  ·rw [As (by omega)] at hx;obtain ⟨u,R,g1,g2,g3⟩:=b4 _ x hx;exact ⟨u,R,by rw [As (by omega),a1];exact g1,by rw [As (by omega),a2];exact g2,g3⟩
theorem ai {st:St} {a:Act} (h:Bs X π st a w) {k m:Nat} (ub:k<Bv) (hmp:m<Bv) {e:Ty} (te:TypeId) {rows:List (List e.den)} {us:List Value} {Rs:List (Option Real)} {w1:World} {gv:Nat->Prop}
  {g o cap:Nat} {cur:Array Value} {ti:TypeId}
  (UT: ∀b,gv b-> ∃l q,(l=k\/l=m)/\π l=some q/\q.Df b) (hb:Lk w.heap.size gv w w1)
  (hgn:(w.heap.size<=g\/ ∃l q,(l=k\/l=m)/\π l=some q/\q.Df g)/\g<w1.heap.size)
  (SB:w1.heap[g]?=some (.cells cur ti (0,0))) (Uj:cur.size=o+cap) (hcm:cap<=maxLen) (hn:rows.length<=cap) (iC: ∀j u,us[j]?=some u->cur[o+j]?=some u)
  (hL:sR w (Dk X.w0.heap.size X.Sc π false) us Rs e rows)
  (hRs: ∀(i:Nat) (q:Real),Rs[i]?=some (some q)->q.g≠g/\ ¬gv q.g/\ ∃l p,(l=k\/l=m)/\π l=some p/\p.Df q.g):
  ∃π',Bs X π' (Rq st k m (.Ca e te rows none none)) a w1/\ ∀n,n=rows.length->Bx X w1 π' (Rq st k m (.Ca e te rows none none)).heap (.at (.own k 0 n)) (.slice (some ⟨g,o,none⟩) n cap):=by
 let F:Nat->Prop:= λb=>b=g\/ ∃l q,(l=k\/l=m)/\π l=some q/\q.Df b
 let r:Real:=⟨g,o,cap,F,F⟩
 let π':Pi:= λl=>if l=k then some r else if l=m then none else π l
 have Alc:π' k=some r:=Ac rfl;have ju: ∀l,l≠k->l≠m->π' l=π l:= λl g1 g2=>(Ai g1).trans (Ai g2);have zS: ∀l,l≠k->l=m->π' l=none:= λl g1 g2=>(Ai g1).trans (Ac g2)
 have wm: ∀l q,π' l=some q->(l=k/\q=r)\/(l≠k/\l≠m/\π l=some q):= λl q hq=>by
  by_cases e1:l=k
  ·subst e1;rw [Alc] at hq;exact .inl ⟨rfl,(Bi hq).symm⟩
  ·by_cases e2:l=m
   ·rw [zS l e1 e2] at hq;cases hq
   ·rw [ju l e1 e2] at hq;exact .inr ⟨e1,e2,hq⟩
 have hFc: ∀b,F b->w.heap.size<=b\/ ∃l q,(l=k\/l=m)/\π l=some q/\q.cl b:= λb hf=>by
  rcases hf with rfl|⟨l,q,h1,h2,h3⟩
  ·rcases hgn.1 with h1|⟨l,q,h1,h2,h3⟩
   ·exact .inl h1
   ·exact .inr ⟨l,q,h1,h2,h.1.sub l q _ h2 h3⟩
  ·exact .inr ⟨l,q,h1,h2,h.1.sub l q _ h2 h3⟩
 have Au4: ∀b,F b->(X.w0.heap.size<=b\/X.gv b)/\b<w1.heap.size:= λb hf=>by
  have key: ∀l q,π l=some q->q.cl b->(X.w0.heap.size<=b\/X.gv b)/\b<w1.heap.size:= λl q h1 h2=>⟨(h.1.place l q b h1 h2).1,Ep (h.1.place l q b h1 h2).2 hb.size⟩
  have h0:=hf;rcases hFc b hf with h1|⟨l,q,_,h2,h3⟩
  ·rcases h0 with rfl|⟨l,q,_,h2,h3⟩
   ·exact ⟨.inl (Gz h.1.below.size h1),hgn.2⟩
   ·exact key l q h2 (h.1.sub l q _ h2 h3)
  ·exact key l q h2 h3
 have ue: ∀l q b,l≠k->l≠m->π l=some q->q.cl b-> ¬F b:= λl q b h1 h2 h3 h4 hf=>by
  rcases hFc b hf with h5|⟨l',q',h5,h6,h7⟩
  ·have:=(h.1.place l q b h3 h4).2;omega
  ·have:=h.1.inj l l' q q' b h3 h6 h4 h7;subst this;rcases h5 with h5|h5
   ·exact h1 h5
   ·exact h2 h5
 have xY: ∀l q b,l≠k->l≠m->π l=some q->q.cl b->w1.heap[b]?=w.heap[b]?:= λl q b h1 h2 h3 h4=>by
  refine hb.block b (h.1.place l q b h3 h4).2 λhg=>?_;exact ue l q b h1 h2 h3 h4 (.inr (UT b hg))
 have hHk:Ay (Rq st k m (.Ca e te rows none none)).heap k=some (.Ca e te rows none none):=Rb _ _ _ (by
  show Ay (Yn (st.heap.map λp=>(p.1,p.2.map (Cz [m,k] []))) [m,k]) k=none
  rw [Oh,Ac (by simp)])
 have hHm: ∀l,l≠k->l=m->Ay (Rq st k m (.Ca e te rows none none)).heap l=none:= λl g1 g2=>by
  refine (Pv _ _ _ _ g1).trans ?_;show Ay (Yn (st.heap.map λp=>(p.1,p.2.map (Cz [m,k] []))) [m,k]) l=none;rw [Oh,Ac (by simp [g2])]
 have RY: ∀l,l≠k->l≠m->Ay (Rq st k m (.Ca e te rows none none)).heap l=(Ay st.heap l).map (OB.map (Cz [m,k] [])):= λl g1 g2=>by
  refine (Pv _ _ _ _ g1).trans ?_;show Ay (Yn (st.heap.map λp=>(p.1,p.2.map (Cz [m,k] []))) [m,k]) l=_;rw [Oh,Ai (by simp [g1,g2]),Pl]
 refine ⟨π',?_,λn YU=>⟨_,1,rows.length,hHk,rfl,by omega,?_⟩⟩
 ·have Sd:Rq st k m (.Ca e te rows none none)= {tmps:=st.tmps.map (·.map (Cz [m,k] [])),heap:=(Rq st k m (.Ca e te rows none none)).heap} :=rfl;rw [Sd]
  refine h.oJ (by simp [Cz,AC.refs]) (gv:=gv) (λb hg=>?_) hb (λb Kr ⟨l,q,g1,g2⟩=>?_) (λl q b g1 g2=>?_) (λl q b g1 g2=>?_) (λl l' q q' b g1 g2 g3 g4=>?_) (λl hl Ii=>?_)
   (λhc=>oI (D:= λl=>l=m\/l=k) (Pt:= λ_=>False) (λc=>?_) (λl hl=>?_) (λl b hl hb=>?_) (λl r0 b hl _ g1 g2 g3=>?_) hc) (λmv l b sD=>?_) (λl hl=>?_)
  ·obtain ⟨l,q,_,h2,h3⟩:=UT b hg;exact ⟨l,q,h2,h3⟩
  ·rcases wm l q g1 with ⟨_,rfl⟩|⟨_,_,e1⟩
   ·rcases g2 with g2|⟨l',q',_,h2,h3⟩
    ·rcases hgn.1 with h1|⟨l',q',_,h2,h3⟩
     ·have g2:b=g:=g2;omega
     ·exact ⟨l',q',h2,g2▸h3⟩
    ·exact ⟨l',q',h2,h3⟩
   ·exact ⟨l,q,e1,g2⟩
  ·rcases wm l q g1 with ⟨_,rfl⟩|⟨_,_,e1⟩
   ·exact g2
   ·exact h.1.sub l q b e1 g2
  ·rcases wm l q g1 with ⟨_,rfl⟩|⟨_,_,e1⟩
   ·exact Au4 b g2
   ·exact ⟨(h.1.place l q b e1 g2).1,Ep (h.1.place l q b e1 g2).2 hb.size⟩
  ·rcases wm l q g1 with ⟨e0,rfl⟩|⟨e0,e2,e1⟩<;>rcases wm l' q' g2 with ⟨f0,rfl⟩|⟨f0,f2,f1⟩
   ·rw [e0,f0]
   ·exact absurd g3 (ue l' q' b f0 f2 f1 g4)
   ·exact absurd g4 (ue l q b e0 e2 e1 g3)
   ·exact h.1.inj l l' q q' b e1 f1 g3 g4
  ·have e1:l≠k:=by omega
   have e2:l≠m:=by omega
   rw [ju l e1 e2];refine h.1.iM l hl λh0=>Ii ?_;rw [RY l e1 e2,h0];rfl
  ·rcases qS [m,k] [] c with e|⟨e,g,_⟩
   ·exact .inl e
   ·exact .inr ⟨e,λl hl sF=>g l hl (by rcases sF with h1|h1<;>simp [h1]),λ_ _ _ _ h=>h⟩
  ·rw [ju l (λe=>hl (.inr e)) (λe=>hl (.inl e))];exact gY.rfl' _
  ·exact ⟨_,by rw [RY l (λe=>hl (.inr e)) (λe=>hl (.inl e)),hb];rfl,OB.Ua.map _ b⟩
  ·exact xY l r0 _ (λe=>hl (.inr e)) (λe=>hl (.inl e)) g3 (h.1.sub l r0 _ g3 (h.1.Df g3))
  ·by_cases e1:l=k
   ·subst e1;rw [hHk] at sD;cases sD;rw [Alc];obtain ⟨a1,a2,a3,a4⟩:=hL;refine ⟨⟨.inl rfl,cur,ti,SB,Uj,hcm,hn,Rs,a2,λi q hq=>?_,a3,λi x hx _=>?_⟩,trivial⟩
    ·obtain ⟨h1,_,h2⟩:=hRs i q hq;exact ⟨.inr h2,h1⟩
    ·obtain ⟨u,R,g1,g2,g3,g4⟩:=a4 i x hx;refine ⟨u,R,iC i u g1,g2,g3,g4.to (λq hq=>?_) λes y hc=>mv.cells false e es y hc⟩;subst hq;obtain ⟨_,h2,l',p,_,h4,h5⟩:=hRs i q g2;exact hb.block _ (h.1.place l' p _ h4 (h.1.sub l' p _ h4 h5)).2 h2
   ·by_cases e2:l=m
    ·rw [hHm l e1 e2] at sD;cases sD
    rw [RY l e1 e2] at sD
    cases hk:Ay st.heap l with
    |none=>rw [hk] at sD;cases sD
    |some b1=>
     rw [hk] at sD;simp only [An,Aa] at sD;subst sD;rw [ju l e1 e2];exact ((h.1.heap l).Se hk).move mv hb.size (λr0 c h0 h1=>h.1.sub _ r0 c h0 h1) λr0 c h0 h1 _=>xY l r0 c e1 e2 h0 h1
  ·have e1:l≠k:= λe=>by subst e;rw [hHk] at hl;cases hl
   by_cases e2:l=m
   ·exact zS l e1 e2
   rw [RY l e1 e2] at hl;rw [ju l e1 e2]
   cases u7:Ay st.heap l with
   |none=>exact (h.1.heap l).emp u7
   |some b=>rw [u7] at hl;cases hl
 ·rw [Alc];exact ⟨_,by rw [YU];rfl,by dsimp only [r];omega,λ_=>by simp [r]⟩
theorem xT {D:Nat->Prop} {r:Real} {e:Ty} {rows:List (List e.den)} (h:aP w D (some r) e rows none):
  r.Df r.g/\ ∃(cur:Array Value) (ti:TypeId) (us:List Value) (Rs:List (Option Real)),w.heap[r.g]?=some (.cells cur ti (0,0))/\cur.size=r.o+r.cap/\r.cap<=maxLen/\rows.length<=r.cap/\(∀j u,us[j]?=some u->cur[r.o+j]?=some u)/\
   (∀u∈us,u.oneCell'=true)/\(∀(i:Nat) (q:Real),Rs[i]?=some (some q)->r.Df q.g/\q.g≠r.g)/\sR w D us Rs e rows:=by
 obtain ⟨h1,cur,ti,h2,h3,h4,h5,Rs,h6,h7,h8,h9⟩:=h
 have hus: ∀j,j<rows.length->((cur.toList.drop r.o).take rows.length)[j]?=cur[r.o+j]?:= λj hj=>by
  rw [Di,Ac hj,Cp,Array.getElem?_toList]
 have hlen:((cur.toList.drop r.o).take rows.length).length=rows.length:=by simp;omega
 refine ⟨h1,cur,ti,(cur.toList.drop r.o).take rows.length,Rs,h2,h3,h4,h5,λj u hu=>?_,λu hu=>?_,h7,hlen,h6,h8,λi x hx=>?_⟩
 ·have hj:=(Ao.1 hu).1;rw [hlen] at hj;rw [<-hus j hj];exact hu
 ·obtain ⟨j,hj,rfl⟩:=Bg.1 hu;rw [hlen] at hj;obtain ⟨u,R,g1,g2,g3,_⟩:=h9 j (rows[j]) (Ad hj) (by simp);have:=hus j hj;rw [g1,Ad (by omega)] at this;rw [Bi this];obtain ⟨_,_,_,hv⟩:=bp g3;rw [hv];rfl
 ·have hi:=(Ao.1 hx).1;obtain ⟨u,R,g1,g2,g3⟩:=h9 i x hx (by simp);exact ⟨u,R,by rw [hus i hi];exact g1,g2,g3⟩
end
end Go.Proofs.Ytfgfigkbgecfnaa
