/-
  Part 22 of the proof that the statement FnCommutatorMacros holds.
-/
import Derived.Test.YtfgfigkbgecfnaaCFCommutatorMacros20
namespace Go.Proofs.Ytfgfigkbgecfnaa
open Go.RowKit
section
variable {P:Program} {T:Tab} {X:Ctx} {w w':World} {π π':Pi} {H H':List (Nat×OB)}
def lq (w:World) (D:Nat->Prop) (us:List Value) (Rs:List (Option Real)) (e:Ty) (rows:List (List e.den)):Prop:=
 us.length=rows.length/\Rs.length=rows.length/\(∀(i j:Nat) (q q':Real),Rs[i]?=some (some q)->Rs[j]?=some (some q')->q.g=q'.g->i=j)/\
  ∀(i:Nat) (x:List e.den),rows[i]?=some x-> ∃u R,us[i]?=some u/\Rs[i]?=some R/\Fm R e.size 0 x.length u/\Oe w D R e x
theorem lq.append {D:Nat->Prop} {u1 u2:List Value} {R1 R2:List (Option Real)} {e:Ty} {r1 r2:List (List e.den)} (h1:lq w D u1 R1 e r1) (h2:lq w D u2 R2 e r2)
  (ha: ∀(i j:Nat) (q q':Real),R1[i]?=some (some q)->R2[j]?=some (some q')->q.g≠q'.g):lq w D (u1++u2) (R1++R2) e (r1++r2):=by
 obtain ⟨a1,a2,a3,a4⟩:=h1
 obtain ⟨b1,b2,b3,b4⟩:=h2
 refine ⟨by simp [a1,b1],by simp [a2,b2],λi j q q' h1 h2 he=>?_,λi x hx=>?_⟩
 ·by_cases hi:i<R1.length<;>by_cases hj:j<R1.length
  ·rw [Am hi] at h1;rw [Am hj] at h2
   exact a3 i j q q' h1 h2 he
  ·rw [Am hi] at h1;rw [Al (by omega)] at h2
   exact absurd he (ha i _ q q' h1 h2)
  ·rw [Al (by omega)] at h1;rw [Am hj] at h2
   exact absurd he.symm (ha j _ q' q h2 h1)
  ·rw [Al (by omega)] at h1 h2
   have:=b3 _ _ q q' h1 h2 he
   omega
 ·by_cases hi:i<r1.length
  ·rw [Am hi] at hx
   obtain ⟨u,R,g1,g2,g3⟩:=a4 i x hx
   exact ⟨u,R,by rw [Am (by omega)];exact g1,by rw [Am (by omega)];exact g2,g3⟩
  ·rw [Al (by omega)] at hx
   obtain ⟨u,R,g1,g2,g3⟩:=b4 _ x hx
   exact ⟨u,R,by rw [Al (by omega),a1];exact g1,by rw [Al (by omega),a2];exact g2,g3⟩
theorem Ue {st:St} {a:Act} (h:Ax X π st a w) {k m:Nat} (sv:k<Az) (FE:m<Az) {e:Ty} (te:TypeId) {rows:List (List e.den)} {us:List Value} {Rs:List (Option Real)} {w1:World} {gv:Nat->Prop}
  {g o cap:Nat} {cur:Array Value} {ti:TypeId}
  (yx: ∀b,gv b-> ∃l q,(l=k\/l=m)/\π l=some q/\q.Bu b) (hb:Gw w.heap.size gv w w1)
  (VZ:(w.heap.size<=g\/ ∃l q,(l=k\/l=m)/\π l=some q/\q.Bu g)/\g<w1.heap.size)
  (k8:w1.heap[g]?=some (.cells cur ti (0,0))) (Vc:cur.size=o+cap) (GA:cap<=maxLen) (hn:rows.length<=cap) (ai: ∀j u,us[j]?=some u->cur[o+j]?=some u)
  (hL:lq w (Cb X.w0.heap.size X.Sc π false) us Rs e rows)
  (IE: ∀(i:Nat) (q:Real),Rs[i]?=some (some q)->q.g≠g/\ ¬gv q.g/\ ∃l p,(l=k\/l=m)/\π l=some p/\p.Bu q.g):
  ∃π',Ax X π' (Nn st k m (.Bc e te rows none none)) a w1/\ ∀n,n=rows.length->Ba X w1 π' (Nn st k m (.Bc e te rows none none)).heap (.at (.own k 0 n)) (.slice (some ⟨g,o,none⟩) n cap):=by
 let F:Nat->Prop:= λb=>b=g\/ ∃l q,(l=k\/l=m)/\π l=some q/\q.Bu b
 let r:Real:=⟨g,o,cap,F,F⟩
 let π':Pi:= λl=>if l=k then some r else if l=m then none else π l
 have LS:π' k=some r:=Af rfl
 have dp: ∀l,l≠k->l≠m->π' l=π l:= λl g1 g2=>(Aj g1).trans (Aj g2)
 have qC: ∀l,l≠k->l=m->π' l=none:= λl g1 g2=>(Aj g1).trans (Af g2)
 have nE: ∀l q,π' l=some q->(l=k/\q=r)\/(l≠k/\l≠m/\π l=some q):= λl q hq=>by
  by_cases e1:l=k
  ·subst e1;rw [LS] at hq;exact .inl ⟨rfl,(Aw hq).symm⟩
  ·by_cases e2:l=m
   ·rw [qC l e1 e2] at hq;cases hq
   ·rw [dp l e1 e2] at hq;exact .inr ⟨e1,e2,hq⟩
 have YY: ∀b,F b->w.heap.size<=b\/ ∃l q,(l=k\/l=m)/\π l=some q/\q.cl b:= λb hf=>by
  rcases hf with rfl|⟨l,q,h1,h2,h3⟩
  ·rcases VZ.1 with h1|⟨l,q,h1,h2,h3⟩
   ·exact .inl h1
   ·exact .inr ⟨l,q,h1,h2,h.1.sub l q _ h2 h3⟩
  ·exact .inr ⟨l,q,h1,h2,h.1.sub l q _ h2 h3⟩
 have US: ∀b,F b->(X.w0.heap.size<=b\/X.gv b)/\b<w1.heap.size:= λb hf=>by
  have key: ∀l q,π l=some q->q.cl b->(X.w0.heap.size<=b\/X.gv b)/\b<w1.heap.size:= λl q h1 h2=>⟨(h.1.place l q b h1 h2).1,Cy (h.1.place l q b h1 h2).2 hb.size⟩
  have h0:=hf
  rcases YY b hf with h1|⟨l,q,_,h2,h3⟩
  ·rcases h0 with rfl|⟨l,q,_,h2,h3⟩
   ·exact ⟨.inl (Kj h.1.below.size h1),VZ.2⟩
   ·exact key l q h2 (h.1.sub l q _ h2 h3)
  ·exact key l q h2 h3
 have mf: ∀l q b,l≠k->l≠m->π l=some q->q.cl b-> ¬F b:= λl q b h1 h2 h3 h4 hf=>by
  rcases YY b hf with h5|⟨l',q',h5,h6,h7⟩
  ·have:=(h.1.place l q b h3 h4).2;omega
  ·have:=h.1.inj l l' q q' b h3 h6 h4 h7
   subst this
   rcases h5 with h5|h5
   ·exact h1 h5
   ·exact h2 h5
 have p8: ∀l q b,l≠k->l≠m->π l=some q->q.cl b->w1.heap[b]?=w.heap[b]?:= λl q b h1 h2 h3 h4=>by
  refine hb.block b (h.1.place l q b h3 h4).2 λhg=>?_
  exact mf l q b h1 h2 h3 h4 (.inr (yx b hg))
 have UW:Ap (Nn st k m (.Bc e te rows none none)).heap k=some (.Bc e te rows none none):=Mz _ _ _ (by
  show Ap (Sl (st.heap.map λp=>(p.1,p.2.map (Bt [m,k] []))) [m,k]) k=none
  rw [Ks,Af (by simp)])
 have IC: ∀l,l≠k->l=m->Ap (Nn st k m (.Bc e te rows none none)).heap l=none:= λl g1 g2=>by
  refine (Md _ _ _ _ g1).trans ?_
  show Ap (Sl (st.heap.map λp=>(p.1,p.2.map (Bt [m,k] []))) [m,k]) l=none
  rw [Ks,Af (by simp [g2])]
 have xw: ∀l,l≠k->l≠m->Ap (Nn st k m (.Bc e te rows none none)).heap l=(Ap st.heap l).map (OB.map (Bt [m,k] [])):= λl g1 g2=>by
  refine (Md _ _ _ _ g1).trans ?_
  show Ap (Sl (st.heap.map λp=>(p.1,p.2.map (Bt [m,k] []))) [m,k]) l=_
  rw [Ks,Aj (by simp [g1,g2]),Lr]
 refine ⟨π',?_,λn hn0=>⟨_,1,rows.length,UW,rfl,by omega,?_⟩⟩
 ·have Yi:Nn st k m (.Bc e te rows none none)= {tmps:=st.tmps.map (·.map (Bt [m,k] [])),heap:=(Nn st k m (.Bc e te rows none none)).heap} :=rfl
  rw [Yi]
  refine h.iD (by simp [Bt,AC.refs]) (gv:=gv) (λb hg=>?_) hb (λb Im ⟨l,q,g1,g2⟩=>?_) (λl q b g1 g2=>?_) (λl q b g1 g2=>?_) (λl l' q q' b g1 g2 g3 g4=>?_) (λl hl Hs=>?_)
   (λhc=>iC (D:= λl=>l=m\/l=k) (Pt:= λ_=>False) (λc=>?_) (λl hl=>?_) (λl b hl hb=>?_) (λl r0 b hl _ g1 g2 g3=>?_) hc) (λmv l b nF=>?_) (λl hl=>?_)
  ·obtain ⟨l,q,_,h2,h3⟩:=yx b hg
   exact ⟨l,q,h2,h3⟩
  ·rcases nE l q g1 with ⟨_,rfl⟩|⟨_,_,e1⟩
   ·rcases g2 with g2|⟨l',q',_,h2,h3⟩
    ·rcases VZ.1 with h1|⟨l',q',_,h2,h3⟩
     ·have g2:b=g:=g2
      omega
     ·exact ⟨l',q',h2,g2▸h3⟩
    ·exact ⟨l',q',h2,h3⟩
   ·exact ⟨l,q,e1,g2⟩
  ·rcases nE l q g1 with ⟨_,rfl⟩|⟨_,_,e1⟩
   ·exact g2
   ·exact h.1.sub l q b e1 g2
  ·rcases nE l q g1 with ⟨_,rfl⟩|⟨_,_,e1⟩
   ·exact US b g2
   ·exact ⟨(h.1.place l q b e1 g2).1,Cy (h.1.place l q b e1 g2).2 hb.size⟩
  ·rcases nE l q g1 with ⟨e0,rfl⟩|⟨e0,e2,e1⟩<;>rcases nE l' q' g2 with ⟨f0,rfl⟩|⟨f0,f2,f1⟩
   ·rw [e0,f0]
   ·exact absurd g3 (mf l' q' b f0 f2 f1 g4)
   ·exact absurd g4 (mf l q b e0 e2 e1 g3)
   ·exact h.1.inj l l' q q' b e1 f1 g3 g4
  ·have e1:l≠k:=by omega
   have e2:l≠m:=by omega
   rw [dp l e1 e2]
   refine h.1.cD l hl λh0=>Hs ?_
   rw [xw l e1 e2,h0];rfl
  ·rcases jW [m,k] [] c with e|⟨e,g,_⟩
   ·exact .inl e
   ·exact .inr ⟨e,λl hl hlm=>g l hl (by rcases hlm with h1|h1<;>simp [h1]),λ_ _ _ _ h=>h⟩
  ·rw [dp l (λe=>hl (.inr e)) (λe=>hl (.inl e))];exact bR.rfl' _
  ·exact ⟨_,by rw [xw l (λe=>hl (.inr e)) (λe=>hl (.inl e)),hb];rfl,OB.Pe.map _ b⟩
  ·exact p8 l r0 _ (λe=>hl (.inr e)) (λe=>hl (.inl e)) g3 (h.1.sub l r0 _ g3 (h.1.Bu g3))
  ·by_cases e1:l=k
   ·subst e1
    rw [UW] at nF;cases nF
    rw [LS]
    obtain ⟨a1,a2,a3,a4⟩:=hL
    refine ⟨⟨.inl rfl,cur,ti,k8,Vc,GA,hn,Rs,a2,λi q hq=>?_,a3,λi x hx _=>?_⟩,trivial⟩
    ·obtain ⟨h1,_,h2⟩:=IE i q hq
     exact ⟨.inr h2,h1⟩
    ·obtain ⟨u,R,g1,g2,g3,g4⟩:=a4 i x hx
     refine ⟨u,R,ai i u g1,g2,g3,g4.to (λq hq=>?_) λes y hc=>mv.cells false e es y hc⟩
     subst hq
     obtain ⟨_,h2,l',p,_,h4,h5⟩:=IE i q g2
     exact hb.block _ (h.1.place l' p _ h4 (h.1.sub l' p _ h4 h5)).2 h2
   ·by_cases e2:l=m
    ·rw [IC l e1 e2] at nF;cases nF
    rw [xw l e1 e2] at nF
    cases hk:Ap st.heap l with
    |none=>rw [hk] at nF;cases nF
    |some b1=>
     rw [hk] at nF
     simp only [Ah,Aa] at nF;subst nF
     rw [dp l e1 e2]
     exact ((h.1.heap l).Ns hk).move mv hb.size (λr0 c h0 h1=>h.1.sub _ r0 c h0 h1) λr0 c h0 h1 _=>p8 l r0 c e1 e2 h0 h1
  ·have e1:l≠k:= λe=>by subst e;rw [UW] at hl;cases hl
   by_cases e2:l=m
   ·exact qC l e1 e2
   rw [xw l e1 e2] at hl
   rw [dp l e1 e2]
   cases qx:Ap st.heap l with
   |none=>exact (h.1.heap l).emp qx
   |some b=>rw [qx] at hl;cases hl
 ·rw [LS]
  exact ⟨_,by rw [hn0];rfl,by dsimp only [r];omega,λ_=>by simp [r]⟩
theorem oX {D:Nat->Prop} {r:Real} {e:Ty} {rows:List (List e.den)} (h:Uy w D (some r) e rows none):
  r.Bu r.g/\ ∃(cur:Array Value) (ti:TypeId) (us:List Value) (Rs:List (Option Real)),w.heap[r.g]?=some (.cells cur ti (0,0))/\cur.size=r.o+r.cap/\r.cap<=maxLen/\rows.length<=r.cap/\(∀j u,us[j]?=some u->cur[r.o+j]?=some u)/\
   (∀u∈us,u.oneCell'=true)/\(∀(i:Nat) (q:Real),Rs[i]?=some (some q)->r.Bu q.g/\q.g≠r.g)/\lq w D us Rs e rows:=by
 obtain ⟨h1,cur,ti,h2,h3,h4,h5,Rs,h6,h7,h8,h9⟩:=h
 have BX: ∀j,j<rows.length->((cur.toList.drop r.o).take rows.length)[j]?=cur[r.o+j]?:= λj hj=>by
  rw [By,Af hj,Ce,Array.getElem?_toList]
 have hlen:((cur.toList.drop r.o).take rows.length).length=rows.length:=by simp;omega
 refine ⟨h1,cur,ti,(cur.toList.drop r.o).take rows.length,Rs,h2,h3,h4,h5,λj u hu=>?_,λu hu=>?_,h7,hlen,h6,h8,λi x hx=>?_⟩
 ·have hj:=(Ai.1 hu).1
  rw [hlen] at hj
  rw [<-BX j hj];exact hu
 ·obtain ⟨j,hj,rfl⟩:=Db.1 hu
  rw [hlen] at hj
  obtain ⟨u,R,g1,g2,g3,_⟩:=h9 j (rows[j]) (Ac hj) (by simp)
  have:=BX j hj
  rw [g1,Ac (by omega)] at this
  rw [Aw this]
  obtain ⟨_,_,_,hv⟩:=Vr g3
  rw [hv];rfl
 ·have hi:=(Ai.1 hx).1
  obtain ⟨u,R,g1,g2,g3⟩:=h9 i x hx (by simp)
  exact ⟨u,R,by rw [BX i hi];exact g1,g2,g3⟩
end
end Go.Proofs.Ytfgfigkbgecfnaa
