/-
  Part 22 of the proof that the statement FnExactIsMethodSolution holds.
-/
import Derived.Test.YtebabhocakedaaaCIsMethodSolution20
namespace Go.Proofs.Ytebabhocakedaaa
open Go.RowKit
section
variable {P:Program} {T:Tab} {X:Ctx} {w w':World} {π π':Pi} {H H':List (Nat×OB)}
def Ai6 (w:World) (D:Nat→Prop) (us:List Value) (Rs:List (Option Real)) (e:Ty) (rows:List (List e.den)):Prop:=
 us.length=rows.length∧Rs.length=rows.length∧(∀(i j:Nat) (q q':Real),Rs[i]?=some (some q)→Rs[j]?=some (some q')→q.g=q'.g→i=j)∧
  ∀(i:Nat) (x:List e.den),rows[i]?=some x→ ∃u R,us[i]?=some u∧Rs[i]?=some R∧De R e.size 0 x.length u∧Kf w D R e x
theorem Ai6.append {D:Nat→Prop} {u1 u2:List Value} {R1 R2:List (Option Real)} {e:Ty} {r1 r2:List (List e.den)} (h1:Ai6 w D u1 R1 e r1) (h2:Ai6 w D u2 R2 e r2)
  (ha: ∀(i j:Nat) (q q':Real),R1[i]?=some (some q)→R2[j]?=some (some q')→q.g≠q'.g):Ai6 w D (u1++u2) (R1++R2) e (r1++r2):=by
 obtain ⟨a1,a2,a3,a4⟩:=h1
 obtain ⟨b1,b2,b3,b4⟩:=h2
 refine ⟨by simp [a1,b1],by simp [a2,b2],fun i j q q' h1 h2 he=>?_,fun i x hx=>?_⟩
 ·by_cases hi:i<R1.length<;>by_cases hj:j<R1.length
  ·rw [List.getElem?_append_left hi] at h1;rw [List.getElem?_append_left hj] at h2
   exact a3 i j q q' h1 h2 he
  ·rw [List.getElem?_append_left hi] at h1;rw [List.getElem?_append_right (by omega)] at h2
   exact absurd he (ha i _ q q' h1 h2)
  ·rw [List.getElem?_append_right (by omega)] at h1;rw [List.getElem?_append_left hj] at h2
   exact absurd he.symm (ha j _ q' q h2 h1)
  ·rw [List.getElem?_append_right (by omega)] at h1 h2
   have:=b3 _ _ q q' h1 h2 he
   omega
 ·by_cases hi:i<r1.length
  ·rw [List.getElem?_append_left hi] at hx
   obtain ⟨u,R,g1,g2,g3⟩:=a4 i x hx
   exact ⟨u,R,by rw [List.getElem?_append_left (by omega)];exact g1,by rw [List.getElem?_append_left (by omega)];exact g2,g3⟩
  ·rw [List.getElem?_append_right (by omega)] at hx
   obtain ⟨u,R,g1,g2,g3⟩:=b4 _ x hx
   exact ⟨u,R,by rw [List.getElem?_append_right (by omega),a1];exact g1,by rw [List.getElem?_append_right (by omega),a2];exact g2,g3⟩
theorem Ol {st:St} {a:Act} (h:Af X π st a w) {k m:Nat} (hkp:k<Ag) (hmp:m<Ag) {e:Ty} (te:TypeId) {rows:List (List e.den)} {us:List Value} {Rs:List (Option Real)} {w1:World} {gv:Nat→Prop}
  {g o cap:Nat} {cur:Array Value} {ti:TypeId}
  (hgv: ∀b,gv b→ ∃l q,(l=k∨l=m)∧π l=some q∧q.Av b) (hb:Fa w.heap.size gv w w1)
  (hgn:(w.heap.size≤g∨ ∃l q,(l=k∨l=m)∧π l=some q∧q.Av g)∧g<w1.heap.size)
  (hheap:w1.heap[g]?=some (.cells cur ti (0,0))) (hsz:cur.size=o+cap) (hcm:cap≤maxLen) (hn:rows.length≤cap) (hcur: ∀j u,us[j]?=some u→cur[o+j]?=some u)
  (hL:Ai6 w (Bb X.w0.heap.size X.Sc π false) us Rs e rows)
  (hRs: ∀(i:Nat) (q:Real),Rs[i]?=some (some q)→q.g≠g∧ ¬gv q.g∧ ∃l p,(l=k∨l=m)∧π l=some p∧p.Av q.g):
  ∃π',Af X π' (Jj st k m (.grid e te rows none none)) a w1∧ ∀n,n=rows.length→Ai X w1 π' (Jj st k m (.grid e te rows none none)).heap (.at (.own k 0 n)) (.slice (some ⟨g,o,none⟩) n cap):=by
 let F:Nat→Prop:=fun b=>b=g∨ ∃l q,(l=k∨l=m)∧π l=some q∧q.Av b
 let r:Real:=⟨g,o,cap,F,F⟩
 let π':Pi:=fun l=>if l=k then some r else if l=m then none else π l
 have hπk:π' k=some r:=if_pos rfl
 have hπo: ∀l,l≠k→l≠m→π' l=π l:=fun l g1 g2=>(if_neg g1).trans (if_neg g2)
 have hπm: ∀l,l≠k→l=m→π' l=none:=fun l g1 g2=>(if_neg g1).trans (if_pos g2)
 have cas: ∀l q,π' l=some q→(l=k∧q=r)∨(l≠k∧l≠m∧π l=some q):=fun l q hq=>by
  by_cases e1:l=k
  ·subst e1;rw [hπk] at hq;exact .inl ⟨rfl,(Option.some.inj hq).symm⟩
  ·by_cases e2:l=m
   ·rw [hπm l e1 e2] at hq;cases hq
   ·rw [hπo l e1 e2] at hq;exact .inr ⟨e1,e2,hq⟩
 have hFc: ∀b,F b→w.heap.size≤b∨ ∃l q,(l=k∨l=m)∧π l=some q∧q.cl b:=fun b hf=>by
  rcases hf with rfl|⟨l,q,h1,h2,h3⟩
  ·rcases hgn.1 with h1|⟨l,q,h1,h2,h3⟩
   ·exact .inl h1
   ·exact .inr ⟨l,q,h1,h2,h.1.sub l q _ h2 h3⟩
  ·exact .inr ⟨l,q,h1,h2,h.1.sub l q _ h2 h3⟩
 have hFlt: ∀b,F b→(X.w0.heap.size≤b∨X.gv b)∧b<w1.heap.size:=fun b hf=>by
  have key: ∀l q,π l=some q→q.cl b→(X.w0.heap.size≤b∨X.gv b)∧b<w1.heap.size:=fun l q h1 h2=>⟨(h.1.place l q b h1 h2).1,Nat.lt_of_lt_of_le (h.1.place l q b h1 h2).2 hb.size⟩
  have h0:=hf
  rcases hFc b hf with h1|⟨l,q,_,h2,h3⟩
  ·rcases h0 with rfl|⟨l,q,_,h2,h3⟩
   ·exact ⟨.inl (Nat.le_trans h.1.below.size h1),hgn.2⟩
   ·exact key l q h2 (h.1.sub l q _ h2 h3)
  ·exact key l q h2 h3
 have hnot: ∀l q b,l≠k→l≠m→π l=some q→q.cl b→ ¬F b:=fun l q b h1 h2 h3 h4 hf=>by
  rcases hFc b hf with h5|⟨l',q',h5,h6,h7⟩
  ·have:=(h.1.place l q b h3 h4).2;omega
  ·have:=h.1.inj l l' q q' b h3 h6 h4 h7
   subst this
   rcases h5 with h5|h5
   ·exact h1 h5
   ·exact h2 h5
 have hkeep: ∀l q b,l≠k→l≠m→π l=some q→q.cl b→w1.heap[b]?=w.heap[b]?:=fun l q b h1 h2 h3 h4=>by
  refine hb.block b (h.1.place l q b h3 h4).2 fun hg=>?_
  exact hnot l q b h1 h2 h3 h4 (.inr (hgv b hg))
 have hHk:Ac (Jj st k m (.grid e te rows none none)).heap k=some (.grid e te rows none none):=Jc _ _ _ (by
  show Ac (Mx (st.heap.map fun p=>(p.1,p.2.map (At [m,k] []))) [m,k]) k=none
  rw [Gx,if_pos (by simp)])
 have hHm: ∀l,l≠k→l=m→Ac (Jj st k m (.grid e te rows none none)).heap l=none:=fun l g1 g2=>by
  refine (Ic _ _ _ _ g1).trans ?_
  show Ac (Mx (st.heap.map fun p=>(p.1,p.2.map (At [m,k] []))) [m,k]) l=none
  rw [Gx,if_pos (by simp [g2])]
 have hHo: ∀l,l≠k→l≠m→Ac (Jj st k m (.grid e te rows none none)).heap l=(Ac st.heap l).map (OB.map (At [m,k] [])):=fun l g1 g2=>by
  refine (Ic _ _ _ _ g1).trans ?_
  show Ac (Mx (st.heap.map fun p=>(p.1,p.2.map (At [m,k] []))) [m,k]) l=_
  rw [Gx,if_neg (by simp [g1,g2]),Hw]
 refine ⟨π',?_,fun n hn0=>⟨_,1,rows.length,hHk,rfl,by omega,?_⟩⟩
 ·have hst:Jj st k m (.grid e te rows none none)= {tmps:=st.tmps.map (·.map (At [m,k] [])),heap:=(Jj st k m (.grid e te rows none none)).heap} :=rfl
  rw [hst]
  refine h.Aeg (by simp [At,AC.refs]) (gv:=gv) (fun b hg=>?_) hb (fun b hlt ⟨l,q,g1,g2⟩=>?_) (fun l q b g1 g2=>?_) (fun l q b g1 g2=>?_) (fun l l' q q' b g1 g2 g3 g4=>?_) (fun l hl hne=>?_)
   (fun hc=>Aef (D:=fun l=>l=m∨l=k) (Pt:=fun _=>False) (fun c=>?_) (fun l hl=>?_) (fun l b hl hb=>?_) (fun l r0 b hl _ g1 g2 g3=>?_) hc) (fun mv l b hb'=>?_) (fun l hl=>?_)
  ·obtain ⟨l,q,_,h2,h3⟩:=hgv b hg
   exact ⟨l,q,h2,h3⟩
  ·rcases cas l q g1 with ⟨_,rfl⟩|⟨_,_,e1⟩
   ·rcases g2 with g2|⟨l',q',_,h2,h3⟩
    ·rcases hgn.1 with h1|⟨l',q',_,h2,h3⟩
     ·have g2:b=g:=g2
      omega
     ·exact ⟨l',q',h2,g2▸h3⟩
    ·exact ⟨l',q',h2,h3⟩
   ·exact ⟨l,q,e1,g2⟩
  ·rcases cas l q g1 with ⟨_,rfl⟩|⟨_,_,e1⟩
   ·exact g2
   ·exact h.1.sub l q b e1 g2
  ·rcases cas l q g1 with ⟨_,rfl⟩|⟨_,_,e1⟩
   ·exact hFlt b g2
   ·exact ⟨(h.1.place l q b e1 g2).1,Nat.lt_of_lt_of_le (h.1.place l q b e1 g2).2 hb.size⟩
  ·rcases cas l q g1 with ⟨e0,rfl⟩|⟨e0,e2,e1⟩<;>rcases cas l' q' g2 with ⟨f0,rfl⟩|⟨f0,f2,f1⟩
   ·rw [e0,f0]
   ·exact absurd g3 (hnot l' q' b f0 f2 f1 g4)
   ·exact absurd g4 (hnot l q b e0 e2 e1 g3)
   ·exact h.1.inj l l' q q' b e1 f1 g3 g4
  ·have e1:l≠k:=by omega
   have e2:l≠m:=by omega
   rw [hπo l e1 e2]
   refine h.1.pin l hl fun h0=>hne ?_
   rw [hHo l e1 e2,h0];rfl
  ·rcases Ago [m,k] [] c with e|⟨e,g,_⟩
   ·exact .inl e
   ·exact .inr ⟨e,fun l hl hlm=>g l hl (by rcases hlm with h1|h1<;>simp [h1]),fun _ _ _ _ h=>h⟩
  ·rw [hπo l (fun e=>hl (.inr e)) (fun e=>hl (.inl e))];exact Wx.Hl _
  ·exact ⟨_,by rw [hHo l (fun e=>hl (.inr e)) (fun e=>hl (.inl e)),hb];rfl,OB.Kl.map _ b⟩
  ·exact hkeep l r0 _ (fun e=>hl (.inr e)) (fun e=>hl (.inl e)) g3 (h.1.sub l r0 _ g3 (h.1.Av g3))
  ·by_cases e1:l=k
   ·subst e1
    rw [hHk] at hb';cases hb'
    rw [hπk]
    obtain ⟨a1,a2,a3,a4⟩:=hL
    refine ⟨⟨.inl rfl,cur,ti,hheap,hsz,hcm,hn,Rs,a2,fun i q hq=>?_,a3,fun i x hx _=>?_⟩,trivial⟩
    ·obtain ⟨h1,_,h2⟩:=hRs i q hq
     exact ⟨.inr h2,h1⟩
    ·obtain ⟨u,R,g1,g2,g3,g4⟩:=a4 i x hx
     refine ⟨u,R,hcur i u g1,g2,g3,g4.to (fun q hq=>?_) fun es y hc=>mv.cells false e es y hc⟩
     subst hq
     obtain ⟨_,h2,l',p,_,h4,h5⟩:=hRs i q g2
     exact hb.block _ (h.1.place l' p _ h4 (h.1.sub l' p _ h4 h5)).2 h2
   ·by_cases e2:l=m
    ·rw [hHm l e1 e2] at hb';cases hb'
    rw [hHo l e1 e2] at hb'
    cases hk:Ac st.heap l with
    |none=>rw [hk] at hb';cases hb'
    |some b1=>
     rw [hk] at hb'
     simp only [Option.map_some,Option.some.injEq] at hb';subst hb'
     rw [hπo l e1 e2]
     exact ((h.1.heap l).blk hk).move mv hb.size (fun r0 c h0 h1=>h.1.sub _ r0 c h0 h1) fun r0 c h0 h1 _=>hkeep l r0 c e1 e2 h0 h1
  ·have e1:l≠k:=fun e=>by subst e;rw [hHk] at hl;cases hl
   by_cases e2:l=m
   ·exact hπm l e1 e2
   rw [hHo l e1 e2] at hl
   rw [hπo l e1 e2]
   cases hk0:Ac st.heap l with
   |none=>exact (h.1.heap l).emp hk0
   |some b=>rw [hk0] at hl;cases hl
 ·rw [hπk]
  exact ⟨_,by rw [hn0];rfl,by dsimp only [r];omega,fun _=>by simp [r]⟩
theorem Amu {D:Nat→Prop} {r:Real} {e:Ty} {rows:List (List e.den)} (h:Pk w D (some r) e rows none):
  r.Av r.g∧ ∃(cur:Array Value) (ti:TypeId) (us:List Value) (Rs:List (Option Real)),w.heap[r.g]?=some (.cells cur ti (0,0))∧cur.size=r.o+r.cap∧r.cap≤maxLen∧rows.length≤r.cap∧(∀j u,us[j]?=some u→cur[r.o+j]?=some u)∧
   (∀u∈us,u.oneCell'=true)∧(∀(i:Nat) (q:Real),Rs[i]?=some (some q)→r.Av q.g∧q.g≠r.g)∧Ai6 w D us Rs e rows:=by
 obtain ⟨h1,cur,ti,h2,h3,h4,h5,Rs,h6,h7,h8,h9⟩:=h
 have hus: ∀j,j<rows.length→((cur.toList.drop r.o).take rows.length)[j]?=cur[r.o+j]?:=fun j hj=>by
  rw [List.getElem?_take,if_pos hj,List.getElem?_drop,Array.getElem?_toList]
 have hlen:((cur.toList.drop r.o).take rows.length).length=rows.length:=by simp;omega
 refine ⟨h1,cur,ti,(cur.toList.drop r.o).take rows.length,Rs,h2,h3,h4,h5,fun j u hu=>?_,fun u hu=>?_,h7,hlen,h6,h8,fun i x hx=>?_⟩
 ·have hj:=(List.getElem?_eq_some_iff.1 hu).1
  rw [hlen] at hj
  rw [←hus j hj];exact hu
 ·obtain ⟨j,hj,rfl⟩:=List.mem_iff_getElem.1 hu
  rw [hlen] at hj
  obtain ⟨u,R,g1,g2,g3,_⟩:=h9 j (rows[j]) (List.getElem?_eq_getElem hj) (by simp)
  have:=hus j hj
  rw [g1,List.getElem?_eq_getElem (by omega)] at this
  rw [Option.some.inj this]
  obtain ⟨_,_,_,hv⟩:=Qb g3
  rw [hv];rfl
 ·have hi:=(List.getElem?_eq_some_iff.1 hx).1
  obtain ⟨u,R,g1,g2,g3⟩:=h9 i x hx (by simp)
  exact ⟨u,R,by rw [hus i hi];exact g1,g2,g3⟩
end
end Go.Proofs.Ytebabhocakedaaa
