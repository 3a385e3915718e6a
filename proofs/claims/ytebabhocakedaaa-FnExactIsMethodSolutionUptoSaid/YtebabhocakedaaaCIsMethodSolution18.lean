/-
  Part 19 of the proof that the statement FnExactIsMethodSolution holds.
-/
import Derived.Test.YtebabhocakedaaaCIsMethodSolution17
namespace Go.Proofs.Ytebabhocakedaaa
open Go.RowKit
section
variable {P:Program} {T:Tab} {X:Ctx} {w w':World} {π π':Pi} {H H':List (Nat×OB)}
theorem As7 (m:Nat) (c:AC):Aw m c= .undef∨(Aw m c=c∧ ∀k∈c.refs,k≠m):=by
 cases c<;>simp only [Aw]<;>first|(exact .inr ⟨trivial,fun k hk=>by simp [AC.refs] at hk⟩)|(exact .inl trivial)|skip
 case clo f caps=>
  split
  ·exact .inl rfl
  ·rename_i hn;exact .inr ⟨rfl,fun k hk e=>hn (by rw [List.contains_iff_mem];exact e▸hk)⟩
 all_goals
  split
  ·exact .inl rfl
  ·rename_i hn;exact .inr ⟨rfl,fun k hk e=>hn ((List.mem_singleton.1 hk).symm.trans e)⟩
theorem Ave {st:St} {a:Act} (h:Af X π st a w) {l i c m:Nat} {e:Ty} {te tid:TypeId} {rows:List (List e.den)} {kp:Option (Nat×Nat)} (hl:Ac st.heap l=some (.grid e te rows none kp)) (hml:m≠l) (hm:m<Ag) (hlp:l<Ag)
  {v:Value} (hv:Df X w π st.heap (.sub l i c) v): ∃π',Af X π' (It st l i m e te tid rows kp) a w∧Df X w π' (It st l i m e te tid rows kp).heap (.own m 0 (rows.getD i []).length) v:=by
 obtain ⟨r,b0,sz,n,h1,h0,h2,h3,⟨h4,_⟩,h5⟩:=hv
 rw [hl] at h1;cases h1
 simp only [OB.inn,Option.some.injEq,Prod.mk.injEq] at h0
 obtain ⟨rfl,rfl⟩:=h0
 have hc0:c=0:=by omega
 subst hc0
 rw [Nat.mul_one,Nat.add_zero] at h5
 have hb:=(h.1.heap l).blk hl
 simp only [Aq] at hb
 obtain ⟨hb,hkp⟩:=hb
 rw [h2] at hb hkp
 obtain ⟨b1,cur,ti,b2,b3,b4,b5,Rs,b6,b7,b8,b9⟩:=hb
 have hrow:rows[i]?=some (rows.getD i []):=by rw [List.getD_eq_getElem?_getD,List.getElem?_eq_getElem h3];rfl
 obtain ⟨u,R,k1,k2,k3,k4⟩:=b9 i _ hrow (by simp)
 rw [cellOf b2,k1] at h5
 have hu:=Option.some.inj h5
 subst hu
 have hqf: ∀q,R=some q→r.Av q.g∧q.g≠r.g:=fun q hq=>b7 i q (by rw [k2,hq])
 let Rm:Option Real:=R.map fun q=> {q with Av:=fun b=>b=q.g,cl:=fun b=>b=q.g}
 let rl:Real:= {r with Av:=fun b=>r.Av b∧ ∀q,R=some q→b≠q.g,cl:=fun b=>r.cl b∧ ∀q,R=some q→b≠q.g}
 let π':Pi:=fun k=>if k=m then Rm else if k=l then some rl else π k
 have hπm:π' m=Rm:=if_pos rfl
 have hπl:π' l=some rl:=(if_neg (Ne.symm hml)).trans (if_pos rfl)
 have hπo: ∀k,k≠m→k≠l→π' k=π k:=fun k g1 g2=>(if_neg g1).trans (if_neg g2)
 have cas: ∀k q,π' k=some q→(k=m∧ ∃q0,R=some q0∧q= {q0 with Av:=fun b=>b=q0.g,cl:=fun b=>b=q0.g})∨(k=l∧q=rl)∨(k≠m∧k≠l∧π k=some q):=fun k q hq=>by
  by_cases e1:k=m
  ·subst e1;rw [hπm] at hq
   cases hR:R with
   |none=>simp only [Rm,hR,Option.map_none] at hq;cases hq
   |some q0=>simp only [Rm,hR,Option.map_some,Option.some.injEq] at hq;exact .inl ⟨rfl,q0,rfl,hq.symm⟩
  ·by_cases e2:k=l
   ·subst e2;rw [hπl] at hq;exact .inr (.inl ⟨rfl,(Option.some.inj hq).symm⟩)
   ·rw [hπo k e1 e2] at hq;exact .inr (.inr ⟨e1,e2,hq⟩)
 have hH': ∀k,k≠m→Ac (It st l i m e te tid rows kp).heap k=(Ac (Tj st.heap l (.grid e te rows (some i) kp)) k).map (OB.map (Aw m)):=fun k hk=>St.Ot _ _ _ _ hk
 have hHm:Ac (It st l i m e te tid rows kp).heap m=some (.arr false false e tid (rows.getD i [])):=St.Cy _ _ _
 have hHl:Ac (It st l i m e te tid rows kp).heap l=some (.grid e te rows (some i) kp):=by rw [hH' l (Ne.symm hml),Cf _ _ _ _ hl];rfl
 have hHo: ∀k,k≠m→k≠l→Ac (It st l i m e te tid rows kp).heap k=(Ac st.heap k).map (OB.map (Aw m)):=fun k g1 g2=>by rw [hH' k g1,Cb _ _ _ _ g2]
 have hcq: ∀q,R=some q→r.cl q.g:=fun q hq=>h.1.sub l r _ h2 (hqf q hq).1
 refine ⟨π',?_,?_⟩
 ·have hst:It st l i m e te tid rows kp= {tmps:=st.tmps.map (·.map (Aw m)),heap:=(It st l i m e te tid rows kp).heap} :=rfl
  rw [hst]
  refine h.Aeg rfl (gv:=fun _=>False) (fun _ hf=>hf.elim) (Fa.refl _ _ _) (fun b _ ⟨k,q,g1,g2⟩=>?_) (fun k q b g1 g2=>?_) (fun k q b g1 g2=>?_) (fun k k' q q' b g1 g2 g3 g4=>?_) (fun k hk hne=>?_) (fun hc=>Aef (D:=fun k=>k=m) (Pt:=fun _=>False) (fun c=>?_) (fun k hk=>?_) (fun k b hk hb=>?_) (fun _ _ _ _ _ _ _ _=>rfl) hc) (fun mv k b hb=>?_) (fun k hk=>?_)
  ·rcases cas k q g1 with ⟨_,q0,e1,rfl⟩|⟨_,rfl⟩|⟨_,_,e1⟩
   ·have g2:b=q0.g:=g2
    exact ⟨l,r,h2,g2▸(hqf q0 e1).1⟩
   ·exact ⟨l,r,h2,g2.1⟩
   ·exact ⟨k,q,e1,g2⟩
  ·rcases cas k q g1 with ⟨_,q0,e1,rfl⟩|⟨_,rfl⟩|⟨_,_,e1⟩
   ·exact g2
   ·exact ⟨h.1.sub l r b h2 g2.1,g2.2⟩
   ·exact h.1.sub k q b e1 g2
  ·rcases cas k q g1 with ⟨_,q0,e1,rfl⟩|⟨_,rfl⟩|⟨_,_,e1⟩
   ·have g2:b=q0.g:=g2
    exact g2▸h.1.place l r _ h2 (hcq q0 e1)
   ·exact h.1.place l r b h2 g2.1
   ·exact h.1.place k q b e1 g2
  ·rcases cas k q g1 with ⟨e0,q0,e1,rfl⟩|⟨e0,rfl⟩|⟨e0,e2,e1⟩<;>rcases cas k' q' g2 with ⟨f0,q1,f1,rfl⟩|⟨f0,rfl⟩|⟨f0,f2,f1⟩
   ·rw [e0,f0]
   ·exact absurd g3 (g4.2 q0 e1)
   ·have g3:b=q0.g:=g3
    exact absurd (h.1.inj k' l q' r b f1 h2 g4 (g3▸hcq q0 e1)) f2
   ·exact absurd g4 (g3.2 q1 f1)
   ·rw [e0,f0]
   ·exact absurd (h.1.inj k' l q' r b f1 h2 g4 g3.1) f2
   ·have g4:b=q1.g:=g4
    exact absurd (h.1.inj k l q r b e1 h2 g3 (g4▸hcq q1 f1)) e2
   ·exact absurd (h.1.inj k l q r b e1 h2 g3 g4.1) e2
   ·exact h.1.inj k k' q q' b e1 f1 g3 g4
  ·have e1:k≠m:=by omega
   have e2:k≠l:=by omega
   rw [hπo k e1 e2]
   refine h.1.pin k hk fun h0=>hne ?_
   rw [hHo k e1 e2,h0];rfl
  ·rcases As7 m c with e|⟨e,g⟩
   ·exact .inl e
   ·exact .inr ⟨e,fun k hk=>g k hk,fun _ _ _ _ hf=>hf⟩
  ·by_cases e2:k=l
   ·subst e2;rw [hπl,h2];exact ⟨rfl,rfl,rfl⟩
   ·rw [hπo k hk e2];exact Wx.Hl _
  ·by_cases e2:k=l
   ·subst e2
    rw [hl] at hb;cases hb
    exact ⟨_,hHl,⟨fun _ n h=>⟨n,h,Nat.le_refl _⟩,fun _ h=>h,fun _ h=>h,(fun _ _ h=>by cases h),(fun _ _ h=>by cases h)⟩⟩
   ·exact ⟨_,by rw [hHo k hk e2,hb];rfl,OB.Kl.map _ b⟩
  ·by_cases e1:k=m
   ·subst e1
    rw [hHm] at hb;cases hb
    rw [hπm]
    simp only [Aq,El]
    cases hR:R with
    |none=>rw [hR] at k4;simp only [Rm,hR,Option.map_none];exact k4
    |some q=>
     rw [hR] at k4
     simp only [Rm,hR,Option.map_some]
     obtain ⟨f1,cu,ti',f2,f3,f4,f5,f6⟩:=k4
     exact ⟨⟨trivial,fun _ h=>h,fun h=>by cases h⟩,cu,ti',f2,f3,f4,f5,fun j y hy=>by
      obtain ⟨es,g1,g2,g3⟩:=f6 j y hy
      exact ⟨es,g1,g2,mv.cells false e es y g3⟩,fun h=>by cases h⟩
   ·by_cases e2:k=l
    ·subst e2
     rw [hHl] at hb;cases hb
     rw [hπl]
     have hkp':KeptAt X w (some rl) kp:=by
      cases kp with
      |none=>trivial
      |some p=>
       obtain ⟨l0,n0⟩:=p
       simp only [KeptAt] at hkp⊢
       cases hpn:X.pin l0 with
       |none=>rw [hpn] at hkp;exact hkp.elim
       |some r0=>rw [hpn] at hkp;exact hkp
     refine ⟨⟨⟨b1,fun q hq=>(hqf q hq).2.symm⟩,cur,ti,b2,b3,b4,b5,Rs.set i none,by simpa using b6,fun j q hj=>?_,fun j j' q q' hj hj'=>?_,fun j y hy ho=>?_⟩,hkp'⟩
     ·rw [List.getElem?_set] at hj
      split at hj
      ·split at hj<;>cases hj
      ·rename_i hij
       refine ⟨⟨(b7 j q hj).1,fun q0 hq0 e=>hij (b8 i j q0 q (by rw [k2,hq0]) hj e.symm)⟩,(b7 j q hj).2⟩
     ·rw [List.getElem?_set] at hj hj'
      split at hj
      ·split at hj<;>cases hj
      ·split at hj'
       ·split at hj'<;>cases hj'
       ·exact b8 j j' q q' hj hj'
     ·obtain ⟨u',R',q1,q2,q3,q4⟩:=b9 j y hy (by simp)
      have hij:i≠j:=fun e=>ho (by rw [e])
      exact ⟨u',R',q1,by rw [List.getElem?_set,if_neg hij];exact q2,q3,q4.to (fun _ _=>rfl) fun es y hc=>mv.cells false e es y hc⟩
    ·rw [hHo k e1 e2] at hb
     cases hk:Ac st.heap k with
     |none=>rw [hk] at hb;cases hb
     |some b1=>
      rw [hk] at hb
      simp only [Option.map_some,Option.some.injEq] at hb;subst hb
      rw [hπo k e1 e2]
      exact ((h.1.heap k).blk hk).move mv (Nat.le_refl _) (fun r0 c h0 h1=>h.1.sub _ r0 c h0 h1) fun _ _ _ _ _=>rfl
  ·have e1:k≠m:=fun e=>by subst e;rw [hHm] at hk;cases hk
   have e2:k≠l:=fun e=>by subst e;rw [hHl] at hk;cases hk
   rw [hHo k e1 e2] at hk
   rw [hπo k e1 e2]
   cases hk0:Ac st.heap k with
   |none=>exact (h.1.heap k).emp hk0
   |some b=>rw [hk0] at hk;cases hk
 ·refine ⟨_,e.size,(rows.getD i []).length,hHm,rfl,by omega,?_⟩
  rw [hπm]
  cases hR:R with
  |none=>rw [hR] at k3;simp only [Rm,hR,Option.map_none];exact k3
  |some q=>rw [hR] at k3;simp only [Rm,hR,Option.map_some];exact k3
end
end Go.Proofs.Ytebabhocakedaaa
