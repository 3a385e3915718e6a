/-
  Part 19 of the proof that the statement FnExactSolutionsAtDepth holds.
-/
import Derived.Test.YtfolipnappekaaaGreatCSolutionsAtDepth17
namespace Go.Proofs.YtfolipnappekaaaGreat
open Go.RowKit
section
variable {P:Program} {T:Tab} {X:Ctx} {w w':World} {π π':Pi} {H H':List (Nat×OB)}
theorem yI (m:Nat) (c:AC):Bd m c= .undef\/(Bd m c=c/\ ∀k∈c.refs,k≠m):=by
 cases c<;>simp only [Bd]<;>first|(exact .inr ⟨trivial,λk hk=>by simp [AC.refs] at hk⟩)|(exact .inl trivial)|skip
 case clo f Ca=>
  split
  ·exact .inl rfl
  ·rename_i hn;exact .inr ⟨rfl,λk hk e=>hn (by rw [List.contains_iff_mem];exact e▸hk)⟩
 all_goals
  split
  ·exact .inl rfl
  ·rename_i hn;exact .inr ⟨rfl,λk hk e=>hn ((List.mem_singleton.1 hk).symm.trans e)⟩
theorem DJ {st:St} {a:Act} (h:Ak X π st a w) {l i c m:Nat} {e:Ty} {te tid:TypeId} {rows:List (List e.den)} {kp:Option (Nat×Nat)} (hl:Ad st.heap l=some (.Al e te rows none kp)) (fZ:m≠l) (hm:m<Am) (pQ:l<Am)
  {v:Value} (hv:Dw X w π st.heap (.sub l i c) v): ∃π',Ak X π' (Ld st l i m e te tid rows kp) a w/\Dw X w π' (Ld st l i m e te tid rows kp).heap (.own m 0 (rows.getD i []).length) v:=by
 obtain ⟨r,b0,sz,n,h1,h0,h2,h3,⟨h4,_⟩,h5⟩:=hv
 rw [hl] at h1;cases h1
 simp only [OB.cz,Option.some.injEq,Prod.mk.injEq] at h0
 obtain ⟨rfl,rfl⟩:=h0
 have gF:c=0:=by omega
 subst gF
 rw [Nat.mul_one,Nat.add_zero] at h5
 have hb:=(h.1.heap l).Ma hl
 simp only [Av] at hb
 obtain ⟨hb,pP⟩:=hb
 rw [h2] at hb pP
 obtain ⟨b1,cur,ti,b2,b3,b4,b5,Rs,b6,b7,b8,b9⟩:=hb
 have Gj:rows[i]?=some (rows.getD i []):=by rw [List.getD_eq_getElem?_getD,List.getElem?_eq_getElem h3];rfl
 obtain ⟨u,R,k1,k2,k3,k4⟩:=b9 i _ Gj (by simp)
 rw [cellOf b2,k1] at h5
 have hu:=Option.some.inj h5
 subst hu
 have hqf: ∀q,R=some q->r.Bg q.g/\q.g≠r.g:= λq hq=>b7 i q (by rw [k2,hq])
 let Rm:Option Real:=R.map λq=> {q with Bg:= λb=>b=q.g,cl:= λb=>b=q.g}
 let rl:Real:= {r with Bg:= λb=>r.Bg b/\ ∀q,R=some q->b≠q.g,cl:= λb=>r.cl b/\ ∀q,R=some q->b≠q.g}
 let π':Pi:= λk=>if k=m then Rm else if k=l then some rl else π k
 have wb:π' m=Rm:=if_pos rfl
 have EC:π' l=some rl:=(if_neg (Ne.symm fZ)).trans (if_pos rfl)
 have dM: ∀k,k≠m->k≠l->π' k=π k:= λk g1 g2=>(if_neg g1).trans (if_neg g2)
 have rQ: ∀k q,π' k=some q->(k=m/\ ∃q0,R=some q0/\q= {q0 with Bg:= λb=>b=q0.g,cl:= λb=>b=q0.g})\/(k=l/\q=rl)\/(k≠m/\k≠l/\π k=some q):= λk q hq=>by
  by_cases e1:k=m
  ·subst e1;rw [wb] at hq
   cases hR:R with
   |none=>simp only [Rm,hR,Option.map_none] at hq;cases hq
   |some q0=>simp only [Rm,hR,Option.map_some,Option.some.injEq] at hq;exact .inl ⟨rfl,q0,rfl,hq.symm⟩
  ·by_cases e2:k=l
   ·subst e2;rw [EC] at hq;exact .inr (.inl ⟨rfl,(Option.some.inj hq).symm⟩)
   ·rw [dM k e1 e2] at hq;exact .inr (.inr ⟨e1,e2,hq⟩)
 have ZV: ∀k,k≠m->Ad (Ld st l i m e te tid rows kp).heap k=(Ad (Ve st.heap l (.Al e te rows (some i) kp)) k).map (OB.map (Bd m)):= λk hk=>St.Uk _ _ _ _ hk
 have ZX:Ad (Ld st l i m e te tid rows kp).heap m=some (.arr false false e tid (rows.getD i [])):=St.Dr _ _ _
 have hHl:Ad (Ld st l i m e te tid rows kp).heap l=some (.Al e te rows (some i) kp):=by rw [ZV l (Ne.symm fZ),Cf _ _ _ _ hl];rfl
 have JE: ∀k,k≠m->k≠l->Ad (Ld st l i m e te tid rows kp).heap k=(Ad st.heap k).map (OB.map (Bd m)):= λk g1 g2=>by rw [ZV k g1,Bv _ _ _ _ g2]
 have hcq: ∀q,R=some q->r.cl q.g:= λq hq=>h.1.sub l r _ h2 (hqf q hq).1
 refine ⟨π',?_,?_⟩
 ·have On:Ld st l i m e te tid rows kp= {tmps:=st.tmps.map (·.map (Bd m)),heap:=(Ld st l i m e te tid rows kp).heap} :=rfl
  rw [On]
  refine h.kq rfl (gv:= λ_=>False) (λ_ hf=>hf.elim) (Gg.refl _ _ _) (λb _ ⟨k,q,g1,g2⟩=>?_) (λk q b g1 g2=>?_) (λk q b g1 g2=>?_) (λk k' q q' b g1 g2 g3 g4=>?_) (λk hk Ek=>?_) (λhc=>ko (D:= λk=>k=m) (Pt:= λ_=>False) (λc=>?_) (λk hk=>?_) (λk b hk hb=>?_) (λ_ _ _ _ _ _ _ _=>rfl) hc) (λmv k b hb=>?_) (λk hk=>?_)
  ·rcases rQ k q g1 with ⟨_,q0,e1,rfl⟩|⟨_,rfl⟩|⟨_,_,e1⟩
   ·have g2:b=q0.g:=g2
    exact ⟨l,r,h2,g2▸(hqf q0 e1).1⟩
   ·exact ⟨l,r,h2,g2.1⟩
   ·exact ⟨k,q,e1,g2⟩
  ·rcases rQ k q g1 with ⟨_,q0,e1,rfl⟩|⟨_,rfl⟩|⟨_,_,e1⟩
   ·exact g2
   ·exact ⟨h.1.sub l r b h2 g2.1,g2.2⟩
   ·exact h.1.sub k q b e1 g2
  ·rcases rQ k q g1 with ⟨_,q0,e1,rfl⟩|⟨_,rfl⟩|⟨_,_,e1⟩
   ·have g2:b=q0.g:=g2
    exact g2▸h.1.place l r _ h2 (hcq q0 e1)
   ·exact h.1.place l r b h2 g2.1
   ·exact h.1.place k q b e1 g2
  ·rcases rQ k q g1 with ⟨e0,q0,e1,rfl⟩|⟨e0,rfl⟩|⟨e0,e2,e1⟩<;>rcases rQ k' q' g2 with ⟨f0,q1,f1,rfl⟩|⟨f0,rfl⟩|⟨f0,f2,f1⟩
   ·rw [e0,f0]
   ·exact absurd g3 (g4.2 q0 e1)
   ·have g3:b=q0.g:=g3
    exact absurd (h.1.inj k' l q' r b f1 h2 g4 (g3▸hcq q0 e1)) f2
   ·exact absurd g4 (g3.2 q1 f1)
   ·rw [e0,f0]
   ·exact absurd (h.1.inj k' l q' r b f1 h2 g4 g3.1) f2
   ·have g4:b=q1.g:=g4
    exact absurd (h.1.inj k l q r b e1 h2 g3 (g4▸hcq q1 f1)) e2
   ·exact absurd (h.1.inj k l q r b e1 h2 g3 g4.1) e2
   ·exact h.1.inj k k' q q' b e1 f1 g3 g4
  ·have e1:k≠m:=by omega
   have e2:k≠l:=by omega
   rw [dM k e1 e2]
   refine h.1.cW k hk λh0=>Ek ?_
   rw [JE k e1 e2,h0];rfl
  ·rcases yI m c with e|⟨e,g⟩
   ·exact .inl e
   ·exact .inr ⟨e,λk hk=>g k hk,λ_ _ _ _ hf=>hf⟩
  ·by_cases e2:k=l
   ·subst e2;rw [EC,h2];exact ⟨rfl,rfl,rfl⟩
   ·rw [dM k hk e2];exact cm.rfl' _
  ·by_cases e2:k=l
   ·subst e2
    rw [hl] at hb;cases hb
    exact ⟨_,hHl,⟨λ_ n h=>⟨n,h,Nat.le_refl _⟩,λ_ h=>h,λ_ h=>h,(λ_ _ h=>by cases h),(λ_ _ h=>by cases h)⟩⟩
   ·exact ⟨_,by rw [JE k hk e2,hb];rfl,OB.Nw.map _ b⟩
  ·by_cases e1:k=m
   ·subst e1
    rw [ZX] at hb;cases hb
    rw [wb]
    simp only [Av,Fu]
    cases hR:R with
    |none=>rw [hR] at k4;simp only [Rm,hR,Option.map_none];exact k4
    |some q=>
     rw [hR] at k4
     simp only [Rm,hR,Option.map_some]
     obtain ⟨f1,cu,WL,f2,f3,f4,f5,f6⟩:=k4
     exact ⟨⟨trivial,λ_ h=>h,λh=>by cases h⟩,cu,WL,f2,f3,f4,f5,λj y hy=>by
      obtain ⟨es,g1,g2,g3⟩:=f6 j y hy
      exact ⟨es,g1,g2,mv.cells false e es y g3⟩,λh=>by cases h⟩
   ·by_cases e2:k=l
    ·subst e2
     rw [hHl] at hb;cases hb
     rw [EC]
     have Am4:KeptAt X w (some rl) kp:=by
      cases kp with
      |none=>trivial
      |some p=>
       obtain ⟨l0,n0⟩:=p
       simp only [KeptAt] at pP⊢
       cases LS:X.cW l0 with
       |none=>rw [LS] at pP;exact pP.elim
       |some r0=>rw [LS] at pP;exact pP
     refine ⟨⟨⟨b1,λq hq=>(hqf q hq).2.symm⟩,cur,ti,b2,b3,b4,b5,Rs.set i none,by simpa using b6,λj q hj=>?_,λj j' q q' hj w5=>?_,λj y hy ho=>?_⟩,Am4⟩
     ·rw [List.getElem?_set] at hj
      split at hj
      ·split at hj<;>cases hj
      ·rename_i dI
       refine ⟨⟨(b7 j q hj).1,λq0 hq0 e=>dI (b8 i j q0 q (by rw [k2,hq0]) hj e.symm)⟩,(b7 j q hj).2⟩
     ·rw [List.getElem?_set] at hj w5
      split at hj
      ·split at hj<;>cases hj
      ·split at w5
       ·split at w5<;>cases w5
       ·exact b8 j j' q q' hj w5
     ·obtain ⟨u',R',q1,q2,q3,q4⟩:=b9 j y hy (by simp)
      have dI:i≠j:= λe=>ho (by rw [e])
      exact ⟨u',R',q1,by rw [List.getElem?_set,if_neg dI];exact q2,q3,q4.to (λ_ _=>rfl) λes y hc=>mv.cells false e es y hc⟩
    ·rw [JE k e1 e2] at hb
     cases hk:Ad st.heap k with
     |none=>rw [hk] at hb;cases hb
     |some b1=>
      rw [hk] at hb
      simp only [Option.map_some,Option.some.injEq] at hb;subst hb
      rw [dM k e1 e2]
      exact ((h.1.heap k).Ma hk).move mv (Nat.le_refl _) (λr0 c h0 h1=>h.1.sub _ r0 c h0 h1) λ_ _ _ _ _=>rfl
  ·have e1:k≠m:= λe=>by subst e;rw [ZX] at hk;cases hk
   have e2:k≠l:= λe=>by subst e;rw [hHl] at hk;cases hk
   rw [JE k e1 e2] at hk
   rw [dM k e1 e2]
   cases w6:Ad st.heap k with
   |none=>exact (h.1.heap k).emp w6
   |some b=>rw [w6] at hk;cases hk
 ·refine ⟨_,e.size,(rows.getD i []).length,ZX,rfl,by omega,?_⟩
  rw [wb]
  cases hR:R with
  |none=>rw [hR] at k3;simp only [Rm,hR,Option.map_none];exact k3
  |some q=>rw [hR] at k3;simp only [Rm,hR,Option.map_some];exact k3
end
end Go.Proofs.YtfolipnappekaaaGreat
