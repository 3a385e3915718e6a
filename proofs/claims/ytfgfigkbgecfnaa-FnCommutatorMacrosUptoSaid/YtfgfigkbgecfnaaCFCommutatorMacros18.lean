/-
  Part 19 of the proof that the statement FnCommutatorMacros holds.
-/
import Derived.Test.YtfgfigkbgecfnaaCFCommutatorMacros17
namespace Go.Proofs.Ytfgfigkbgecfnaa
open Go.RowKit
section
variable {P:Program} {T:Tab} {X:Ctx} {w w':World} {π π':Pi} {H H':List (Nat×OB)}
theorem sW (m:Nat) (c:AC):Bs m c= .undef\/(Bs m c=c/\ ∀k∈c.refs,k≠m):=by
 cases c<;>simp only [Bs]<;>first|(exact .inr ⟨trivial,λk hk=>by simp [AC.refs] at hk⟩)|(exact .inl trivial)|skip
 case clo f Cx=>
  split
  ·exact .inl rfl
  ·rename_i hn;exact .inr ⟨rfl,λk hk e=>hn (by rw [Gx];exact e▸hk)⟩
 all_goals
  split
  ·exact .inl rfl
  ·rename_i hn;exact .inr ⟨rfl,λk hk e=>hn ((Ad.1 hk).symm.trans e)⟩
theorem vD {st:St} {a:Act} (h:Ax X π st a w) {l i c m:Nat} {e:Ty} {te tid:TypeId} {rows:List (List e.den)} {kp:Option (Nat×Nat)} (hl:Ap st.heap l=some (.Bc e te rows none kp)) (cB:m≠l) (hm:m<Az) (kQ:l<Az)
  {v:Value} (hv:Fe X w π st.heap (.sub l i c) v): ∃π',Ax X π' (Mr st l i m e te tid rows kp) a w/\Fe X w π' (Mr st l i m e te tid rows kp).heap (.own m 0 (rows.getD i []).length) v:=by
 obtain ⟨r,b0,sz,n,h1,h0,h2,h3,⟨h4,_⟩,h5⟩:=hv
 rw [hl] at h1;cases h1
 simp only [OB.c6,Aa,Ab] at h0
 obtain ⟨rfl,rfl⟩:=h0
 have gz:c=0:=by omega
 subst gz
 rw [Dt,Dc] at h5
 have hb:=(h.1.heap l).Ns hl
 simp only [Bn] at hb
 obtain ⟨hb,sv⟩:=hb
 rw [h2] at hb sv
 obtain ⟨b1,cur,ti,b2,b3,b4,b5,Rs,b6,b7,b8,b9⟩:=hb
 have bf:rows[i]?=some (rows.getD i []):=by rw [An,Ac h3];rfl
 obtain ⟨u,R,k1,k2,k3,k4⟩:=b9 i _ bf (by simp)
 rw [cellOf b2,k1] at h5
 have hu:=Aw h5
 subst hu
 have NW: ∀q,R=some q->r.Bu q.g/\q.g≠r.g:= λq hq=>b7 i q (by rw [k2,hq])
 let Rm:Option Real:=R.map λq=> {q with Bu:= λb=>b=q.g,cl:= λb=>b=q.g}
 let rl:Real:= {r with Bu:= λb=>r.Bu b/\ ∀q,R=some q->b≠q.g,cl:= λb=>r.cl b/\ ∀q,R=some q->b≠q.g}
 let π':Pi:= λk=>if k=m then Rm else if k=l then some rl else π k
 have qC:π' m=Rm:=Af rfl
 have vT:π' l=some rl:=(Aj (Fo cB)).trans (Af rfl)
 have dp: ∀k,k≠m->k≠l->π' k=π k:= λk g1 g2=>(Aj g1).trans (Aj g2)
 have nE: ∀k q,π' k=some q->(k=m/\ ∃q0,R=some q0/\q= {q0 with Bu:= λb=>b=q0.g,cl:= λb=>b=q0.g})\/(k=l/\q=rl)\/(k≠m/\k≠l/\π k=some q):= λk q hq=>by
  by_cases e1:k=m
  ·subst e1;rw [qC] at hq
   cases hR:R with
   |none=>simp only [Rm,hR,Option.map_none] at hq;cases hq
   |some q0=>simp only [Rm,hR,Ah,Aa] at hq;exact .inl ⟨rfl,q0,rfl,hq.symm⟩
  ·by_cases e2:k=l
   ·subst e2;rw [vT] at hq;exact .inr (.inl ⟨rfl,(Aw hq).symm⟩)
   ·rw [dp k e1 e2] at hq;exact .inr (.inr ⟨e1,e2,hq⟩)
 have IA: ∀k,k≠m->Ap (Mr st l i m e te tid rows kp).heap k=(Ap (Ux st.heap l (.Bc e te rows (some i) kp)) k).map (OB.map (Bs m)):= λk hk=>St.Uj _ _ _ _ hk
 have IC:Ap (Mr st l i m e te tid rows kp).heap m=some (.arr false false e tid (rows.getD i [])):=St.Ew _ _ _
 have KH:Ap (Mr st l i m e te tid rows kp).heap l=some (.Bc e te rows (some i) kp):=by rw [IA l (Fo cB),Dj _ _ _ _ hl];rfl
 have xw: ∀k,k≠m->k≠l->Ap (Mr st l i m e te tid rows kp).heap k=(Ap st.heap k).map (OB.map (Bs m)):= λk g1 g2=>by rw [IA k g1,Cu _ _ _ _ g2]
 have VT: ∀q,R=some q->r.cl q.g:= λq hq=>h.1.sub l r _ h2 (NW q hq).1
 refine ⟨π',?_,?_⟩
 ·have Yi:Mr st l i m e te tid rows kp= {tmps:=st.tmps.map (·.map (Bs m)),heap:=(Mr st l i m e te tid rows kp).heap} :=rfl
  rw [Yi]
  refine h.iD rfl (gv:= λ_=>False) (λ_ hf=>hf.elim) (Gw.refl _ _ _) (λb _ ⟨k,q,g1,g2⟩=>?_) (λk q b g1 g2=>?_) (λk q b g1 g2=>?_) (λk k' q q' b g1 g2 g3 g4=>?_) (λk hk Hs=>?_) (λhc=>iC (D:= λk=>k=m) (Pt:= λ_=>False) (λc=>?_) (λk hk=>?_) (λk b hk hb=>?_) (λ_ _ _ _ _ _ _ _=>rfl) hc) (λmv k b hb=>?_) (λk hk=>?_)
  ·rcases nE k q g1 with ⟨_,q0,e1,rfl⟩|⟨_,rfl⟩|⟨_,_,e1⟩
   ·have g2:b=q0.g:=g2
    exact ⟨l,r,h2,g2▸(NW q0 e1).1⟩
   ·exact ⟨l,r,h2,g2.1⟩
   ·exact ⟨k,q,e1,g2⟩
  ·rcases nE k q g1 with ⟨_,q0,e1,rfl⟩|⟨_,rfl⟩|⟨_,_,e1⟩
   ·exact g2
   ·exact ⟨h.1.sub l r b h2 g2.1,g2.2⟩
   ·exact h.1.sub k q b e1 g2
  ·rcases nE k q g1 with ⟨_,q0,e1,rfl⟩|⟨_,rfl⟩|⟨_,_,e1⟩
   ·have g2:b=q0.g:=g2
    exact g2▸h.1.place l r _ h2 (VT q0 e1)
   ·exact h.1.place l r b h2 g2.1
   ·exact h.1.place k q b e1 g2
  ·rcases nE k q g1 with ⟨e0,q0,e1,rfl⟩|⟨e0,rfl⟩|⟨e0,e2,e1⟩<;>rcases nE k' q' g2 with ⟨f0,q1,f1,rfl⟩|⟨f0,rfl⟩|⟨f0,f2,f1⟩
   ·rw [e0,f0]
   ·exact absurd g3 (g4.2 q0 e1)
   ·have g3:b=q0.g:=g3
    exact absurd (h.1.inj k' l q' r b f1 h2 g4 (g3▸VT q0 e1)) f2
   ·exact absurd g4 (g3.2 q1 f1)
   ·rw [e0,f0]
   ·exact absurd (h.1.inj k' l q' r b f1 h2 g4 g3.1) f2
   ·have g4:b=q1.g:=g4
    exact absurd (h.1.inj k l q r b e1 h2 g3 (g4▸VT q1 f1)) e2
   ·exact absurd (h.1.inj k l q r b e1 h2 g3 g4.1) e2
   ·exact h.1.inj k k' q q' b e1 f1 g3 g4
  ·have e1:k≠m:=by omega
   have e2:k≠l:=by omega
   rw [dp k e1 e2]
   refine h.1.cD k hk λh0=>Hs ?_
   rw [xw k e1 e2,h0];rfl
  ·rcases sW m c with e|⟨e,g⟩
   ·exact .inl e
   ·exact .inr ⟨e,λk hk=>g k hk,λ_ _ _ _ hf=>hf⟩
  ·by_cases e2:k=l
   ·subst e2;rw [vT,h2];exact ⟨rfl,rfl,rfl⟩
   ·rw [dp k hk e2];exact bR.rfl' _
  ·by_cases e2:k=l
   ·subst e2
    rw [hl] at hb;cases hb
    exact ⟨_,KH,⟨λ_ n h=>⟨n,h,Ao _⟩,λ_ h=>h,λ_ h=>h,(λ_ _ h=>by cases h),(λ_ _ h=>by cases h)⟩⟩
   ·exact ⟨_,by rw [xw k hk e2,hb];rfl,OB.Pe.map _ b⟩
  ·by_cases e1:k=m
   ·subst e1
    rw [IC] at hb;cases hb
    rw [qC]
    simp only [Bn,Hg]
    cases hR:R with
    |none=>rw [hR] at k4;simp only [Rm,hR,Option.map_none];exact k4
    |some q=>
     rw [hR] at k4
     simp only [Rm,hR,Ah]
     obtain ⟨f1,cu,FH,f2,f3,f4,f5,f6⟩:=k4
     exact ⟨⟨trivial,λ_ h=>h,λh=>by cases h⟩,cu,FH,f2,f3,f4,f5,λj y hy=>by
      obtain ⟨es,g1,g2,g3⟩:=f6 j y hy
      exact ⟨es,g1,g2,mv.cells false e es y g3⟩,λh=>by cases h⟩
   ·by_cases e2:k=l
    ·subst e2
     rw [KH] at hb;cases hb
     rw [vT]
     have WM:KeptAt X w (some rl) kp:=by
      cases kp with
      |none=>trivial
      |some p=>
       obtain ⟨l0,n0⟩:=p
       simp only [KeptAt] at sv⊢
       cases yD:X.cD l0 with
       |none=>rw [yD] at sv;exact sv.elim
       |some r0=>rw [yD] at sv;exact sv
     refine ⟨⟨⟨b1,λq hq=>(NW q hq).2.symm⟩,cur,ti,b2,b3,b4,b5,Rs.set i none,by simpa using b6,λj q hj=>?_,λj j' q q' hj iR=>?_,λj y hy ho=>?_⟩,WM⟩
     ·rw [Dg] at hj
      split at hj
      ·split at hj<;>cases hj
      ·rename_i fW
       refine ⟨⟨(b7 j q hj).1,λq0 hq0 e=>fW (b8 i j q0 q (by rw [k2,hq0]) hj e.symm)⟩,(b7 j q hj).2⟩
     ·rw [Dg] at hj iR
      split at hj
      ·split at hj<;>cases hj
      ·split at iR
       ·split at iR<;>cases iR
       ·exact b8 j j' q q' hj iR
     ·obtain ⟨u',R',q1,q2,q3,q4⟩:=b9 j y hy (by simp)
      have fW:i≠j:= λe=>ho (by rw [e])
      exact ⟨u',R',q1,by rw [Dg,Aj fW];exact q2,q3,q4.to (λ_ _=>rfl) λes y hc=>mv.cells false e es y hc⟩
    ·rw [xw k e1 e2] at hb
     cases hk:Ap st.heap k with
     |none=>rw [hk] at hb;cases hb
     |some b1=>
      rw [hk] at hb
      simp only [Ah,Aa] at hb;subst hb
      rw [dp k e1 e2]
      exact ((h.1.heap k).Ns hk).move mv (Ao _) (λr0 c h0 h1=>h.1.sub _ r0 c h0 h1) λ_ _ _ _ _=>rfl
  ·have e1:k≠m:= λe=>by subst e;rw [IC] at hk;cases hk
   have e2:k≠l:= λe=>by subst e;rw [KH] at hk;cases hk
   rw [xw k e1 e2] at hk
   rw [dp k e1 e2]
   cases qx:Ap st.heap k with
   |none=>exact (h.1.heap k).emp qx
   |some b=>rw [qx] at hk;cases hk
 ·refine ⟨_,e.size,(rows.getD i []).length,IC,rfl,by omega,?_⟩
  rw [qC]
  cases hR:R with
  |none=>rw [hR] at k3;simp only [Rm,hR,Option.map_none];exact k3
  |some q=>rw [hR] at k3;simp only [Rm,hR,Ah];exact k3
end
end Go.Proofs.Ytfgfigkbgecfnaa
