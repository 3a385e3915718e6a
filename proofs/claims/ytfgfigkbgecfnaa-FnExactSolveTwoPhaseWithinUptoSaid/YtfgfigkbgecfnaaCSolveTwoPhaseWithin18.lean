/-
  Part 19 of the proof that the statement FnExactSolveTwoPhaseWithin holds.
-/
import Derived.Test.YtfgfigkbgecfnaaCSolveTwoPhaseWithin17
namespace Go.Proofs.Ytfgfigkbgecfnaa
open Go.RowKit
section
variable {P:Program} {T:Tab} {X:Ctx} {w w':World} {π π':Pi} {H H':List (Nat×OB)}
theorem FQ (m:Nat) (c:AC):Cy m c= .undef\/(Cy m c=c/\ ∀k∈c.refs,k≠m):=by
 cases c<;>simp only [Cy]<;>first|(exact .inr ⟨trivial,λk hk=>by simp [AC.refs] at hk⟩)|(exact .inl trivial)|skip
 case clo f En=>
  split
  ·exact .inl rfl
  ·rename_i hn;exact .inr ⟨rfl,λk hk e=>hn (by rw [Kc];exact e▸hk)⟩
 all_goals
  split
  ·exact .inl rfl
  ·rename_i hn;exact .inr ⟨rfl,λk hk e=>hn ((Af.1 hk).symm.trans e)⟩
theorem MK {st:St} {a:Act} (h:Bs X π st a w) {l i c m:Nat} {e:Ty} {te tid:TypeId} {rows:List (List e.den)} {kp:Option (Nat×Nat)} (hl:Ay st.heap l=some (.Ca e te rows none kp)) (l8:m≠l) (hm:m<Bv) (ud:l<Bv)
  {v:Value} (hv:Hw X w π st.heap (.sub l i c) v): ∃π',Bs X π' (Qq st l i m e te tid rows kp) a w/\Hw X w π' (Qq st l i m e te tid rows kp).heap (.own m 0 (rows.getD i []).length) v:=by
 obtain ⟨r,b0,sz,n,h1,h0,h2,h3,⟨h4,_⟩,h5⟩:=hv;rw [hl] at h1;cases h1;simp only [OB.ic,Aa,Ag] at h0;obtain ⟨rfl,rfl⟩:=h0
 have mF:c=0:=by omega
 subst mF;rw [Gm,El] at h5;have hb:=(h.1.heap l).Se hl;simp only [Cq] at hb;obtain ⟨hb,ub⟩:=hb;rw [h2] at hb ub;obtain ⟨b1,cur,ti,b2,b3,b4,b5,Rs,b6,b7,b8,b9⟩:=hb
 have Qd:rows[i]?=some (rows.getD i []):=by rw [Al,Ad h3];rfl
 obtain ⟨u,R,k1,k2,k3,k4⟩:=b9 i _ Qd (by simp);rw [cellOf b2,k1] at h5;have hu:=Bi h5;subst hu;have hqf: ∀q,R=some q->r.Df q.g/\q.g≠r.g:= λq hq=>b7 i q (by rw [k2,hq])
 let Rm:Option Real:=R.map λq=> {q with Df:= λb=>b=q.g,cl:= λb=>b=q.g}
 let rl:Real:= {r with Df:= λb=>r.Df b/\ ∀q,R=some q->b≠q.g,cl:= λb=>r.cl b/\ ∀q,R=some q->b≠q.g}
 let π':Pi:= λk=>if k=m then Rm else if k=l then some rl else π k
 have zS:π' m=Rm:=Ac rfl;have NK:π' l=some rl:=(Ai (Ha l8)).trans (Ac rfl);have ju: ∀k,k≠m->k≠l->π' k=π k:= λk g1 g2=>(Ai g1).trans (Ai g2)
 have wm: ∀k q,π' k=some q->(k=m/\ ∃q0,R=some q0/\q= {q0 with Df:= λb=>b=q0.g,cl:= λb=>b=q0.g})\/(k=l/\q=rl)\/(k≠m/\k≠l/\π k=some q):= λk q hq=>by
  by_cases e1:k=m
  ·subst e1;rw [zS] at hq
   cases hR:R with
   |none=>simp only [Rm,hR,Option.map_none] at hq;cases hq
   |some q0=>simp only [Rm,hR,An,Aa] at hq;exact .inl ⟨rfl,q0,rfl,hq.symm⟩
  ·by_cases e2:k=l
   ·subst e2;rw [NK] at hq;exact .inr (.inl ⟨rfl,(Bi hq).symm⟩)
   ·rw [ju k e1 e2] at hq;exact .inr (.inr ⟨e1,e2,hq⟩)
 have hH': ∀k,k≠m->Ay (Qq st l i m e te tid rows kp).heap k=(Ay (aN st.heap l (.Ca e te rows (some i) kp)) k).map (OB.map (Cy m)):= λk hk=>St.aq _ _ _ _ hk;have hHm:Ay (Qq st l i m e te tid rows kp).heap m=some (.arr false false e tid (rows.getD i [])):=St.Hm _ _ _
 have hHl:Ay (Qq st l i m e te tid rows kp).heap l=some (.Ca e te rows (some i) kp):=by rw [hH' l (Ha l8),Ff _ _ _ _ hl];rfl
 have RY: ∀k,k≠m->k≠l->Ay (Qq st l i m e te tid rows kp).heap k=(Ay st.heap k).map (OB.map (Cy m)):= λk g1 g2=>by rw [hH' k g1,Ej _ _ _ _ g2]
 have hcq: ∀q,R=some q->r.cl q.g:= λq hq=>h.1.sub l r _ h2 (hqf q hq).1;refine ⟨π',?_,?_⟩
 ·have Sd:Qq st l i m e te tid rows kp= {tmps:=st.tmps.map (·.map (Cy m)),heap:=(Qq st l i m e te tid rows kp).heap} :=rfl;rw [Sd];refine h.oJ rfl (gv:= λ_=>False) (λ_ hf=>hf.elim) (Lk.refl _ _ _) (λb _ ⟨k,q,g1,g2⟩=>?_) (λk q b g1 g2=>?_) (λk q b g1 g2=>?_) (λk k' q q' b g1 g2 g3 g4=>?_) (λk hk Ii=>?_) (λhc=>oI (D:= λk=>k=m) (Pt:= λ_=>False) (λc=>?_) (λk hk=>?_) (λk b hk hb=>?_) (λ_ _ _ _ _ _ _ _=>rfl) hc) (λmv k b hb=>?_) (λk hk=>?_)
  ·rcases wm k q g1 with ⟨_,q0,e1,rfl⟩|⟨_,rfl⟩|⟨_,_,e1⟩
   ·have g2:b=q0.g:=g2;exact ⟨l,r,h2,g2▸(hqf q0 e1).1⟩
   ·exact ⟨l,r,h2,g2.1⟩
   ·exact ⟨k,q,e1,g2⟩
  ·rcases wm k q g1 with ⟨_,q0,e1,rfl⟩|⟨_,rfl⟩|⟨_,_,e1⟩
   ·exact g2
   ·exact ⟨h.1.sub l r b h2 g2.1,g2.2⟩
   ·exact h.1.sub k q b e1 g2
  ·rcases wm k q g1 with ⟨_,q0,e1,rfl⟩|⟨_,rfl⟩|⟨_,_,e1⟩
   ·have g2:b=q0.g:=g2;exact g2▸h.1.place l r _ h2 (hcq q0 e1)
   ·exact h.1.place l r b h2 g2.1
   ·exact h.1.place k q b e1 g2
  ·rcases wm k q g1 with ⟨e0,q0,e1,rfl⟩|⟨e0,rfl⟩|⟨e0,e2,e1⟩<;>rcases wm k' q' g2 with ⟨f0,q1,f1,rfl⟩|⟨f0,rfl⟩|⟨f0,f2,f1⟩
   ·rw [e0,f0]
   ·exact absurd g3 (g4.2 q0 e1)
   ·have g3:b=q0.g:=g3;exact absurd (h.1.inj k' l q' r b f1 h2 g4 (g3▸hcq q0 e1)) f2
   ·exact absurd g4 (g3.2 q1 f1)
   ·rw [e0,f0]
   ·exact absurd (h.1.inj k' l q' r b f1 h2 g4 g3.1) f2
   ·have g4:b=q1.g:=g4;exact absurd (h.1.inj k l q r b e1 h2 g3 (g4▸hcq q1 f1)) e2
   ·exact absurd (h.1.inj k l q r b e1 h2 g3 g4.1) e2
   ·exact h.1.inj k k' q q' b e1 f1 g3 g4
  ·have e1:k≠m:=by omega
   have e2:k≠l:=by omega
   rw [ju k e1 e2];refine h.1.iM k hk λh0=>Ii ?_;rw [RY k e1 e2,h0];rfl
  ·rcases FQ m c with e|⟨e,g⟩
   ·exact .inl e
   ·exact .inr ⟨e,λk hk=>g k hk,λ_ _ _ _ hf=>hf⟩
  ·by_cases e2:k=l
   ·subst e2;rw [NK,h2];exact ⟨rfl,rfl,rfl⟩
   ·rw [ju k hk e2];exact gY.rfl' _
  ·by_cases e2:k=l
   ·subst e2;rw [hl] at hb;cases hb;exact ⟨_,hHl,⟨λ_ n h=>⟨n,h,Ap _⟩,λ_ h=>h,λ_ h=>h,(λ_ _ h=>by cases h),(λ_ _ h=>by cases h)⟩⟩
   ·exact ⟨_,by rw [RY k hk e2,hb];rfl,OB.Ua.map _ b⟩
  ·by_cases e1:k=m
   ·subst e1;rw [hHm] at hb;cases hb;rw [zS];simp only [Cq,Km]
    cases hR:R with
    |none=>rw [hR] at k4;simp only [Rm,hR,Option.map_none];exact k4
    |some q=>
     rw [hR] at k4;simp only [Rm,hR,An];obtain ⟨f1,cu,ti',f2,f3,f4,f5,f6⟩:=k4
     exact ⟨⟨trivial,λ_ h=>h,λh=>by cases h⟩,cu,ti',f2,f3,f4,f5,λj y hy=>by
      obtain ⟨es,g1,g2,g3⟩:=f6 j y hy
      exact ⟨es,g1,g2,mv.cells false e es y g3⟩,λh=>by cases h⟩
   ·by_cases e2:k=l
    ·subst e2;rw [hHl] at hb;cases hb;rw [NK]
     have Avp:KeptAt X w (some rl) kp:=by
      cases kp with
      |none=>trivial
      |some p=>
       obtain ⟨l0,n0⟩:=p;simp only [KeptAt] at ub⊢
       cases NG:X.iM l0 with
       |none=>rw [NG] at ub;exact ub.elim
       |some r0=>rw [NG] at ub;exact ub
     refine ⟨⟨⟨b1,λq hq=>(hqf q hq).2.symm⟩,cur,ti,b2,b3,b4,b5,Rs.set i none,by simpa using b6,λj q hj=>?_,λj j' q q' hj u5=>?_,λj y hy ho=>?_⟩,Avp⟩
     ·rw [Fb] at hj;split at hj
      ·split at hj<;>cases hj
      ·rename_i fU;refine ⟨⟨(b7 j q hj).1,λq0 hq0 e=>fU (b8 i j q0 q (by rw [k2,hq0]) hj e.symm)⟩,(b7 j q hj).2⟩
     ·rw [Fb] at hj u5;split at hj
      ·split at hj<;>cases hj
      ·split at u5
       ·split at u5<;>cases u5
       ·exact b8 j j' q q' hj u5
     ·obtain ⟨u',R',q1,q2,q3,q4⟩:=b9 j y hy (by simp);have fU:i≠j:= λe=>ho (by rw [e]);exact ⟨u',R',q1,by rw [Fb,Ai fU];exact q2,q3,q4.to (λ_ _=>rfl) λes y hc=>mv.cells false e es y hc⟩
    ·rw [RY k e1 e2] at hb
     cases hk:Ay st.heap k with
     |none=>rw [hk] at hb;cases hb
     |some b1=>
      rw [hk] at hb;simp only [An,Aa] at hb;subst hb;rw [ju k e1 e2];exact ((h.1.heap k).Se hk).move mv (Ap _) (λr0 c h0 h1=>h.1.sub _ r0 c h0 h1) λ_ _ _ _ _=>rfl
  ·have e1:k≠m:= λe=>by subst e;rw [hHm] at hk;cases hk
   have e2:k≠l:= λe=>by subst e;rw [hHl] at hk;cases hk
   rw [RY k e1 e2] at hk;rw [ju k e1 e2]
   cases u7:Ay st.heap k with
   |none=>exact (h.1.heap k).emp u7
   |some b=>rw [u7] at hk;cases hk
 ·refine ⟨_,e.size,(rows.getD i []).length,hHm,rfl,by omega,?_⟩;rw [zS]
  cases hR:R with
  |none=>rw [hR] at k3;simp only [Rm,hR,Option.map_none];exact k3
  |some q=>rw [hR] at k3;simp only [Rm,hR,An];exact k3
end
end Go.Proofs.Ytfgfigkbgecfnaa
