/-
  Part 19 of the proof that the statement FnTwoPhase holds.
-/
import Derived.Test.YtkkdpknjohcekaaCFTwoPhase17
namespace Go.Proofs.Ytkkdpknjohcekaa
open Go.RowKit
section
variable {P:Program} {T:Tab} {X:Ctx} {w w':World} {π π':Pi} {H H':List (Nat×OB)}
theorem EV (m:Nat) (c:AC):Cv m c= .undef\/(Cv m c=c/\ ∀k∈c.refs,k≠m):=by
 cases c<;>simp only [Cv]<;>first|(exact .inr ⟨trivial,λk hk=>by simp [AC.refs] at hk⟩)|(exact .inl trivial)|skip
 case clo f Ew=>
  split
  ·exact .inl rfl
  ·rename_i hn;exact .inr ⟨rfl,λk hk e=>hn (by rw [Jz];exact e▸hk)⟩
 all_goals
  split
  ·exact .inl rfl
  ·rename_i hn;exact .inr ⟨rfl,λk hk e=>hn ((Af.1 hk).symm.trans e)⟩
theorem KZ {st:St} {a:Act} (h:Bm X π st a w) {l i c m:Nat} {e:Ty} {te tid:TypeId} {rows:List (List e.den)} {kp:Option (Nat×Nat)} (hl:Ay st.heap l=some (.Bu e te rows none kp)) (j0:m≠l) (hm:m<Bq) (rF:l<Bq)
  {v:Value} (hv:Hu X w π st.heap (.sub l i c) v): ∃π',Bm X π' (Qh st l i m e te tid rows kp) a w/\Hu X w π' (Qh st l i m e te tid rows kp).heap (.own m 0 (rows.getD i []).length) v:=by
 obtain ⟨r,b0,sz,n,h1,h0,h2,h3,⟨h4,_⟩,h5⟩:=hv
 rw [hl] at h1;cases h1
 simp only [OB.gJ,Aa,Ag] at h0
 obtain ⟨rfl,rfl⟩:=h0
 have kO:c=0:=by omega
 subst kO
 rw [Fw,Ed] at h5
 have hb:=(h.1.heap l).Ru hl
 simp only [Co] at hb
 obtain ⟨hb,tz⟩:=hb
 rw [h2] at hb tz
 obtain ⟨b1,cur,ti,b2,b3,b4,b5,Rs,b6,b7,b8,b9⟩:=hb
 have Su:rows[i]?=some (rows.getD i []):=by rw [Al,Ad h3];rfl
 obtain ⟨u,R,k1,k2,k3,k4⟩:=b9 i _ Su (by simp)
 rw [cellOf b2,k1] at h5
 have hu:=Bd h5
 subst hu
 have hqf: ∀q,R=some q->r.Da q.g/\q.g≠r.g:= λq hq=>b7 i q (by rw [k2,hq])
 let Rm:Option Real:=R.map λq=> {q with Da:= λb=>b=q.g,cl:= λb=>b=q.g}
 let rl:Real:= {r with Da:= λb=>r.Da b/\ ∀q,R=some q->b≠q.g,cl:= λb=>r.cl b/\ ∀q,R=some q->b≠q.g}
 let π':Pi:= λk=>if k=m then Rm else if k=l then some rl else π k
 have zt:π' m=Rm:=Ab rfl
 have MA:π' l=some rl:=(Ai (Gv j0)).trans (Ab rfl)
 have j6: ∀k,k≠m->k≠l->π' k=π k:= λk g1 g2=>(Ai g1).trans (Ai g2)
 have vH: ∀k q,π' k=some q->(k=m/\ ∃q0,R=some q0/\q= {q0 with Da:= λb=>b=q0.g,cl:= λb=>b=q0.g})\/(k=l/\q=rl)\/(k≠m/\k≠l/\π k=some q):= λk q hq=>by
  by_cases e1:k=m
  ·subst e1;rw [zt] at hq
   cases hR:R with
   |none=>simp only [Rm,hR,Option.map_none] at hq;cases hq
   |some q0=>simp only [Rm,hR,An,Aa] at hq;exact .inl ⟨rfl,q0,rfl,hq.symm⟩
  ·by_cases e2:k=l
   ·subst e2;rw [MA] at hq;exact .inr (.inl ⟨rfl,(Bd hq).symm⟩)
   ·rw [j6 k e1 e2] at hq;exact .inr (.inr ⟨e1,e2,hq⟩)
 have hH': ∀k,k≠m->Ay (Qh st l i m e te tid rows kp).heap k=(Ay (az st.heap l (.Bu e te rows (some i) kp)) k).map (OB.map (Cv m)):= λk hk=>St.a8 _ _ _ _ hk
 have hHm:Ay (Qh st l i m e te tid rows kp).heap m=some (.arr false false e tid (rows.getD i [])):=St.Hf _ _ _
 have hHl:Ay (Qh st l i m e te tid rows kp).heap l=some (.Bu e te rows (some i) kp):=by rw [hH' l (Gv j0),Fk _ _ _ _ hl];rfl
 have QS: ∀k,k≠m->k≠l->Ay (Qh st l i m e te tid rows kp).heap k=(Ay st.heap k).map (OB.map (Cv m)):= λk g1 g2=>by rw [hH' k g1,Er _ _ _ _ g2]
 have hcq: ∀q,R=some q->r.cl q.g:= λq hq=>h.1.sub l r _ h2 (hqf q hq).1
 refine ⟨π',?_,?_⟩
 ·have Pc:Qh st l i m e te tid rows kp= {tmps:=st.tmps.map (·.map (Cv m)),heap:=(Qh st l i m e te tid rows kp).heap} :=rfl
  rw [Pc]
  refine h.om rfl (gv:= λ_=>False) (λ_ hf=>hf.elim) (Lh.refl _ _ _) (λb _ ⟨k,q,g1,g2⟩=>?_) (λk q b g1 g2=>?_) (λk q b g1 g2=>?_) (λk k' q q' b g1 g2 g3 g4=>?_) (λk hk Ip=>?_) (λhc=>oh (D:= λk=>k=m) (Pt:= λ_=>False) (λc=>?_) (λk hk=>?_) (λk b hk hb=>?_) (λ_ _ _ _ _ _ _ _=>rfl) hc) (λmv k b hb=>?_) (λk hk=>?_)
  ·rcases vH k q g1 with ⟨_,q0,e1,rfl⟩|⟨_,rfl⟩|⟨_,_,e1⟩
   ·have g2:b=q0.g:=g2
    exact ⟨l,r,h2,g2▸(hqf q0 e1).1⟩
   ·exact ⟨l,r,h2,g2.1⟩
   ·exact ⟨k,q,e1,g2⟩
  ·rcases vH k q g1 with ⟨_,q0,e1,rfl⟩|⟨_,rfl⟩|⟨_,_,e1⟩
   ·exact g2
   ·exact ⟨h.1.sub l r b h2 g2.1,g2.2⟩
   ·exact h.1.sub k q b e1 g2
  ·rcases vH k q g1 with ⟨_,q0,e1,rfl⟩|⟨_,rfl⟩|⟨_,_,e1⟩
   ·have g2:b=q0.g:=g2
    exact g2▸h.1.place l r _ h2 (hcq q0 e1)
   ·exact h.1.place l r b h2 g2.1
   ·exact h.1.place k q b e1 g2
  ·rcases vH k q g1 with ⟨e0,q0,e1,rfl⟩|⟨e0,rfl⟩|⟨e0,e2,e1⟩<;>rcases vH k' q' g2 with ⟨f0,q1,f1,rfl⟩|⟨f0,rfl⟩|⟨f0,f2,f1⟩
   ·rw [e0,f0]
   ·exact absurd g3 (g4.2 q0 e1)
   ·have g3:b=q0.g:=g3
    exact absurd (h.1.inj k' l q' r b f1 h2 g4 (g3▸hcq q0 e1)) f2
   ·exact absurd g4 (g3.2 q1 f1)
   ·rw [e0,f0]
   ·exact absurd (h.1.inj k' l q' r b f1 h2 g4 g3.1) f2
   ·have g4:b=q1.g:=g4
    exact absurd (h.1.inj k l q r b e1 h2 g3 (g4▸hcq q1 f1)) e2
   ·exact absurd (h.1.inj k l q r b e1 h2 g3 g4.1) e2
   ·exact h.1.inj k k' q q' b e1 f1 g3 g4
  ·have e1:k≠m:=by omega
   have e2:k≠l:=by omega
   rw [j6 k e1 e2]
   refine h.1.im k hk λh0=>Ip ?_
   rw [QS k e1 e2,h0];rfl
  ·rcases EV m c with e|⟨e,g⟩
   ·exact .inl e
   ·exact .inr ⟨e,λk hk=>g k hk,λ_ _ _ _ hf=>hf⟩
  ·by_cases e2:k=l
   ·subst e2;rw [MA,h2];exact ⟨rfl,rfl,rfl⟩
   ·rw [j6 k hk e2];exact gA.rfl' _
  ·by_cases e2:k=l
   ·subst e2
    rw [hl] at hb;cases hb
    exact ⟨_,hHl,⟨λ_ n h=>⟨n,h,Aq _⟩,λ_ h=>h,λ_ h=>h,(λ_ _ h=>by cases h),(λ_ _ h=>by cases h)⟩⟩
   ·exact ⟨_,by rw [QS k hk e2,hb];rfl,OB.Tp.map _ b⟩
  ·by_cases e1:k=m
   ·subst e1
    rw [hHm] at hb;cases hb
    rw [zt]
    simp only [Co,Kn]
    cases hR:R with
    |none=>rw [hR] at k4;simp only [Rm,hR,Option.map_none];exact k4
    |some q=>
     rw [hR] at k4
     simp only [Rm,hR,An]
     obtain ⟨f1,cu,ti',f2,f3,f4,f5,f6⟩:=k4
     exact ⟨⟨trivial,λ_ h=>h,λh=>by cases h⟩,cu,ti',f2,f3,f4,f5,λj y hy=>by
      obtain ⟨es,g1,g2,g3⟩:=f6 j y hy
      exact ⟨es,g1,g2,mv.cells false e es y g3⟩,λh=>by cases h⟩
   ·by_cases e2:k=l
    ·subst e2
     rw [hHl] at hb;cases hb
     rw [MA]
     have Au4:KeptAt X w (some rl) kp:=by
      cases kp with
      |none=>trivial
      |some p=>
       obtain ⟨l0,n0⟩:=p
       simp only [KeptAt] at tz⊢
       cases TW:X.im l0 with
       |none=>rw [TW] at tz;exact tz.elim
       |some r0=>rw [TW] at tz;exact tz
     refine ⟨⟨⟨b1,λq hq=>(hqf q hq).2.symm⟩,cur,ti,b2,b3,b4,b5,Rs.set i none,by simpa using b6,λj q hj=>?_,λj j' q q' hj CX=>?_,λj y hy ho=>?_⟩,Au4⟩
     ·rw [Ei] at hj
      split at hj
      ·split at hj<;>cases hj
      ·rename_i eX
       refine ⟨⟨(b7 j q hj).1,λq0 hq0 e=>eX (b8 i j q0 q (by rw [k2,hq0]) hj e.symm)⟩,(b7 j q hj).2⟩
     ·rw [Ei] at hj CX
      split at hj
      ·split at hj<;>cases hj
      ·split at CX
       ·split at CX<;>cases CX
       ·exact b8 j j' q q' hj CX
     ·obtain ⟨u',R',q1,q2,q3,q4⟩:=b9 j y hy (by simp)
      have eX:i≠j:= λe=>ho (by rw [e])
      exact ⟨u',R',q1,by rw [Ei,Ai eX];exact q2,q3,q4.to (λ_ _=>rfl) λes y hc=>mv.cells false e es y hc⟩
    ·rw [QS k e1 e2] at hb
     cases hk:Ay st.heap k with
     |none=>rw [hk] at hb;cases hb
     |some b1=>
      rw [hk] at hb
      simp only [An,Aa] at hb;subst hb
      rw [j6 k e1 e2]
      exact ((h.1.heap k).Ru hk).move mv (Aq _) (λr0 c h0 h1=>h.1.sub _ r0 c h0 h1) λ_ _ _ _ _=>rfl
  ·have e1:k≠m:= λe=>by subst e;rw [hHm] at hk;cases hk
   have e2:k≠l:= λe=>by subst e;rw [hHl] at hk;cases hk
   rw [QS k e1 e2] at hk
   rw [j6 k e1 e2]
   cases si:Ay st.heap k with
   |none=>exact (h.1.heap k).emp si
   |some b=>rw [si] at hk;cases hk
 ·refine ⟨_,e.size,(rows.getD i []).length,hHm,rfl,by omega,?_⟩
  rw [zt]
  cases hR:R with
  |none=>rw [hR] at k3;simp only [Rm,hR,Option.map_none];exact k3
  |some q=>rw [hR] at k3;simp only [Rm,hR,An];exact k3
end
end Go.Proofs.Ytkkdpknjohcekaa
