/-
  Part 19 of the proof that the statement FnTables holds.
-/
import Derived.Test.YtkkdpknjohcekaaCFTables17
namespace Go.Proofs.Ytkkdpknjohcekaa
open Go.RowKit
section
variable {P:Program} {T:Tab} {X:Ctx} {w w':World} {π π':Pi} {H H':List (Nat×OB)}
theorem yJ (m:Nat) (c:AC):Cb m c= .undef\/(Cb m c=c/\ ∀k∈c.refs,k≠m):=by
 cases c<;>simp only [Cb]<;>first|(exact .inr ⟨trivial,λk hk=>by simp [AC.refs] at hk⟩)|(exact .inl trivial)|skip
 case clo f Dy=>
  split
  ·exact .inl rfl
  ·rename_i hn;exact .inr ⟨rfl,λk hk e=>hn (by rw [Jb];exact e▸hk)⟩
 all_goals
  split
  ·exact .inl rfl
  ·rename_i hn;exact .inr ⟨rfl,λk hk e=>hn ((Ad.1 hk).symm.trans e)⟩
theorem CH {st:St} {a:Act} (h:Bd X π st a w) {l i c m:Nat} {e:Ty} {te tid:TypeId} {rows:List (List e.den)} {kp:Option (Nat×Nat)} (hl:Aq st.heap l=some (.Bm e te rows none kp)) (fT:m≠l) (hm:m<Bf) (oD:l<Bf)
  {v:Value} (hv:Gx X w π st.heap (.sub l i c) v): ∃π',Bd X π' (Pd st l i m e te tid rows kp) a w/\Gx X w π' (Pd st l i m e te tid rows kp).heap (.own m 0 (rows.getD i []).length) v:=by
 obtain ⟨r,b0,sz,n,h1,h0,h2,h3,⟨h4,_⟩,h5⟩:=hv
 rw [hl] at h1;cases h1
 simp only [OB.eu,Aa,Ae] at h0
 obtain ⟨rfl,rfl⟩:=h0
 have kD:c=0:=by omega
 subst kD
 rw [Ex,Ef] at h5
 have hb:=(h.1.heap l).Qi hl
 simp only [Bw] at hb
 obtain ⟨hb,xY⟩:=hb
 rw [h2] at hb xY
 obtain ⟨b1,cur,ti,b2,b3,b4,b5,Rs,b6,b7,b8,b9⟩:=hb
 have bJ:rows[i]?=some (rows.getD i []):=by rw [Ah,Ac h3];rfl
 obtain ⟨u,R,k1,k2,k3,k4⟩:=b9 i _ bJ (by simp)
 rw [cellOf b2,k1] at h5
 have hu:=Ba h5
 subst hu
 have hqf: ∀q,R=some q->r.Ci q.g/\q.g≠r.g:= λq hq=>b7 i q (by rw [k2,hq])
 let Rm:Option Real:=R.map λq=> {q with Ci:= λb=>b=q.g,cl:= λb=>b=q.g}
 let rl:Real:= {r with Ci:= λb=>r.Ci b/\ ∀q,R=some q->b≠q.g,cl:= λb=>r.cl b/\ ∀q,R=some q->b≠q.g}
 let π':Pi:= λk=>if k=m then Rm else if k=l then some rl else π k
 have wb:π' m=Rm:=Ab rfl
 have DC:π' l=some rl:=(Al (Hi fT)).trans (Ab rfl)
 have fY: ∀k,k≠m->k≠l->π' k=π k:= λk g1 g2=>(Al g1).trans (Al g2)
 have sj: ∀k q,π' k=some q->(k=m/\ ∃q0,R=some q0/\q= {q0 with Ci:= λb=>b=q0.g,cl:= λb=>b=q0.g})\/(k=l/\q=rl)\/(k≠m/\k≠l/\π k=some q):= λk q hq=>by
  by_cases e1:k=m
  ·subst e1;rw [wb] at hq
   cases hR:R with
   |none=>simp only [Rm,hR,Option.map_none] at hq;cases hq
   |some q0=>simp only [Rm,hR,Ai,Aa] at hq;exact .inl ⟨rfl,q0,rfl,hq.symm⟩
  ·by_cases e2:k=l
   ·subst e2;rw [DC] at hq;exact .inr (.inl ⟨rfl,(Ba hq).symm⟩)
   ·rw [fY k e1 e2] at hq;exact .inr (.inr ⟨e1,e2,hq⟩)
 have XI: ∀k,k≠m->Aq (Pd st l i m e te tid rows kp).heap k=(Aq (Yj st.heap l (.Bm e te rows (some i) kp)) k).map (OB.map (Cb m)):= λk hk=>St.Xr _ _ _ _ hk
 have XK:Aq (Pd st l i m e te tid rows kp).heap m=some (.arr false false e tid (rows.getD i [])):=St.Gm _ _ _
 have ZM:Aq (Pd st l i m e te tid rows kp).heap l=some (.Bm e te rows (some i) kp):=by rw [XI l (Hi fT),El _ _ _ _ hl];rfl
 have HI: ∀k,k≠m->k≠l->Aq (Pd st l i m e te tid rows kp).heap k=(Aq st.heap k).map (OB.map (Cb m)):= λk g1 g2=>by rw [XI k g1,Dt _ _ _ _ g2]
 have hcq: ∀q,R=some q->r.cl q.g:= λq hq=>h.1.sub l r _ h2 (hqf q hq).1
 refine ⟨π',?_,?_⟩
 ·have Yo:Pd st l i m e te tid rows kp= {tmps:=st.tmps.map (·.map (Cb m)),heap:=(Pd st l i m e te tid rows kp).heap} :=rfl
  rw [Yo]
  refine h.lI rfl (gv:= λ_=>False) (λ_ hf=>hf.elim) (Kc.refl _ _ _) (λb _ ⟨k,q,g1,g2⟩=>?_) (λk q b g1 g2=>?_) (λk q b g1 g2=>?_) (λk k' q q' b g1 g2 g3 g4=>?_) (λk hk Jg=>?_) (λhc=>lH (D:= λk=>k=m) (Pt:= λ_=>False) (λc=>?_) (λk hk=>?_) (λk b hk hb=>?_) (λ_ _ _ _ _ _ _ _=>rfl) hc) (λmv k b hb=>?_) (λk hk=>?_)
  ·rcases sj k q g1 with ⟨_,q0,e1,rfl⟩|⟨_,rfl⟩|⟨_,_,e1⟩
   ·have g2:b=q0.g:=g2
    exact ⟨l,r,h2,g2▸(hqf q0 e1).1⟩
   ·exact ⟨l,r,h2,g2.1⟩
   ·exact ⟨k,q,e1,g2⟩
  ·rcases sj k q g1 with ⟨_,q0,e1,rfl⟩|⟨_,rfl⟩|⟨_,_,e1⟩
   ·exact g2
   ·exact ⟨h.1.sub l r b h2 g2.1,g2.2⟩
   ·exact h.1.sub k q b e1 g2
  ·rcases sj k q g1 with ⟨_,q0,e1,rfl⟩|⟨_,rfl⟩|⟨_,_,e1⟩
   ·have g2:b=q0.g:=g2
    exact g2▸h.1.place l r _ h2 (hcq q0 e1)
   ·exact h.1.place l r b h2 g2.1
   ·exact h.1.place k q b e1 g2
  ·rcases sj k q g1 with ⟨e0,q0,e1,rfl⟩|⟨e0,rfl⟩|⟨e0,e2,e1⟩<;>rcases sj k' q' g2 with ⟨f0,q1,f1,rfl⟩|⟨f0,rfl⟩|⟨f0,f2,f1⟩
   ·rw [e0,f0]
   ·exact absurd g3 (g4.2 q0 e1)
   ·have g3:b=q0.g:=g3
    exact absurd (h.1.inj k' l q' r b f1 h2 g4 (g3▸hcq q0 e1)) f2
   ·exact absurd g4 (g3.2 q1 f1)
   ·rw [e0,f0]
   ·exact absurd (h.1.inj k' l q' r b f1 h2 g4 g3.1) f2
   ·have g4:b=q1.g:=g4
    exact absurd (h.1.inj k l q r b e1 h2 g3 (g4▸hcq q1 f1)) e2
   ·exact absurd (h.1.inj k l q r b e1 h2 g3 g4.1) e2
   ·exact h.1.inj k k' q q' b e1 f1 g3 g4
  ·have e1:k≠m:=by omega
   have e2:k≠l:=by omega
   rw [fY k e1 e2]
   refine h.1.fb k hk λh0=>Jg ?_
   rw [HI k e1 e2,h0];rfl
  ·rcases yJ m c with e|⟨e,g⟩
   ·exact .inl e
   ·exact .inr ⟨e,λk hk=>g k hk,λ_ _ _ _ hf=>hf⟩
  ·by_cases e2:k=l
   ·subst e2;rw [DC,h2];exact ⟨rfl,rfl,rfl⟩
   ·rw [fY k hk e2];exact ef.rfl' _
  ·by_cases e2:k=l
   ·subst e2
    rw [hl] at hb;cases hb
    exact ⟨_,ZM,⟨λ_ n h=>⟨n,h,Ar _⟩,λ_ h=>h,λ_ h=>h,(λ_ _ h=>by cases h),(λ_ _ h=>by cases h)⟩⟩
   ·exact ⟨_,by rw [HI k hk e2,hb];rfl,OB.Rt.map _ b⟩
  ·by_cases e1:k=m
   ·subst e1
    rw [XK] at hb;cases hb
    rw [wb]
    simp only [Bw,Jj]
    cases hR:R with
    |none=>rw [hR] at k4;simp only [Rm,hR,Option.map_none];exact k4
    |some q=>
     rw [hR] at k4
     simp only [Rm,hR,Ai]
     obtain ⟨f1,cu,UI,f2,f3,f4,f5,f6⟩:=k4
     exact ⟨⟨trivial,λ_ h=>h,λh=>by cases h⟩,cu,UI,f2,f3,f4,f5,λj y hy=>by
      obtain ⟨es,g1,g2,g3⟩:=f6 j y hy
      exact ⟨es,g1,g2,mv.cells false e es y g3⟩,λh=>by cases h⟩
   ·by_cases e2:k=l
    ·subst e2
     rw [ZM] at hb;cases hb
     rw [DC]
     have Aj2:KeptAt X w (some rl) kp:=by
      cases kp with
      |none=>trivial
      |some p=>
       obtain ⟨l0,n0⟩:=p
       simp only [KeptAt] at xY⊢
       cases JZ:X.fb l0 with
       |none=>rw [JZ] at xY;exact xY.elim
       |some r0=>rw [JZ] at xY;exact xY
     refine ⟨⟨⟨b1,λq hq=>(hqf q hq).2.symm⟩,cur,ti,b2,b3,b4,b5,Rs.set i none,by simpa using b6,λj q hj=>?_,λj j' q q' hj u9=>?_,λj y hy ho=>?_⟩,Aj2⟩
     ·rw [Dp] at hj
      split at hj
      ·split at hj<;>cases hj
      ·rename_i il
       refine ⟨⟨(b7 j q hj).1,λq0 hq0 e=>il (b8 i j q0 q (by rw [k2,hq0]) hj e.symm)⟩,(b7 j q hj).2⟩
     ·rw [Dp] at hj u9
      split at hj
      ·split at hj<;>cases hj
      ·split at u9
       ·split at u9<;>cases u9
       ·exact b8 j j' q q' hj u9
     ·obtain ⟨u',R',q1,q2,q3,q4⟩:=b9 j y hy (by simp)
      have il:i≠j:= λe=>ho (by rw [e])
      exact ⟨u',R',q1,by rw [Dp,Al il];exact q2,q3,q4.to (λ_ _=>rfl) λes y hc=>mv.cells false e es y hc⟩
    ·rw [HI k e1 e2] at hb
     cases hk:Aq st.heap k with
     |none=>rw [hk] at hb;cases hb
     |some b1=>
      rw [hk] at hb
      simp only [Ai,Aa] at hb;subst hb
      rw [fY k e1 e2]
      exact ((h.1.heap k).Qi hk).move mv (Ar _) (λr0 c h0 h1=>h.1.sub _ r0 c h0 h1) λ_ _ _ _ _=>rfl
  ·have e1:k≠m:= λe=>by subst e;rw [XK] at hk;cases hk
   have e2:k≠l:= λe=>by subst e;rw [ZM] at hk;cases hk
   rw [HI k e1 e2] at hk
   rw [fY k e1 e2]
   cases ua:Aq st.heap k with
   |none=>exact (h.1.heap k).emp ua
   |some b=>rw [ua] at hk;cases hk
 ·refine ⟨_,e.size,(rows.getD i []).length,XK,rfl,by omega,?_⟩
  rw [wb]
  cases hR:R with
  |none=>rw [hR] at k3;simp only [Rm,hR,Option.map_none];exact k3
  |some q=>rw [hR] at k3;simp only [Rm,hR,Ai];exact k3
end
end Go.Proofs.Ytkkdpknjohcekaa
