/-
  Part 28 of the proof that the statement FnExactIsMethodSolution holds.
-/
import Derived.Test.YtebabhocakedaaaCIsMethodSolution26
namespace Go.Proofs.Ytebabhocakedaaa
open Go.RowKit
section
variable {T:Tab} {Γ:Env} {live:Nat→List Nat}
theorem Aa8 {ops:Array Oper} {K K':St→Prop} (hk: ∀s,K s→K' s): ∀(f:Nat) (listed:Array Bool) (st:St),anyS T Γ ops K f listed st→anyS T Γ ops K' f listed st
 |0,_,_,h=>⟨h.1,hk _ h.2⟩
 |f+1,_,_,h=>⟨h.1,fun i hi=>let ⟨o,st',h1,h2,h3⟩:=h.2 i hi;⟨o,st',h1,h2,Aa8 hk f _ _ h3⟩⟩
theorem Aof.mono {ops:Array Oper} {draw:Bool} {st:St} {K K':St→Prop} (h:Aof T Γ ops draw st K) (hk: ∀s,K s→K' s):Aof T Γ ops draw st K':=by
 rcases h with ⟨st',h1,h2⟩|⟨h1,h2,st0,h3,h4⟩
 ·exact .inl ⟨st',h1,hk _ h2⟩
 ·exact .inr ⟨h1,h2,st0,h3,Aa8 hk _ _ _ h4⟩
theorem Hq.mono {c:Code} {st:St} {Q:Fp→St→Prop} (h:Hq T Γ live c st Q): ∀ {Q':Fp→St→Prop},(∀e s,Q e s→Q' e s)→Hq T Γ live c st Q':=by
 induction h with
 |skip h=>exact fun hq=> .skip (hq _ _ h)
 |label h=>exact fun hq=> .label (hq _ _ h)
 |exit h=>exact fun hq=> .exit (hq _ _ h)
 |ret h=>exact fun hq=> .ret (hq _ _ h)
 |region h=>exact fun hq=> .region (h.mono fun s hs=>hq _ _ hs)
 |seq Q1 h1 _ h3 _ ih2=>exact fun hq=> .seq Q1 h1 (fun s hs=>ih2 s hs hq) fun e s he hs=>hq _ _ (h3 e s he hs)
 |cond hc _ _ ih1 ih2=>exact fun hq=> .cond hc (fun ht=>ih1 ht hq) fun ht=>ih2 ht hq
 |block Q1 h1 h2 _=>
  exact fun hq=> .block Q1 h1 fun e s hs=>by
   have h:=h2 e s hs
   cases e with
   |normal=>exact hq _ _ h
   |ret=>exact hq _ _ h
   |exit id'=>
    simp only [Amz] at h⊢
    split at h
    ·rename_i hi;rw [if_pos hi];exact hq _ _ h
    ·rename_i hi;rw [if_neg hi];exact hq _ _ h
 |loop Q1 h1 _ h3 _ ih2=>exact fun hq=> .loop Q1 h1 (fun s hs=>ih2 s hs hq) fun e s he hs=>hq _ _ (h3 e s he hs)
theorem Bca {x y:Code} {st:St} {Q:Fp→St→Prop} (h:Hq T Γ live x st (Aw6 (fun s=>Hq T Γ live y s Q) Q)):Hq T Γ live (.seq x y) st Q:=
 .seq _ h (fun _ hs=>hs) fun e s he hs=>by
  cases e with
  |normal=>exact absurd rfl he
  |exit id=>exact hs
  |ret=>exact hs
theorem Azp {c:Operand} {x y:Code} {st:St} {Q:Fp→St→Prop} {fr:Bool} {b:Bool} (hc:st.ev c= .at (.data fr .bool b)) (h1:b=true→Hq T Γ live x st Q) (h2:b=false→Hq T Γ live y st Q):
  Hq T Γ live (.cond c x y) st Q:= .cond hc h1 h2
theorem Awt {id:Nat} {c:Code} {st:St} {Q:Fp→St→Prop} (h:Hq T Γ live c st (Amz id Q)):Hq T Γ live (.block id c) st Q:= .block _ h fun _ _ hs=>hs
theorem Azq {α:Type} {c:Code} {st:St} {Q:Fp→St→Prop} (mk:α→St) (inv:α→Prop) (μ:α→Nat) (a0:α) (h0:inv a0) (hst:st.clean (live (Bw c))=mk a0)
  (hstep: ∀a,inv a→Hq T Γ live c (mk a) (Aw6 (fun s=> ∃a',s.clean (live (Bw c))=mk a'∧inv a'∧μ a'<μ a) Q)):Hq T Γ live (.loop c) st Q:=by
 have key: ∀(n:Nat) (a:α) (s:St),μ a=n→inv a→s.clean (live (Bw c))=mk a→Hq T Γ live (.loop c) s Q:=by
  intro n
  induction n using Nat.strongRecOn with
  |_ n ih=>
   intro a s hn hi hs
   refine .loop (Aw6 (fun s=> ∃a',s.clean (live (Bw c))=mk a'∧inv a'∧μ a'<μ a) Q) (by rw [hs];exact hstep a hi) (fun s1 ⟨a',h3,h4,h5⟩=>ih (μ a') (by omega) a' s1 rfl h4 h3) fun e s he hs=>?_
   cases e with
   |normal=>exact absurd rfl he
   |exit id=>exact hs
   |ret=>exact hs
 exact key _ a0 st rfl h0 hst
end
end Go.Proofs.Ytebabhocakedaaa
