/-
  Part 28 of the proof that the statement FnExactLowerBounds holds.
-/
import Derived.Test.YtfolipnappekaaaGreatCLowerBounds26
namespace Go.Proofs.YtfolipnappekaaaGreat
open Go.RowKit
section
variable {T:Tab} {Γ:Env} {live:Nat->List Nat}
theorem dZ {ops:Array Oper} {K K':St->Prop} (hk: ∀s,K s->K' s): ∀(f:Nat) (Ac:Array Bool) (st:St),anyS T Γ ops K f Ac st->anyS T Γ ops K' f Ac st
 |0,_,_,h=>⟨h.1,hk _ h.2⟩
 |f+1,_,_,h=>⟨h.1,λi hi=>let ⟨o,st',h1,h2,h3⟩:=h.2 i hi;⟨o,st',h1,h2,dZ hk f _ _ h3⟩⟩
theorem tC.mono {ops:Array Oper} {draw:Bool} {st:St} {K K':St->Prop} (h:tC T Γ ops draw st K) (hk: ∀s,K s->K' s):tC T Γ ops draw st K':=by
 rcases h with ⟨st',h1,h2⟩|⟨h1,h2,bV,h3,h4⟩
 ·exact .inl ⟨st',h1,hk _ h2⟩
 ·exact .inr ⟨h1,h2,bV,h3,dZ hk _ _ _ h4⟩
theorem Jd.mono {c:Code} {st:St} {Q:Gw->St->Prop} (h:Jd T Γ live c st Q): ∀ {Q':Gw->St->Prop},(∀e s,Q e s->Q' e s)->Jd T Γ live c st Q':=by
 induction h with
 |skip h=>exact λhq=> .skip (hq _ _ h)
 |label h=>exact λhq=> .label (hq _ _ h)
 |exit h=>exact λhq=> .exit (hq _ _ h)
 |ret h=>exact λhq=> .ret (hq _ _ h)
 |region h=>exact λhq=> .region (h.mono λs hs=>hq _ _ hs)
 |seq Q1 h1 _ h3 _ xF=>exact λhq=> .seq Q1 h1 (λs hs=>xF s hs hq) λe s he hs=>hq _ _ (h3 e s he hs)
 |cond hc _ _ HU xF=>exact λhq=> .cond hc (λht=>HU ht hq) λht=>xF ht hq
 |block Q1 h1 h2 _=>
  exact λhq=> .block Q1 h1 λe s hs=>by
   have h:=h2 e s hs
   cases e with
   |normal=>exact hq _ _ h
   |ret=>exact hq _ _ h
   |exit HT=>
    simp only [sB] at h⊢
    split at h
    ·rename_i hi;rw [if_pos hi];exact hq _ _ h
    ·rename_i hi;rw [if_neg hi];exact hq _ _ h
 |loop Q1 h1 _ h3 _ xF=>exact λhq=> .loop Q1 h1 (λs hs=>xF s hs hq) λe s he hs=>hq _ _ (h3 e s he hs)
theorem PF {x y:Code} {st:St} {Q:Gw->St->Prop} (h:Jd T Γ live x st (BY (λs=>Jd T Γ live y s Q) Q)):Jd T Γ live (.seq x y) st Q:=
 .seq _ h (λ_ hs=>hs) λe s he hs=>by
  cases e with
  |normal=>exact absurd rfl he
  |exit id=>exact hs
  |ret=>exact hs
theorem JG {c:Operand} {x y:Code} {st:St} {Q:Gw->St->Prop} {fr:Bool} {b:Bool} (hc:st.ev c= .at (.data fr .bool b)) (h1:b=true->Jd T Γ live x st Q) (h2:b=false->Jd T Γ live y st Q):
  Jd T Γ live (.cond c x y) st Q:= .cond hc h1 h2
theorem CY {id:Nat} {c:Code} {st:St} {Q:Gw->St->Prop} (h:Jd T Γ live c st (sB id Q)):Jd T Γ live (.block id c) st Q:= .block _ h λ_ _ hs=>hs
theorem JH {α:Type} {c:Code} {st:St} {Q:Gw->St->Prop} (mk:α->St) (inv:α->Prop) (μ:α->Nat) (a0:α) (h0:inv a0) (Tx:st.clean (live (Ce c))=mk a0)
  (xD: ∀a,inv a->Jd T Γ live c (mk a) (BY (λs=> ∃a',s.clean (live (Ce c))=mk a'/\inv a'/\μ a'<μ a) Q)):Jd T Γ live (.loop c) st Q:=by
 have key: ∀(n:Nat) (a:α) (s:St),μ a=n->inv a->s.clean (live (Ce c))=mk a->Jd T Γ live (.loop c) s Q:=by
  intro n
  induction n using Nat.strongRecOn with
  |_ n ih=>
   intro a s hn hi hs
   refine .loop (BY (λs=> ∃a',s.clean (live (Ce c))=mk a'/\inv a'/\μ a'<μ a) Q) (by rw [hs];exact xD a hi) (λs1 ⟨a',h3,h4,h5⟩=>ih (μ a') (by omega) a' s1 rfl h4 h3) λe s he hs=>?_
   cases e with
   |normal=>exact absurd rfl he
   |exit id=>exact hs
   |ret=>exact hs
 exact key _ a0 st rfl h0 Tx
end
end Go.Proofs.YtfolipnappekaaaGreat
