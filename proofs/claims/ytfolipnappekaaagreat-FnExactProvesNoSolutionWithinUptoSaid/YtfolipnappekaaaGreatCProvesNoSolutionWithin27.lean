/-
  Part 28 of the proof that the statement FnExactProvesNoSolutionWithin holds.
-/
import Derived.Test.YtfolipnappekaaaGreatCProvesNoSolutionWithin26
namespace Go.Proofs.YtfolipnappekaaaGreat
open Go.RowKit
section
variable {T:Tab} {Γ:Env} {live:Nat->List Nat}
theorem fa {ops:Array Oper} {K K':St->Prop} (hk: ∀s,K s->K' s): ∀(f:Nat) (Aa:Array Bool) (st:St),anyS T Γ ops K f Aa st->anyS T Γ ops K' f Aa st
 |0,_,_,h=>⟨h.1,hk _ h.2⟩
 |f+1,_,_,h=>⟨h.1,λi hi=>let ⟨o,st',h1,h2,h3⟩:=h.2 i hi;⟨o,st',h1,h2,fa hk f _ _ h3⟩⟩
theorem lx {ops:Array Oper} {E:List Nat} {K K':St->Prop} (hk: ∀s,K s->K' s): ∀(f:Nat) (Aa:Array Bool) (st:St),se T Γ ops E K f Aa st->se T Γ ops E K' f Aa st
 |0,_,_,h=>⟨h.1,h.2.1,hk _ h.2.2⟩
 |f+1,_,_,h=>⟨h.1,h.2.1,λi hi=>let ⟨o,st',h1,h2,h3⟩:=h.2.2 i hi;⟨o,st',h1,h2,lx hk f _ _ h3⟩⟩
theorem vE.mono {ops:Array Oper} {draw:Bool} {st:St} {K K':St->Prop} (h:vE T Γ ops draw st K) (hk: ∀s,K s->K' s):vE T Γ ops draw st K':=by
 rcases h with ⟨st',h1,h2⟩|⟨h1,h2,Yj,h3,h4|⟨E,st1,h4,h5,h6,h7⟩⟩
 ·exact .inl ⟨st',h1,hk _ h2⟩
 ·exact .inr ⟨h1,h2,Yj,h3, .inl (fa hk _ _ _ h4)⟩
 ·exact .inr ⟨h1,h2,Yj,h3, .inr ⟨E,st1,h4,h5,h6,lx hk _ _ _ h7⟩⟩
theorem Js.mono {c:Code} {st:St} {Q:Ha->St->Prop} (h:Js T Γ live c st Q): ∀ {Q':Ha->St->Prop},(∀e s,Q e s->Q' e s)->Js T Γ live c st Q':=by
 induction h with
 |skip h=>exact λhq=> .skip (hq _ _ h)
 |label h=>exact λhq=> .label (hq _ _ h)
 |exit h=>exact λhq=> .exit (hq _ _ h)
 |ret h=>exact λhq=> .ret (hq _ _ h)
 |region h=>exact λhq=> .region (h.mono λs hs=>hq _ _ hs)
 |seq Q1 h1 _ h3 _ zn=>exact λhq=> .seq Q1 h1 (λs hs=>zn s hs hq) λe s he hs=>hq _ _ (h3 e s he hs)
 |cond hc _ _ MJ zn=>exact λhq=> .cond hc (λht=>MJ ht hq) λht=>zn ht hq
 |block Q1 h1 h2 _=>
  exact λhq=> .block Q1 h1 λe s hs=>by
   have h:=h2 e s hs
   cases e with
   |normal=>exact hq _ _ h
   |ret=>exact hq _ _ h
   |exit MI=>
    simp only [uq] at h⊢
    split at h
    ·rename_i hi;rw [if_pos hi];exact hq _ _ h
    ·rename_i hi;rw [if_neg hi];exact hq _ _ h
 |loop Q1 h1 _ h3 _ zn=>exact λhq=> .loop Q1 h1 (λs hs=>zn s hs hq) λe s he hs=>hq _ _ (h3 e s he hs)
theorem UO {x y:Code} {st:St} {Q:Ha->St->Prop} (h:Js T Γ live x st (FO (λs=>Js T Γ live y s Q) Q)):Js T Γ live (.seq x y) st Q:=
 .seq _ h (λ_ hs=>hs) λe s he hs=>by
  cases e with
  |normal=>exact absurd rfl he
  |exit id=>exact hs
  |ret=>exact hs
theorem NU {c:Operand} {x y:Code} {st:St} {Q:Ha->St->Prop} {fr:Bool} {b:Bool} (hc:st.ev c= .at (.data fr .bool b)) (h1:b=true->Js T Γ live x st Q) (h2:b=false->Js T Γ live y st Q):
  Js T Γ live (.cond c x y) st Q:= .cond hc h1 h2
theorem GR {id:Nat} {c:Code} {st:St} {Q:Ha->St->Prop} (h:Js T Γ live c st (uq id Q)):Js T Γ live (.block id c) st Q:= .block _ h λ_ _ hs=>hs
theorem NV {α:Type} {c:Code} {st:St} {Q:Ha->St->Prop} (mk:α->St) (inv:α->Prop) (μ:α->Nat) (a0:α) (h0:inv a0) (Oq:st.clean (live (Ci c))=mk a0)
  (gN: ∀a,inv a->Js T Γ live c (mk a) (FO (λs=> ∃a',s.clean (live (Ci c))=mk a'/\inv a'/\μ a'<μ a) Q)):Js T Γ live (.loop c) st Q:=by
 have key: ∀(n:Nat) (a:α) (s:St),μ a=n->inv a->s.clean (live (Ci c))=mk a->Js T Γ live (.loop c) s Q:=by
  intro n
  induction n using Nat.strongRecOn with
  |_ n ih=>
   intro a s hn hi hs
   refine .loop (FO (λs=> ∃a',s.clean (live (Ci c))=mk a'/\inv a'/\μ a'<μ a) Q) (by rw [hs];exact gN a hi) (λs1 ⟨a',h3,h4,h5⟩=>ih (μ a') (by omega) a' s1 rfl h4 h3) λe s he hs=>?_
   cases e with
   |normal=>exact absurd rfl he
   |exit id=>exact hs
   |ret=>exact hs
 exact key _ a0 st rfl h0 Oq
end
end Go.Proofs.YtfolipnappekaaaGreat
