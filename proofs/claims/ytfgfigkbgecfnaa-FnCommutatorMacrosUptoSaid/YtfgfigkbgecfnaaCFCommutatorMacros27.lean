/-
  Part 28 of the proof that the statement FnCommutatorMacros holds.
-/
import Derived.Test.YtfgfigkbgecfnaaCFCommutatorMacros26
namespace Go.Proofs.Ytfgfigkbgecfnaa
open Go.RowKit
section
variable {T:Tab} {Γ:Env} {live:Nat->List Nat}
theorem ee {ops:Array Oper} {K K':St->Prop} (hk: ∀s,K s->K' s): ∀(f:Nat) (Ae:Array Bool) (st:St),anyS T Γ ops K f Ae st->anyS T Γ ops K' f Ae st
 |0,_,_,h=>⟨h.1,hk _ h.2⟩
 |f+1,_,_,h=>⟨h.1,λi hi=>let ⟨o,st',h1,h2,h3⟩:=h.2 i hi;⟨o,st',h1,h2,ee hk f _ _ h3⟩⟩
theorem Vx {ops:Array Oper} {E:List Nat} {K K':St->Prop} (hk: ∀s,K s->K' s): ∀(f:Nat) (Ae:Array Bool) (st:St),kJ T Γ ops E K f Ae st->kJ T Γ ops E K' f Ae st
 |0,_,_,h=>⟨h.1,h.2.1,hk _ h.2.2⟩
 |f+1,_,_,h=>⟨h.1,h.2.1,λi hi=>let ⟨o,st',h1,h2,h3⟩:=h.2.2 i hi;⟨o,st',h1,h2,Vx hk f _ _ h3⟩⟩
theorem eJ.mono {ops:Array Oper} {draw:Bool} {st:St} {K K':St->Prop} (h:eJ T Γ ops draw st K) (hk: ∀s,K s->K' s):eJ T Γ ops draw st K':=by
 rcases h with ⟨st',h1,h2⟩|⟨h1,h2,Xq,h3,h4|⟨E,st1,h4,h5,h6,h7⟩⟩
 ·exact .inl ⟨st',h1,hk _ h2⟩
 ·exact .inr ⟨h1,h2,Xq,h3, .inl (ee hk _ _ _ h4)⟩
 ·exact .inr ⟨h1,h2,Xq,h3, .inr ⟨E,st1,h4,h5,h6,Vx hk _ _ _ h7⟩⟩
theorem q6.mono {ops:Array Oper} {draw:Bool} {st:St} {K K':St->Prop} (h:q6 T Γ ops draw st K) (hk: ∀s,K s->K' s):q6 T Γ ops draw st K':=by
 rcases h with h|⟨dead,hd,h⟩
 ·exact .inl (h.mono hk)
 ·exact .inr ⟨dead,hd,h.mono λs=>hk _⟩
theorem Lh.mono {c:Code} {st:St} {Q:Iu->St->Prop} (h:Lh T Γ live c st Q): ∀ {Q':Iu->St->Prop},(∀e s,Q e s->Q' e s)->Lh T Γ live c st Q':=by
 induction h with
 |skip h=>exact λhq=> .skip (hq _ _ h)
 |label h=>exact λhq=> .label (hq _ _ h)
 |exit h=>exact λhq=> .exit (hq _ _ h)
 |ret h=>exact λhq=> .ret (hq _ _ h)
 |region h=>exact λhq=> .region (h.mono λs hs=>hq _ _ hs)
 |seq Q1 h1 _ h3 _ tt=>exact λhq=> .seq Q1 h1 (λs hs=>tt s hs hq) λe s he hs=>hq _ _ (h3 e s he hs)
 |cond hc _ _ yF tt=>exact λhq=> .cond hc (λht=>yF ht hq) λht=>tt ht hq
 |block Q1 h1 h2 _=>
  exact λhq=> .block Q1 h1 λe s hs=>by
   have h:=h2 e s hs
   cases e with
   |normal=>exact hq _ _ h
   |ret=>exact hq _ _ h
   |exit yE=>
    simp only [pb] at h⊢
    split at h
    ·rename_i hi;rw [Af hi];exact hq _ _ h
    ·rename_i hi;rw [Aj hi];exact hq _ _ h
 |loop Q1 h1 _ h3 _ tt=>exact λhq=> .loop Q1 h1 (λs hs=>tt s hs hq) λe s he hs=>hq _ _ (h3 e s he hs)
theorem DT {x y:Code} {st:St} {Q:Iu->St->Prop} (h:Lh T Γ live x st (wh (λs=>Lh T Γ live y s Q) Q)):Lh T Γ live (.seq x y) st Q:=
 .seq _ h (λ_ hs=>hs) λe s he hs=>by
  cases e with
  |normal=>exact absurd rfl he
  |exit id=>exact hs
  |ret=>exact hs
theorem zk {c:Operand} {x y:Code} {st:St} {Q:Iu->St->Prop} {fr:Bool} {b:Bool} (hc:st.ev c= .at (.data fr .bool b)) (h1:b=true->Lh T Γ live x st Q) (h2:b=false->Lh T Γ live y st Q):
  Lh T Γ live (.cond c x y) st Q:= .cond hc h1 h2
theorem wF {id:Nat} {c:Code} {st:St} {Q:Iu->St->Prop} (h:Lh T Γ live c st (pb id Q)):Lh T Γ live (.block id c) st Q:= .block _ h λ_ _ hs=>hs
theorem zl {α:Type} {c:Code} {st:St} {Q:Iu->St->Prop} (mk:α->St) (inv:α->Prop) (μ:α->Nat) (a0:α) (h0:inv a0) (Yi:st.clean (live (Dm c))=mk a0)
  (c5: ∀a,inv a->Lh T Γ live c (mk a) (wh (λs=> ∃a',s.clean (live (Dm c))=mk a'/\inv a'/\μ a'<μ a) Q)):Lh T Γ live (.loop c) st Q:=by
 have key: ∀(n:Nat) (a:α) (s:St),μ a=n->inv a->s.clean (live (Dm c))=mk a->Lh T Γ live (.loop c) s Q:=by
  intro n
  induction n using Nat.strongRecOn with
  |_ n ih=>
   intro a s hn hi hs
   refine .loop (wh (λs=> ∃a',s.clean (live (Dm c))=mk a'/\inv a'/\μ a'<μ a) Q) (by rw [hs];exact c5 a hi) (λs1 ⟨a',h3,h4,h5⟩=>ih (μ a') (by omega) a' s1 rfl h4 h3) λe s he hs=>?_
   cases e with
   |normal=>exact absurd rfl he
   |exit id=>exact hs
   |ret=>exact hs
 exact key _ a0 st rfl h0 Yi
end
end Go.Proofs.Ytfgfigkbgecfnaa
