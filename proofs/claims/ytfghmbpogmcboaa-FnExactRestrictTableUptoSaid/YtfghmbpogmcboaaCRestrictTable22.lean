/-
  Part 23 of the proof that the statement FnExactRestrictTable holds.
-/
import Derived.Test.YtfghmbpogmcboaaCRestrictTable21
namespace Go.Proofs.Ytfghmbpogmcboaa
open Go.RowKit

section
variable {T : Tab} {Γ : Env} {live : Nat → List Nat}

theorem iter_mono {body body' : St → Option (AExit × St)} {cl : St → St} (hb : ∀ s r, body s = some r → body' s = some r) : ∀ (n m : Nat) (st : St) (r : AExit × St), n ≤ m → iter body cl n st = some r → iter body' cl m st = some r
  | 0, _, _, _, _, h => by simp [iter] at h
  | n + 1, 0, _, _, hnm, _ => by omega
  | n + 1, m + 1, st, r, hnm, h => by
    simp only [iter] at h ⊢
    split at h
    · rename_i s1 h1
      rw [hb _ _ h1]
      exact iter_mono hb n m s1 r (by omega) h
    · rename_i hne
      cases hbs : body (cl st) with
      | none => rw [hbs] at h; cases h
      | some p =>
        obtain ⟨e, s1⟩ := p
        rw [hb _ _ hbs]
        rw [hbs] at h
        cases e with
        | normal => exact absurd hbs (hne s1)
        | exit id => exact h
        | ret => exact h

/-- More fuel does no harm. -/
theorem evalCode_mono {N M : Nat} (hNM : N ≤ M) : ∀ (c : Code) (st : St) (r : AExit × St), evalCode T Γ N live c st = some r → evalCode T Γ M live c st = some r := by
  intro c
  induction c with
  | seq x y ihx ihy =>
    intro st r h
    simp only [evalCode] at h ⊢
    cases hx : evalCode T Γ N live x st with
    | none => rw [hx] at h; cases h
    | some p =>
      obtain ⟨e, s1⟩ := p
      rw [ihx _ _ hx]
      rw [hx] at h
      cases e with
      | normal => exact ihy _ _ h
      | exit id => exact h
      | ret => exact h
  | cond c x y ihx ihy =>
    intro st r h
    simp only [evalCode] at h ⊢
    split at h
    · rename_i fr t hc
      cases t with
      | true => exact ihx _ _ h
      | false => exact ihy _ _ h
    · cases h
  | block id c ih =>
    intro st r h
    simp only [evalCode] at h ⊢
    cases hc : evalCode T Γ N live c st with
    | none => rw [hc] at h; cases h
    | some p => rw [ih _ _ hc]; rw [hc] at h; exact h
  | loop c ih =>
    intro st r h
    simp only [evalCode] at h ⊢
    exact iter_mono ih N M st r hNM h
  | _ => intro st r h; exact h

/-- The plain run comes to an exit and a state of which Q holds. -/
def Runs (T : Tab) (Γ : Env) (live : Nat → List Nat) (c : Code) (st : St) (Q : AExit → St → Prop) : Prop := ∃ N e st', evalCode T Γ N live c st = some (e, st') ∧ Q e st'

def onward (K : St → Prop) (Q : AExit → St → Prop) : AExit → St → Prop
  | .normal, s => K s
  | e, s => Q e s
def inBlk (id : Nat) (Q : AExit → St → Prop) : AExit → St → Prop
  | .exit id', s => if id' = id then Q .normal s else Q (.exit id') s
  | e, s => Q e s

theorem Runs.mono {c : Code} {st : St} {Q Q' : AExit → St → Prop} (h : Runs T Γ live c st Q) (hq : ∀ e s, Q e s → Q' e s) : Runs T Γ live c st Q' :=
  let ⟨N, e, s, h1, h2⟩ := h; ⟨N, e, s, h1, hq e s h2⟩

theorem runs_seq {x y : Code} {st : St} {Q : AExit → St → Prop} (h : Runs T Γ live x st (onward (fun s => Runs T Γ live y s Q) Q)) : Runs T Γ live (.seq x y) st Q := by
  obtain ⟨N, e, s, h1, h2⟩ := h
  cases e with
  | normal =>
    obtain ⟨M, e2, s2, h3, h4⟩ := h2
    refine ⟨max N M, e2, s2, ?_, h4⟩
    simp only [evalCode]
    rw [evalCode_mono (Nat.le_max_left N M) _ _ _ h1]
    exact evalCode_mono (Nat.le_max_right N M) _ _ _ h3
  | exit id => exact ⟨N, _, s, by simp only [evalCode]; rw [h1], h2⟩
  | ret => exact ⟨N, _, s, by simp only [evalCode]; rw [h1], h2⟩
theorem runs_cond {c : Operand} {x y : Code} {st : St} {Q : AExit → St → Prop} {fr : Bool} {b : Bool} (hc : st.ev c = .at (.data fr .bool b)) (h1 : b = true → Runs T Γ live x st Q) (h2 : b = false → Runs T Γ live y st Q) :
    Runs T Γ live (.cond c x y) st Q := by
  cases b with
  | true => obtain ⟨N, e, s, h3, h4⟩ := h1 rfl; exact ⟨N, e, s, by simp only [evalCode]; rw [hc]; exact h3, h4⟩
  | false => obtain ⟨N, e, s, h3, h4⟩ := h2 rfl; exact ⟨N, e, s, by simp only [evalCode]; rw [hc]; exact h3, h4⟩
theorem runs_block {id : Nat} {c : Code} {st : St} {Q : AExit → St → Prop} (h : Runs T Γ live c st (inBlk id Q)) : Runs T Γ live (.block id c) st Q := by
  obtain ⟨N, e, s, h1, h2⟩ := h
  cases e with
  | normal => exact ⟨N, .normal, s, by simp only [evalCode]; rw [h1], h2⟩
  | ret => exact ⟨N, .ret, s, by simp only [evalCode]; rw [h1], h2⟩
  | exit id' =>
    simp only [inBlk] at h2
    split at h2
    · rename_i hid
      exact ⟨N, .normal, s, by simp only [evalCode]; rw [h1]; simp [hid], h2⟩
    · rename_i hid
      exact ⟨N, .exit id', s, by simp only [evalCode]; rw [h1]; simp [hid], h2⟩
theorem runs_loop {α : Type} {c : Code} {st : St} {Q : AExit → St → Prop} (mk : α → St) (inv : α → Prop) (μ : α → Nat) (a0 : α) (h0 : inv a0) (hst : st.clean (live (headId c)) = mk a0)
    (hstep : ∀ a, inv a → Runs T Γ live c (mk a) (onward (fun s => ∃ a', s.clean (live (headId c)) = mk a' ∧ inv a' ∧ μ a' < μ a) Q)) : Runs T Γ live (.loop c) st Q := by
  have key : ∀ (n : Nat) (a : α) (s : St), μ a = n → inv a → s.clean (live (headId c)) = mk a → ∃ N e s', iter (evalCode T Γ N live c) (St.clean (live (headId c))) N s = some (e, s') ∧ Q e s' := by
    intro n
    induction n using Nat.strongRecOn with
    | _ n ih =>
      intro a s hn hi hs
      obtain ⟨N, e, s1, h1, h2⟩ := hstep a hi
      cases e with
      | normal =>
        obtain ⟨a', h3, h4, h5⟩ := h2
        obtain ⟨M, e2, s2, h6, h7⟩ := ih (μ a') (by omega) a' s1 rfl h4 h3
        refine ⟨max N M + 1, e2, s2, ?_, h7⟩
        simp only [iter]
        rw [hs, evalCode_mono (show N ≤ max N M + 1 by omega) _ _ _ h1]
        exact iter_mono (fun s r hr => evalCode_mono (show M ≤ max N M + 1 by omega) _ _ _ hr) M (max N M) s1 _ (by omega) h6
      | exit id => exact ⟨N + 1, _, s1, by simp only [iter]; rw [hs, evalCode_mono (show N ≤ N + 1 by omega) _ _ _ h1], h2⟩
      | ret => exact ⟨N + 1, _, s1, by simp only [iter]; rw [hs, evalCode_mono (show N ≤ N + 1 by omega) _ _ _ h1], h2⟩
  obtain ⟨N, e, s', h1, h2⟩ := key _ a0 st rfl h0 hst
  exact ⟨N, e, s', h1, h2⟩

end
end Go.Proofs.Ytfghmbpogmcboaa
