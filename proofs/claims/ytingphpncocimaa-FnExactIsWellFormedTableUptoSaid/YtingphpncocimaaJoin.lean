/-
  The join: what the form reads, and a contract, make the row's step.
-/
import Derived.Test.YtingphpncocimaaAx23
import Derived.Test.YtingphpncocimaaTab
import Derived.Test.YtingphpncocimaaRows
import Derived.Test.YtingphpncocimaaF3
import Derived.WalkKit
import Derived.ProofKit
import Derived.OpenShut
import Derived.JoinedCond
import Derived.ChangeOld
import Derived.Below
import Derived.Carry
namespace Go.Proofs.Ytingphpncocimaa
open Go.ChangeShapes Go.WideShapes Go.ChangeAt Go.RowKit

theorem uptoAll_sum {H : Type} : ∀ (l : List (DataW H)), (l.map Rows.uptoBulk).sum = Rows.uptoBulkAll l
  | [] => by simp [Rows.uptoBulkAll]
  | d :: r => by simp only [List.map_cons, List.sum_cons, Rows.uptoBulkAll, uptoAll_sum r]
theorem bulkOK (H : Type) : BulkOK (H := H) Rows.uptoBulk where
  lit := fun l => by cases l <;> simp [Rows.uptoBulk]
  str := fun bs => by simp [Rows.uptoBulk]
  nil := by simp [Rows.uptoBulk]
  slice := fun es sp => by simp only [Rows.uptoBulk, uptoAll_sum]; omega
  agg := fun ps => by simp only [Rows.uptoBulk, uptoAll_sum]; omega

theorem cellsOf_of {P : Program} {t : TypeId} {τ : Ty} (h : TyOK P tab t τ) : P.cellsOf t = τ.size := by
  obtain ⟨i, hi, hs, _⟩ := h.info
  unfold Program.cellsOf
  rw [hi]
  exact hs

def fitsB (T : Tab) (P : Program) : Ty → Nat → List Field → Bool
  | .unit, _, [] => true
  | .pair a r, o, f :: fs => decide (f.offset = o) && (decide (T.ty f.type = some a) && (decide (P.cellsOf f.type = a.size) && fitsB T P r (o + a.size) fs))
  | _, _, _ => false
theorem fits_of (T : Tab) (P : Program) : ∀ (τ : Ty) (o : Nat) (l : List Field), fitsB T P τ o l = true → Fits T P τ o l
  | .unit, o, [], _ => trivial
  | .pair a r, o, f :: fs, h => by
    simp only [fitsB, Bool.and_eq_true, decide_eq_true_eq] at h
    exact ⟨h.1, h.2.1, h.2.2.1, fits_of T P r _ fs h.2.2.2⟩
  | .unit, _, _ :: _, h => by simp [fitsB] at h
  | .pair _ _, _, [], h => by simp [fitsB] at h
  | .int _, _, _, h => by simp [fitsB] at h
  | .bool, _, _, h => by simp [fitsB] at h
  | .str, _, _, h => by simp [fitsB] at h
  | .slice _, _, _, h => by simp [fitsB] at h
  | .ptr _, _, _, h => by simp [fitsB] at h

theorem readOK : ReadOK Try.prog tab where
  tab := tabOK
  cells := fun t τ h => cellsOf_of (tabTy t τ h)
  fields := by
    intro t τ h hs
    simp only [tab] at h
    split at h
    all_goals first
      | (cases h; cases hs; done)
      | skip
    · cases h; exact ⟨fieldsOf Try.prog 25, (by kernel_rfl), fits_of tab Try.prog tTable 0 (fieldsOf Try.prog 25).toList (by kernel_rfl)⟩
    · cases h; exact ⟨fieldsOf Try.prog 28, (by kernel_rfl), fits_of tab Try.prog tTable 0 (fieldsOf Try.prog 28).toList (by kernel_rfl)⟩
    · cases h; exact ⟨fieldsOf Try.prog 34, (by kernel_rfl), fits_of tab Try.prog tPuzzle 0 (fieldsOf Try.prog 34).toList (by kernel_rfl)⟩
    · cases h; exact ⟨fieldsOf Try.prog 37, (by kernel_rfl), fits_of tab Try.prog tPuzzle 0 (fieldsOf Try.prog 37).toList (by kernel_rfl)⟩
    · cases h
  some' := by
    intro t e h
    simp only [tab] at h
    split at h <;> cases h <;> decide
  plain := by
    intro t a h
    simp only [tab] at h
    split at h <;> cases h
end Go.Proofs.Ytingphpncocimaa
