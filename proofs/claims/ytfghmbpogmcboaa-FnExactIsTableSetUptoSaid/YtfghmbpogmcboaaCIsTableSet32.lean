/-
  Part 33 of the proof that the statement FnExactIsTableSet holds.
-/
import Derived.Test.YtfghmbpogmcboaaCIsTableSet31
import Derived.Test.YtfghmbpogmcboaaRows
import Derived.WalkKit
import Derived.ProofKit
import Derived.OpenShut
import Derived.JoinedCond
import Derived.ChangeOld
import Derived.Below
import Derived.Carry
namespace Go.Proofs.Ytfghmbpogmcboaa
open Go.ChangeShapes Go.WideShapes Go.ChangeAt Go.RowKit

theorem uptoAll_sum {H : Type} : ∀ (l : List (DataW H)), (l.map Rows.uptoBulk).sum = Rows.uptoBulkAll l
  | [] => by simp [Rows.uptoBulkAll]
  | d :: r => by simp only [List.map_cons, List.sum_cons, Rows.uptoBulkAll, uptoAll_sum r]
theorem bulkOK (H : Type) : BulkOK (H := H) Rows.uptoBulk where
  lit := fun l => by cases l <;> simp [Rows.uptoBulk]
  str := fun bs => by simp [Rows.uptoBulk]
  nil := by simp [Rows.uptoBulk]
  slice := fun es sp => by simp only [Rows.uptoBulk, uptoAll_sum]; omega
  agg := fun ps => by simp only [Rows.uptoBulk, uptoAll_sum]; omega

theorem cellsOf_of {P : Program} {T : Tab} {t : TypeId} {τ : Ty} (h : TyOK P T t τ) : P.cellsOf t = τ.size := by
  obtain ⟨i, hi, hs, _⟩ := h.info
  unfold Program.cellsOf
  rw [hi]
  exact hs

def fitsB (T : Tab) (P : Program) : Ty → Nat → List Field → Bool
  | .unit, _, [] => true
  | .pair a r, o, f :: fs => decide (f.offset = o) && (decide (T.ty f.type = some a) && (decide (P.cellsOf f.type = a.size) && fitsB T P r (o + a.size) fs))
  | _, _, _ => false
theorem fits_of (T : Tab) (P : Program) (τ : Ty) : ∀ (o : Nat) (l : List Field), fitsB T P τ o l = true → Fits T P τ o l := by
  induction τ with
  | unit => intro o l h; cases l with | nil => trivial | cons f fs => simp [fitsB] at h
  | pair a r _ ih =>
    intro o l h
    cases l with
    | nil => simp [fitsB] at h
    | cons f fs =>
      simp only [fitsB, Bool.and_eq_true, decide_eq_true_eq] at h
      exact ⟨h.1, h.2.1, h.2.2.1, ih _ fs h.2.2.2⟩
  | _ => intro o l h; simp [fitsB] at h

/-- The types that the form reads. -/
def rtab : Tab := { tab with ty := fun t => (tab.ty t).filter (·.read) }
theorem rtab_ty {t : TypeId} {τ : Ty} : rtab.ty t = some τ ↔ tab.ty t = some τ ∧ τ.read = true := by
  simp only [rtab, Option.filter_eq_some_iff]
set_option maxRecDepth 100000 in
theorem readOK : ReadOK Try.prog rtab where
  ty := fun t τ h => by
    obtain ⟨h1, h2⟩ := rtab_ty.1 h
    have := tabTy t τ h1
    refine ⟨this.info, ?_⟩
    have hd := this.desc
    cases τ <;> first | exact hd | skip
    · obtain ⟨te, a, b, c⟩ := hd
      exact ⟨te, a, b, rtab_ty.2 ⟨c, h2⟩⟩
    · simp [Ty.read] at h2
  cells := fun t τ h => cellsOf_of (tabTy t τ (rtab_ty.1 h).1)
  fields := by
    intro t τ h hs
    have h := (rtab_ty.1 h).1
    simp only [tab] at h
    split at h
    all_goals first
      | (cases h; cases hs; done)
      | skip
    · cases h; exact ⟨fieldsOf Try.prog 36, (by kernel_rfl), fits_of rtab Try.prog tTable 0 (fieldsOf Try.prog 36).toList (by kernel_rfl)⟩
    · cases h; exact ⟨fieldsOf Try.prog 38, (by kernel_rfl), fits_of rtab Try.prog tTable 0 (fieldsOf Try.prog 38).toList (by kernel_rfl)⟩
    · cases h; exact ⟨fieldsOf Try.prog 24, (by kernel_rfl), fits_of rtab Try.prog tPuzzle 0 (fieldsOf Try.prog 24).toList (by kernel_rfl)⟩
    · cases h; exact ⟨fieldsOf Try.prog 28, (by kernel_rfl), fits_of rtab Try.prog tPuzzle 0 (fieldsOf Try.prog 28).toList (by kernel_rfl)⟩
    · cases h; exact ⟨fieldsOf Try.prog 92, (by kernel_rfl), fits_of rtab Try.prog tSearch 0 (fieldsOf Try.prog 92).toList (by kernel_rfl)⟩
    · cases h
  some' := by
    intro t e h
    have h := (rtab_ty.1 h).1
    simp only [tab] at h
    split at h <;> cases h <;> decide
  plain := fun t τ h => (rtab_ty.1 h).2
end Go.Proofs.Ytfghmbpogmcboaa
