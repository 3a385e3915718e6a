/-
  Part 35 of the proof that the statement FnExactIsTableSet holds.
-/
import Derived.Test.YtfghmbpogmcboaaCIsTableSet33
namespace Go.Proofs.Ytfghmbpogmcboaa
open Go.ChangeShapes Go.WideShapes Go.ChangeAt Go.RowKit

theorem shortTS_of (ts : List TT) (h : tTS.bulk ts ≤ 1048576) : shortTS ts := by
  have h1 : ∀ l : List TT, l.length ≤ (l.map (Ty.bulk tTable)).sum ∧ ∀ t ∈ l, tTable.bulk t ≤ (l.map (Ty.bulk tTable)).sum := by
    intro l
    induction l with
    | nil => simp
    | cons a l ih =>
      have ha : 1 ≤ tTable.bulk a := by
        show 1 ≤ tL.bulk a.1 + (tLL.bulk a.2.1 + (tL.bulk a.2.2.1 + 0))
        have := bulkL_len a.1
        omega
      simp only [List.map_cons, List.sum_cons, List.length_cons]
      refine ⟨by omega, fun r hr => ?_⟩
      cases List.mem_cons.1 hr with
      | inl e => subst e; omega
      | inr e => have := ih.2 r e; omega
  have h2 := h1 ts
  have h3 : (ts.map (Ty.bulk tTable)).sum + 1 ≤ 1048576 := h
  exact ⟨by omega, fun t ht => shortT_of t (by have := h2.2 t ht; omega)⟩
end Go.Proofs.Ytfghmbpogmcboaa
