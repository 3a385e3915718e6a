/-
  Part 34 of the proof that the statement FnExactIsTableSet holds.
-/
import Derived.Test.YtfghmbpogmcboaaCIsTableSet32
namespace Go.Proofs.Ytfghmbpogmcboaa
open Go.ChangeShapes Go.WideShapes Go.ChangeAt Go.RowKit
set_option maxRecDepth 100000

theorem own : ownKnob Try.prog.godebug = none := by kernel_rfl
theorem laidOut : laidOutB Try.prog = true := by kernel_rfl

theorem bulkL_len (xs : List Int) : xs.length + 1 ≤ tL.bulk xs := by
  have : ∀ l : List Int, l.length ≤ (l.map (Ty.bulk tI)).sum := by
    intro l
    induction l with
    | nil => simp
    | cons a l ih => simp only [List.map_cons, List.sum_cons, List.length_cons]; have : Ty.bulk tI a = 1 := rfl; omega
  have := this xs
  show xs.length + 1 ≤ (xs.map (Ty.bulk tI)).sum + 1
  omega
theorem bulkLL_len (xs : List (List Int)) : xs.length + 1 ≤ tLL.bulk xs ∧ ∀ r ∈ xs, r.length + 1 ≤ tLL.bulk xs := by
  have h1 : ∀ l : List (List Int), l.length ≤ (l.map (Ty.bulk tL)).sum ∧ ∀ r ∈ l, r.length + 1 ≤ (l.map (Ty.bulk tL)).sum := by
    intro l
    induction l with
    | nil => simp
    | cons a l ih =>
      have ha := bulkL_len a
      simp only [List.map_cons, List.sum_cons, List.length_cons]
      refine ⟨by omega, fun r hr => ?_⟩
      cases List.mem_cons.1 hr with
      | inl e => subst e; omega
      | inr e => have := ih.2 r e; omega
  have h2 := h1 xs
  refine ⟨?_, fun r hr => ?_⟩
  · show xs.length + 1 ≤ (xs.map (Ty.bulk tL)).sum + 1
    omega
  · show r.length + 1 ≤ (xs.map (Ty.bulk tL)).sum + 1
    have := h2.2 r hr
    omega
theorem shortL_of (t : List Int) (h : tL.bulk t ≤ 1048576) : short t := by
  have h1 := bulkL_len t
  unfold short; omega
theorem shortLL_of (t : List (List Int)) (h : tLL.bulk t ≤ 1048576) : shortLL t := by
  have h2 := bulkLL_len t
  refine ⟨by omega, fun r hr => ?_⟩
  have := h2.2 r hr; unfold short; omega
theorem shortT_of (t : TT) (h : tTable.bulk t ≤ 1048576) : shortT t := by
  have h' : tL.bulk t.1 + (tLL.bulk t.2.1 + (tL.bulk t.2.2.1 + 0)) ≤ 1048576 := h
  exact ⟨shortL_of _ (by omega), shortLL_of _ (by omega), shortL_of _ (by omega)⟩

theorem shortP_of (p : PP) (h : tPuzzle.bulk p ≤ 1048576) : shortP p := by
  have h' : 1 + (Ty.bulk .str p.2.1 + (tLL.bulk p.2.2.1 + 0)) ≤ 1048576 := h
  have h1 : p.2.1.size ≤ Ty.bulk .str p.2.1 := by simp [Ty.bulk]
  exact ⟨by omega, shortLL_of _ (by omega)⟩

/-- What is read is plain data. -/
theorem repArg_struct {H : Type} {enc : TypeId × Value → H} {W : World} {base : Nat} {t : TypeId} {τ : Ty} {v : Value} {d : DataW H} {p : List MemPlace} (ht : rtab.ty t = some τ) (hs : τ.isStruct = true)
    (ho : Value.okWide Try.prog W .any base t v) (h : DataW.Trod enc Try.prog W 0 (fun _ => true) true t v d p) : ∃ x : τ.den, RepVal W (fun _ => False) τ v x ∧ τ.bulk x ≤ Rows.uptoBulk d := by
  obtain ⟨fuel, hf⟩ := h
  obtain ⟨x, hc, hb⟩ := trod_cells readOK (bulkOK H) fuel t τ _ d p ht hf
  obtain ⟨fs, hu, _⟩ := readOK.fields t τ ht hs
  obtain ⟨cs, rfl, _⟩ := okWide_struct hu ho
  exact ⟨x, ⟨_, hc, by simp [mkVal, hs, Value.cells]⟩, hb⟩
theorem rep_cell {H : Type} {enc : TypeId × Value → H} {W : World} {t : TypeId} {τ : Ty} {v : Value} {d : DataW H} {p : List MemPlace} (ht : rtab.ty t = some τ) (hs : τ.isStruct = false)
    (ho : v.cells = #[v]) (h : DataW.Trod enc Try.prog W 0 (fun _ => true) true t v d p) : ∃ x : τ.den, RepVal W (fun _ => False) τ v x ∧ τ.bulk x ≤ Rows.uptoBulk d := by
  obtain ⟨fuel, hf⟩ := h
  rw [ho] at hf
  obtain ⟨x, hc, hb⟩ := trod_cells readOK (bulkOK H) fuel t τ _ d p ht hf
  exact ⟨x, ⟨_, hc, by simp [mkVal, hs]⟩, hb⟩
theorem repArg_slice {H : Type} {enc : TypeId × Value → H} {W : World} {base : Nat} {t te : TypeId} {e : Ty} {v : Value} {d : DataW H} {p : List MemPlace} (ht : rtab.ty t = some (.slice e)) (hu : Program.underlying Try.prog t = some (.slice te))
    (ho : Value.okWide Try.prog W .any base t v) (h : DataW.Trod enc Try.prog W 0 (fun _ => true) true t v d p) : ∃ x : List e.den, RepVal W (fun _ => False) (.slice e) v x ∧ Ty.bulk (.slice e) x ≤ Rows.uptoBulk d := by
  obtain ⟨a, b, c, rfl⟩ := okWide_slice hu ho
  exact rep_cell (τ := .slice e) ht rfl rfl h
theorem ret_bool {W : World} {A : Nat → Prop} {v : Value} {b : Bool} (hr : RepVal W A .bool v b) : v = .bool b := by
  obtain ⟨cs, hc, rfl⟩ := hr
  have hc : cs = [.bool b] := hc
  subst hc
  rfl
end Go.Proofs.Ytfghmbpogmcboaa
