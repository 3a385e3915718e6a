/-
  THE LAW IsWellFormedTable: at every table of bulk at most 1048576 the law returns true, and the table reads as it did.
-/
import Derived.Test.YtingphpncocimaaJoin
namespace Go.Proofs.Ytingphpncocimaa
open Go.ChangeShapes Go.WideShapes Go.ChangeAt Go.RowKit

theorem own : ownKnob Try.prog.godebug = none := by kernel_rfl
theorem laidOut : laidOutB Try.prog = true := by kernel_rfl

theorem bulkL_len (xs : List Int) : xs.length + 1 ≤ tL.bulk xs := by
  have : ∀ l : List Int, l.length ≤ (l.map (Ty.bulk tI)).sum := by
    intro l
    induction l with
    | nil => simp
    | cons a l ih => simp only [List.map_cons, List.sum_cons, List.length_cons]; have : Ty.bulk tI a = 1 := rfl; omega
  have := this xs
  show xs.length + 1 ≤ (xs.map (Ty.bulk tI)).sum + 1
  omega
theorem bulkLL_len (xs : List (List Int)) : xs.length + 1 ≤ tLL.bulk xs ∧ ∀ r ∈ xs, r.length + 1 ≤ tLL.bulk xs := by
  have h1 : ∀ l : List (List Int), l.length ≤ (l.map (Ty.bulk tL)).sum ∧ ∀ r ∈ l, r.length + 1 ≤ (l.map (Ty.bulk tL)).sum := by
    intro l
    induction l with
    | nil => simp
    | cons a l ih =>
      have ha := bulkL_len a
      simp only [List.map_cons, List.sum_cons, List.length_cons]
      refine ⟨by omega, fun r hr => ?_⟩
      cases List.mem_cons.1 hr with
      | inl e => subst e; omega
      | inr e => have := ih.2 r e; omega
  have h2 := h1 xs
  refine ⟨?_, fun r hr => ?_⟩
  · show xs.length + 1 ≤ (xs.map (Ty.bulk tL)).sum + 1
    omega
  · show r.length + 1 ≤ (xs.map (Ty.bulk tL)).sum + 1
    have := h2.2 r hr
    omega
theorem shortT_of (t : TT) (h : tTable.bulk t ≤ 1048576) : shortT t := by
  have h' : tL.bulk t.1 + (tLL.bulk t.2.1 + (tL.bulk t.2.2.1 + 0)) ≤ 1048576 := h
  have h1 := bulkL_len t.1
  have h2 := bulkLL_len t.2.1
  have h3 := bulkL_len t.2.2.1
  refine ⟨?_, ⟨?_, fun r hr => ?_⟩, ?_⟩
  · unfold short; omega
  · omega
  · have := h2.2 r hr; unfold short; omega
  · unfold short; omega

/-- A struct that is read is plain data. -/
theorem rep_struct {H : Type} {enc : TypeId × Value → H} {W : World} {base : Nat} {t : TypeId} {τ : Ty} {v : Value} {d : DataW H} {p : List MemPlace} (ht : tab.ty t = some τ) (hs : τ.isStruct = true)
    (ho : Value.okWide Try.prog W .any base t v) (h : DataW.Trod enc Try.prog W 0 (fun _ => true) true t v d p) : ∃ x : τ.den, RepVal W (fun _ => False) τ v x ∧ τ.bulk x ≤ Rows.uptoBulk d := by
  obtain ⟨fuel, hf⟩ := h
  obtain ⟨x, hc, hb⟩ := trod_cells readOK (bulkOK H) fuel t τ _ d p ht hf
  obtain ⟨fs, hu, _⟩ := readOK.fields t τ ht hs
  obtain ⟨cs, rfl, _⟩ := okWide_struct hu ho
  exact ⟨x, ⟨_, hc, by simp [mkVal, hs, Value.cells]⟩, hb⟩

abbrev F4 : FuncId := 4

theorem contract4 (H : Type) (enc : TypeId × Value → H) (W : World) (base : Nat) (args : Array Value) (ds gs : List (DataW H)) (before : List MemPlace)
    (hval : ∀ (j : Nat) t v, Try.f4.params[j]? = some t → args[j]? = some v → Value.okWide Try.prog W .any base t v)
    (hW : DataW.Whole enc Try.prog Try.f4.params.toList Rows.fnExactIsWellFormedTableSpec.vars false W args.toList ds gs before) (hk : Rows.uptoSmall H (ds ++ gs) = true) :
    Calls Try.prog 4 args W fun e W' => ∃ v, e = .returned v ∧ Rows.fnExactIsWellFormedTableSpec.post enc Try.prog Try.f4 false true false false W args v W' := by
  have hW' := hW
  obtain ⟨p, q, hA0, hV, rfl, hfz, hnd⟩ := hW
  have hA : DataW.TrodAll enc Try.prog W 0 (fun _ => true) true Try.f4.params.toList args.toList ds p := hA0
  rw [Try.params4] at hA hval
  obtain ⟨v0, vs0, d0, ds0, p0, q0, hargs, rfl, rfl, h0, r0⟩ := trodAll_cons hA
  obtain ⟨rfl, rfl, rfl⟩ := trodAll_nil r0
  obtain rfl : args = #[v0] := by cases args; simp_all
  obtain ⟨rfl, rfl⟩ := trodVars_none hV
  have lt0 : ∀ x ∈ p0, x.block < W.heap.size := by obtain ⟨m, hm⟩ := h0; exact DataW.trod_lt m _ _ _ hm
  obtain ⟨x, hx, hb⟩ := rep_struct (τ := tTable) rfl rfl (hval 0 _ v0 rfl rfl) h0
  have hB : Rows.uptoBulkAll ([d0] ++ []) ≤ 1048576 := of_decide_eq_true hk
  simp only [List.append_nil, Rows.uptoBulkAll] at hB
  have hs := shortT_of x (by omega)
  refine (sound_lawWellFormed.calls W (fun _ => False) [v0] (x, ()) true (fun _ h => h.elim) ⟨hx, trivial⟩ (if_pos hs)).mono fun e W' ⟨v, he, bel, hr⟩ => ?_
  have hv : v = .bool true := by
    obtain ⟨cs, hc, rfl⟩ := hr
    have hc : cs = [.bool true] := hc
    subst hc
    rfl
  subst hv
  subst he
  exact ⟨_, rfl, _, _, _, [], _, [], hW', trodAll_mk1 (shut_bool Try.underlying4 _), trodAll_cons_mk (Below.trod laidOut (by kernel_rfl) (of_decide_eq_true (by kernel_rfl)) h0 bel lt0) trodAll_mk0, rfl, bel.frame _, fun h => by cases h⟩
set_option maxRecDepth 100000 in
theorem lifted4 (os : Os) (started : os.Started) (H : Type) (enc : TypeId × Value → H) (F : Stop.Interp) :
    ReturnsInHanded {} Try.checked os 4 .any ((Rows.OpenSpec.upto Rows.fnExactIsWellFormedTableSpec).pre6 enc Try.prog Try.f4 Rows.fnExactIsWellFormedTableUptoRow.domain false) (((Rows.OpenSpec.upto Rows.fnExactIsWellFormedTableSpec).at F).post enc Try.prog Try.f4 false true false false) := by
  refine returnsInHanded_of_cond (C := Try.checked) (s := Rows.OpenSpec.upto Rows.fnExactIsWellFormedTableSpec) (k := Rows.uptoSmall) rfl own started (by kernel_rfl) Try.func4
    (OpenSpec.witness (enc := enc) (C := Try.checked) (s := Rows.OpenSpec.upto Rows.fnExactIsWellFormedTableSpec) (k := Rows.uptoSmall) rfl false ⟨#[], #[.agg #[.slice none 0 0, .slice none 0 0, .slice none 0 0]], []⟩ 8 (by kernel_rfl) (by kernel_rfl) (by kernel_rfl)
      (x := ([.agg [.nil, .nil, .nil]], [], [])) (by kernel_rfl) rfl (by kernel_rfl)) ?_
  intro W base args ds gs before hval hW _ hk _
  exact contract4 H enc W base args ds gs before hval hW hk

/-- THE STATEMENT. -/
theorem provedIsWellFormedTable : Rows.FnExactIsWellFormedTableUptoSaid :=
  OpenClaim.holds_of_cond 4 Try.f4 rfl rfl rfl rfl rfl rfl rfl ⟨rfl, rfl, rfl, rfl, rfl⟩ rfl rfl rfl rfl rfl (by kernel_rfl) Try.func4 (by kernel_rfl)
    (of_decide_eq_true (by kernel_rfl)) (by unfold Func.isWrapper; first | (rw [if_pos (by decide +kernel)]; kernel_rfl) | (rw [if_neg (by decide +kernel)]; exact ⟨rfl, rfl⟩))
    (fun os started H enc _ F => lifted4 os started H enc F)
end Go.Proofs.Ytingphpncocimaa
