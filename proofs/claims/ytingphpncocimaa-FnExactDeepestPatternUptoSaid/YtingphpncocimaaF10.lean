/-
  Contracts: TableHistogram.
-/
import Derived.Test.YtingphpncocimaaF9
namespace Go.Proofs.Ytingphpncocimaa
open Go.RowKit

def m_max (xs : List Int) : Int := xs.foldl max (xs.headD 0)
noncomputable abbrev s_max : Spec := mkS (.pair tL .unit) tI false true (fun x => 1 ≤ List.length x.1 ∧ short x.1) (fun x => m_max x.1)
/-- How often each number from 0 to the greatest one occurs. -/
def m_hist (xs : List Int) : List Int := (List.range (m_max xs + 1).toNat).map fun (d : Nat) => ((xs.count (d : Int) : Nat) : Int)
def small (xs : List Int) : Prop := 1 ≤ xs.length ∧ short xs ∧ ∀ x ∈ xs, 0 ≤ x ∧ x ≤ 3000
noncomputable abbrev s_histogram : MSpec := mkM [none] [(false, .dat tL)] false [none] [rL] (fun x => small x.1) (fun x => ((m_hist x.1, ()), ()))
noncomputable def m_tableHist (t : TT) : List Int := if m_wellFormed t = true then m_hist t.2.2.1 else []
noncomputable abbrev s_implHist : MSpec := mkM [some 3] [(false, .dat tL), (false, .dat tLL), (false, .dat tL)] false [none] [rL] (fun x => shortT (x.1, x.2.1, x.2.2.1, ())) (fun x => ((m_tableHist (x.1, x.2.1, x.2.2.1, ()), ()), ()))
noncomputable abbrev s_specHist : Spec := mkS (.pair tTable .unit) tL false true (fun x => shortT x.1) (fun x => m_tableHist x.1)
theorem w_max (xs : List Int) (P : Int → Prop) : (Br (decide ((↑xs.length : Int) < (1 : Int))) False
  (∃ (y2 : Int),
    idx xs (0 : Int) = some y2 ∧
      WLoop
        (fun (v3 : Int × Int × PUnit) (k4 : Int × Int × PUnit → Prop) =>
          Br (decide (v3.2.fst < (↑xs.length : Int)))
            (∃ (y5 : Int), idx xs v3.2.fst = some y5 ∧ k4 (if true = true then if y5 > v3.fst then y5 else v3.fst else if y5 < v3.fst then y5 else v3.fst, IntKind.i64.wrap (v3.2.fst + (1 : Int)), ()))
            (P v3.fst))
        (y2, (1 : Int), PUnit.unit))) = fnW tab (look []) s_max Try.f75 (xs, ()) P := by kernel_rfl
theorem w_histogram (xs : List Int) (P : ((List Int × Unit) × Unit) → Prop) : (∃ (y2 : Int),
  s_max.fn (xs, ()) = some y2 ∧
    ((0 : Int) ≤ IntKind.i64.wrap (y2 + (1 : Int)) ∧ IntKind.i64.wrap (y2 + (1 : Int)) < (↑maxRow : Int) + (1 : Int)) ∧
      IntKind.i64.wrap (y2 + (1 : Int)) = IntKind.i64.wrap (y2 + (1 : Int)) ∧
        (0 : Nat) = (0 : Nat) ∧
          (List.replicate (IntKind.i64.wrap (y2 + (1 : Int))).toNat (Int.ofNat (nat_lit 0))).length = (List.replicate (IntKind.i64.wrap (y2 + (1 : Int))).toNat (Int.ofNat (nat_lit 0))).length ∧
            WLoop
              (fun (v3 : Int × List Int × PUnit) (k4 : Int × List Int × PUnit → Prop) =>
                Br (decide (v3.fst < (↑xs.length : Int)))
                  (∃ (y5 : Int),
                    idx xs v3.fst = some y5 ∧
                      ((0 : Int) ≤ y5 ∧ y5 < (↑v3.2.fst.length : Int)) ∧
                        ∃ (y6 : Int),
                          v3.2.fst[(0 : Nat) + y5.toNat]? = some y6 ∧
                            ((0 : Int) ≤ y5 ∧ y5 < (↑v3.2.fst.length : Int)) ∧
                              (0 : Nat) + y5.toNat < v3.2.fst.length ∧
                                (0 : Nat) = (0 : Nat) ∧
                                  v3.2.fst.length = (v3.2.fst.set ((0 : Nat) + y5.toNat) (IntKind.i64.wrap (y6 + (1 : Int)))).length ∧
                                    k4 (IntKind.i64.wrap (v3.fst + (1 : Int)), v3.2.fst.set ((0 : Nat) + y5.toNat) (IntKind.i64.wrap (y6 + (1 : Int))), ()))
                  (P ((List.take v3.2.fst.length (List.drop (0 : Nat) v3.2.fst), ()), ())))
              ((0 : Int), List.replicate (IntKind.i64.wrap (y2 + (1 : Int))).toNat (Int.ofNat (nat_lit 0)), PUnit.unit)) = fnMW tabT (look [(75, s_max)]) s_histogram Try.f68 (xs, ()) P := by kernel_rfl
theorem w_implHist (a : List Int) (b : List (List Int)) (c : List Int) (P : ((List Int × Unit) × Unit) → Prop) : (∃ (y4 : Bool),
  s_wellFormed.fn ((a, b, c, ()), ()) = some y4 ∧
    Br (!y4) (P ((List.take (0 : Nat) (List.drop (0 : Nat) []), ()), ()))
      (∃ (y5 : (List Int × PUnit) × PUnit), s_histogram.fn (c, ()) = some y5 ∧ P ((List.take y5.1.fst.length (List.drop (0 : Nat) y5.1.fst), ()), ()))) = fnMW tabT (look [(21, s_wellFormed), (68, s_histogram)]) s_implHist Try.f30 (a, b, c, ()) P := by kernel_rfl
theorem w_specHist (t : List Int × List (List Int) × List Int × Unit) (P : List Int → Prop) : (∃ (y2 : Bool),
  s_wellFormed.fn ((t.fst, t.2.fst, t.snd.2.fst, ()), ()) = some y2 ∧
    Br (!y2) (P (List.take (0 : Nat) (List.drop (0 : Nat) [])))
      ((0 : Nat) = (0 : Nat) ∧
        (0 : Nat) = ([] : List Int).length ∧
          WLoop
            (fun (v3 : Int × List Int × List (List Int) × List Int × List Int × PUnit) (k4 : Int × List Int × List (List Int) × List Int × List Int × PUnit → Prop) =>
              Br (decide (v3.fst < (↑v3.2.snd.2.fst.length : Int)))
                ((0 : Nat) = (0 : Nat) ∧
                  v3.snd.2.snd.2.fst.length = v3.snd.2.snd.2.fst.length ∧
                    WLoop
                      (fun (v5 : List Int × List (List Int) × List Int × List Int × PUnit) (k6 : List Int × List (List Int) × List Int × List Int × PUnit → Prop) =>
                        ∃ (y7 : Int),
                          idx v5.snd.2.fst v3.fst = some y7 ∧
                            Br (decide ((↑v5.2.snd.2.fst.length : Int) ≤ y7))
                              ((0 : Nat) = (0 : Nat) ∧
                                v5.2.snd.2.fst.length = v5.2.snd.2.fst.length ∧
                                  v5.2.snd.2.fst.length + (List.take (1 : Nat) (List.drop (0 : Nat) [(0 : Int)])).length ≤ maxRow ∧
                                    (0 : Nat) = (0 : Nat) ∧
                                      (v5.2.snd.2.fst ++ List.take (1 : Nat) (List.drop (0 : Nat) [(0 : Int)])).length =
                                          (v5.2.snd.2.fst ++ List.take (1 : Nat) (List.drop (0 : Nat) [(0 : Int)])).length ∧
                                        k6 (v5.fst, v5.2.fst, v5.snd.2.fst, v5.2.snd.2.fst ++ List.take (1 : Nat) (List.drop (0 : Nat) [(0 : Int)]), ()))
                              (∃ (y8 : Int),
                                idx v5.snd.2.fst v3.fst = some y8 ∧
                                  ((0 : Int) ≤ y8 ∧ y8 < (↑v5.2.snd.2.fst.length : Int)) ∧
                                    ∃ (y9 : Int),
                                      v5.2.snd.2.fst[(0 : Nat) + y8.toNat]? = some y9 ∧
                                        ((0 : Int) ≤ y8 ∧ y8 < (↑v5.2.snd.2.fst.length : Int)) ∧
                                          (0 : Nat) + y8.toNat < v5.2.snd.2.fst.length ∧
                                            (0 : Nat) = (0 : Nat) ∧
                                              v5.2.snd.2.fst.length = (v5.2.snd.2.fst.set ((0 : Nat) + y8.toNat) (IntKind.i64.wrap (y9 + (1 : Int)))).length ∧
                                                k4
                                                  (IntKind.i64.wrap (v3.fst + (1 : Int)), v5.fst, v5.2.fst, v5.snd.2.fst, v5.2.snd.2.fst.set ((0 : Nat) + y8.toNat) (IntKind.i64.wrap (y9 + (1 : Int))),
                                                    ())))
                      (v3.2.fst, v3.snd.2.fst, v3.2.snd.2.fst, v3.snd.2.snd.2.fst, PUnit.unit))
                (P (List.take v3.snd.2.snd.2.fst.length (List.drop (0 : Nat) v3.snd.2.snd.2.fst))))
            ((0 : Int), t.fst, t.2.fst, t.snd.2.fst, [], PUnit.unit))) = fnW tab (look [(20, s_wellFormed)]) s_specHist Try.f29 (t, ()) P := by kernel_rfl
theorem w_lawHist (t : List Int × List (List Int) × List Int × Unit) (P : Bool → Prop) : (∃ (y2 : Int),
  s_szTable.fn ((t.fst, t.2.fst, t.snd.2.fst, ()), (1048576 : Int), ()) = some y2 ∧
    Br (decide (y2 < (0 : Int))) (P true)
      (∃ (y3 : (List Int × List (List Int) × List Int × PUnit) × PUnit),
        s_toTablem.fn (t.fst, t.2.fst, t.snd.2.fst, ()) = some y3 ∧
          ∃ (y4 : List Int),
            s_specHist.fn
                  ((List.take y3.1.fst.length (List.drop (0 : Nat) y3.1.fst), List.take y3.fst.2.fst.length (List.drop (0 : Nat) y3.fst.2.fst),
                      List.take y3.1.snd.2.fst.length (List.drop (0 : Nat) y3.1.snd.2.fst), ()),
                    ()) =
                some y4 ∧
              ∃ (y5 : (List Int × List (List Int) × List Int × PUnit) × PUnit),
                s_toTablem.fn (t.fst, t.2.fst, t.snd.2.fst, ()) = some y5 ∧
                  ∃ (y6 : (List Int × PUnit) × PUnit),
                    s_implHist.fn
                          (List.take y5.1.fst.length (List.drop (0 : Nat) y5.1.fst), List.take y5.fst.2.fst.length (List.drop (0 : Nat) y5.fst.2.fst),
                            List.take y5.1.snd.2.fst.length (List.drop (0 : Nat) y5.1.snd.2.fst), ()) =
                        some y6 ∧
                      ∃ (y7 : Bool),
                        s_equalInts.fn (List.take y6.1.fst.length (List.drop (0 : Nat) y6.1.fst), y4, ()) = some y7 ∧
                          Br (!y7) (P false)
                            (∃ (y8 : List Int × List (List Int) × List Int × PUnit),
                              s_toTable.fn ((t.fst, t.2.fst, t.snd.2.fst, ()), ()) = some y8 ∧
                                ∃ (y9 : Bool),
                                  s_eqTable.fn
                                        ((List.take y5.1.fst.length (List.drop (0 : Nat) y5.1.fst), List.take y5.fst.2.fst.length (List.drop (0 : Nat) y5.fst.2.fst),
                                            List.take y5.1.snd.2.fst.length (List.drop (0 : Nat) y5.1.snd.2.fst), ()),
                                          y8, ()) =
                                      some y9 ∧
                                    Br (!y9) (P false)
                                      ((0 : Nat) = (0 : Nat) ∧
                                        y5.1.fst.length = y5.1.fst.length ∧
                                          (0 : Nat) = (0 : Nat) ∧
                                            y5.fst.2.fst.length = y5.fst.2.fst.length ∧
                                              (0 : Nat) = (0 : Nat) ∧
                                                y5.1.snd.2.fst.length = y5.1.snd.2.fst.length ∧
                                                  ∃ (y10 : (Int × PUnit) × List Int × List (List Int) × List Int × PUnit),
                                                    s_markTable.fn (y5.1.fst, y5.fst.2.fst, y5.1.snd.2.fst, (1 : Int), ()) = some y10 ∧
                                                      (y10.2.fst.length = y5.1.fst.length ∧ y5.1.fst.length = y5.1.fst.length) ∧
                                                        (y10.snd.2.fst.length = y5.fst.2.fst.length ∧ y5.fst.2.fst.length = y5.fst.2.fst.length) ∧
                                                          (y10.2.snd.2.fst.length = y5.1.snd.2.fst.length ∧ y5.1.snd.2.fst.length = y5.1.snd.2.fst.length) ∧
                                                            Br (decide (y10.1.fst < (0 : Int))) (P false)
                                                              (∃ (y11 : Bool),
                                                                s_equalInts.fn (List.take y6.1.fst.length (List.drop (0 : Nat) y6.1.fst), y4, ()) = some y11 ∧
                                                                  Br (!y11) (P false)
                                                                    ((0 : Nat) = (0 : Nat) ∧
                                                                      y6.1.fst.length = y6.1.fst.length ∧
                                                                        ∃ (y12 : (Int × PUnit) × List Int × PUnit),
                                                                          s_markL.fn (y6.1.fst, (1 : Int), ()) = some y12 ∧
                                                                            (y12.2.fst.length = y6.1.fst.length ∧ y6.1.fst.length = y6.1.fst.length) ∧
                                                                              ∃ (y13 : Int),
                                                                                s_heldL.fn (List.take y6.1.fst.length (List.drop (0 : Nat) y12.2.fst), (1 : Int), ()) = some y13 ∧
                                                                                  Br (decide (y13 < (0 : Int))) (P false)
                                                                                    (Br (y13 != y12.1.fst) (P false)
                                                                                      (∃ (y14 : (List Int × List (List Int) × List Int × PUnit) × PUnit),
                                                                                        s_toTablem.fn (t.fst, t.2.fst, t.snd.2.fst, ()) = some y14 ∧
                                                                                          ∃ (y15 : (List Int × PUnit) × PUnit),
                                                                                            s_implHist.fn
                                                                                                  (List.take y14.1.fst.length (List.drop (0 : Nat) y14.1.fst),
                                                                                                    List.take y14.fst.2.fst.length (List.drop (0 : Nat) y14.fst.2.fst),
                                                                                                    List.take y14.1.snd.2.fst.length (List.drop (0 : Nat) y14.1.snd.2.fst), ()) =
                                                                                                some y15 ∧
                                                                                              ∃ (y16 : Bool),
                                                                                                s_equalInts.fn (List.take y15.1.fst.length (List.drop (0 : Nat) y15.1.fst), y4, ()) = some y16 ∧
                                                                                                  Br (!y16) (P false)
                                                                                                    (∃ (y17 : Int),
                                                                                                      s_heldL.fn (List.take y6.1.fst.length (List.drop (0 : Nat) y12.2.fst), (1 : Int), ()) = some y17 ∧
                                                                                                        Br (decide (y17 < (0 : Int))) (P false) (Br (y17 != y12.1.fst) (P false) (P true))))))))))) = fnW tab (look [(15, s_szTable), (29, s_specHist), (30, s_implHist), (17, ASpec.b s_toTable s_toTablem), (28, s_equalInts), (19, s_eqTable), (31, s_markTable), (32, s_markL), (33, s_heldL)]) s_lawT Try.f6 (t, ()) P := by kernel_rfl
theorem max_if (y v : Int) : (if y > v then y else v) = max v y := by split <;> omega
theorem foldl_max_ge : ∀ (xs : List Int) (a : Int), a ≤ xs.foldl max a ∧ ∀ x ∈ xs, x ≤ xs.foldl max a
  | [], a => ⟨Int.le_refl a, fun x hx => by cases hx⟩
  | y :: xs, a => by
    obtain ⟨h1, h2⟩ := foldl_max_ge xs (max a y)
    simp only [List.foldl_cons]
    refine ⟨by omega, fun x hx => ?_⟩
    rcases List.mem_cons.1 hx with rfl | hx
    · omega
    · exact h2 x hx
theorem foldl_max_mem : ∀ (xs : List Int) (a : Int), xs.foldl max a = a ∨ xs.foldl max a ∈ xs
  | [], a => .inl rfl
  | y :: xs, a => by
    simp only [List.foldl_cons]
    rcases foldl_max_mem xs (max a y) with h | h
    · rw [h]
      rcases Int.le_total a y with h1 | h1
      · rw [Int.max_eq_right h1]; exact .inr (by simp)
      · rw [Int.max_eq_left h1]; exact .inl rfl
    · exact .inr (List.mem_cons_of_mem _ h)
theorem m_max_ge {xs : List Int} {x : Int} (hx : x ∈ xs) : x ≤ m_max xs := (foldl_max_ge xs _).2 x hx
theorem m_max_mem {xs : List Int} (h : 1 ≤ xs.length) : m_max xs ∈ xs := by
  cases xs with
  | nil => simp at h
  | cons y xs =>
    rcases foldl_max_mem (y :: xs) ((y :: xs).headD 0) with h | h
    · show List.foldl max _ _ ∈ _
      rw [h]; simp
    · exact h
theorem p_max (xs : List Int) (h : 1 ≤ List.length xs ∧ short xs) : fnW tab (look []) s_max Try.f75 (xs, ()) (fun (z : Int) => z = m_max xs) := by
  obtain ⟨h1, h2⟩ := h
  unfold short at h2
  refine Eq.mp (w_max xs _) (Br.dec (fun hn => by omega) fun _ => ?_)
  refine ⟨_, idx_nat (j := 0) (by omega), ?_⟩
  refine ⟨fun v => ∃ j : Nat, 1 ≤ j ∧ j ≤ xs.length ∧ v.2.1 = j ∧ (xs.drop j).foldl max v.1 = m_max xs, fun v => xs.length - v.2.1.toNat, ⟨1, Nat.le_refl _, h1, rfl, ?_⟩, ?_⟩
  · cases xs with
    | nil => simp at h1
    | cons y xs => simp [m_max]
  · rintro ⟨m, i, ⟨⟩⟩ ⟨j, g1, g2, g3, g4⟩
    dsimp only at g3 g4 ⊢
    subst g3
    refine Br.dec (fun hl => ?_) fun hl => ?_
    · have hl : j < xs.length := by omega
      refine ⟨_, idx_nat hl, ?_⟩
      rw [wrap_nat (by omega), if_pos rfl, max_if]
      refine ⟨⟨j + 1, by omega, by omega, rfl, ?_⟩, ?_⟩
      · rw [List.drop_eq_getElem_cons hl] at g4
        exact g4
      · simp only [Int.toNat_natCast]
        omega
    · have hj : j = xs.length := by omega
      subst hj
      rw [List.drop_length] at g4
      exact g4
theorem sound_max : Sound Try.prog 75 s_max :=
  Sound.mkS tabOK envNil mixed Try.func75 (by kernel_rfl) (by kernel_rfl) fun x h => p_max x.1 h
/-- The counts of the first j. -/
def cnt (xs : List Int) (j m : Nat) : List Int := (List.range m).map fun (d : Nat) => (((xs.take j).count (d : Int) : Nat) : Int)
theorem cnt_len (xs : List Int) (j m : Nat) : (cnt xs j m).length = m := by simp [cnt]
theorem cnt_get {xs : List Int} {j m d : Nat} (h : d < m) : (cnt xs j m)[d]? = some (((xs.take j).count (d : Int) : Nat) : Int) := by simp [cnt, h]
theorem cnt_succ {xs : List Int} {j m : Nat} (hj : j < xs.length) {d : Nat} (hd : xs[j] = (d : Int)) (hm : d < m) : (cnt xs j m).set d ((((xs.take j).count (d : Int) : Nat) : Int) + 1) = cnt xs (j + 1) m := by
  apply List.ext_getElem?
  intro i
  rw [List.getElem?_set, cnt_len]
  by_cases hi : i < m
  · rw [cnt_get (j := j + 1) hi, List.take_succ_eq_append_getElem hj, List.count_append, hd]
    by_cases e : d = i
    · subst e
      rw [if_pos rfl, if_pos hm]
      simp
    · rw [if_neg e, cnt_get hi]
      have : ¬ (d : Int) = (i : Int) := by omega
      simp [this]
  · by_cases e : d = i
    · omega
    · rw [if_neg e]
      simp [cnt, hi]
theorem cnt_zero (xs : List Int) (m : Nat) : cnt xs 0 m = List.replicate m 0 := by
  apply List.ext_getElem?
  intro i
  by_cases hi : i < m
  · rw [cnt_get hi]; simp [hi]
  · simp [cnt, hi]
theorem cnt_wide {xs : List Int} {j m : Nat} (h : ∀ x ∈ xs.take j, x < m) : cnt xs j m ++ [0] = cnt xs j (m + 1) := by
  have : (xs.take j).count (m : Int) = 0 := List.count_eq_zero.2 fun hm => by have := h _ hm; omega
  simp [cnt, List.range_succ, this]
theorem small_max {xs : List Int} (h : small xs) : 0 ≤ m_max xs ∧ m_max xs ≤ 3000 := h.2.2 _ (m_max_mem h.1)
theorem count_le (xs : List Int) (j : Nat) (d : Int) : (xs.take j).count d ≤ xs.length := Nat.le_trans List.count_le_length (by simp; omega)
theorem p_histogram (xs : List Int) (h : small xs) : fnMW tabT (look [(75, s_max)]) s_histogram Try.f68 (xs, ()) (fun (z : (List Int × Unit) × Unit) => z = ((m_hist xs, ()), ())) := by
  have hb := small_max h
  obtain ⟨h1, h2, h3⟩ := h
  have h2' := h2
  unfold short at h2'
  have hw : IntKind.i64.wrap (m_max xs + 1) = m_max xs + 1 := wrap_id (by omega) (by omega)
  refine Eq.mp (w_histogram xs _) ⟨_, if_pos ⟨h1, h2⟩, ?_⟩
  dsimp only
  rw [hw]
  refine ⟨⟨by omega, by show m_max xs + 1 < (4294967296 : Int) + 1; omega⟩, rfl, rfl, rfl, ?_⟩
  refine loop_range xs.length (fun v => v.1) (fun j v => v.2.1 = cnt xs j (m_max xs + 1).toNat) rfl (cnt_zero xs _).symm ?_
  rintro j ⟨i, ys, ⟨⟩⟩ K hj hi hR hK
  dsimp only at hi hR ⊢
  subst hi; subst hR
  refine Br.dec (fun hl => ?_) fun hl => ?_
  · have hl : j < xs.length := by omega
    have hx := h3 _ (List.getElem_mem hl)
    have hx2 := m_max_ge (List.getElem_mem hl)
    obtain ⟨d, hd⟩ := Int.eq_ofNat_of_zero_le hx.1
    have hdm : d < (m_max xs + 1).toNat := by omega
    have hc := count_le xs j d
    refine ⟨_, idx_nat hl, ⟨hx.1, by rw [cnt_len]; omega⟩, ?_⟩
    rw [hd, Int.toNat_natCast, Nat.zero_add]
    refine ⟨_, cnt_get hdm, ⟨by omega, by rw [cnt_len]; omega⟩, by rw [cnt_len]; exact hdm, rfl, by rw [List.length_set], ?_⟩
    rw [wrap_nat (by omega), wrap_id (by omega) (by omega)]
    exact hK hl _ rfl (cnt_succ hl hd hdm)
  · have hj : j = xs.length := by omega
    subst hj
    rw [whole_row]
    simp [cnt, m_hist]
theorem sound_histogram : MSound Try.prog 68 s_histogram :=
  MSound.mkM tabTOK (envCons sound_max envNil) mixed Try.func68 (by kernel_rfl) (by kernel_rfl) fun x h => p_histogram x.1 h
theorem wf_small {t : TT} (hs : shortT t) (h : m_wellFormed t = true) : small t.2.2.1 := by
  obtain ⟨h1, h2, h3, h4⟩ := dec_iff.1 h
  refine ⟨by omega, hs.2.2, fun x hx => ?_⟩
  obtain ⟨j, hj, rfl⟩ := List.getElem_of_mem hx
  exact (h4 j (by omega) hj).2
theorem p_implHist (a : List Int) (b : List (List Int)) (c : List Int) (h : shortT (a, b, c, ())) : fnMW tabT (look [(21, s_wellFormed), (68, s_histogram)]) s_implHist Try.f30 (a, b, c, ()) (fun (z : (List Int × Unit) × Unit) => z = ((m_tableHist (a, b, c, ()), ()), ())) := by
  refine Eq.mp (w_implHist a b c _) ⟨_, if_pos h, ⟨fun hn => ?_, fun hn => ?_⟩⟩
  · have hn := bnot_true hn
    show ((List.take 0 (List.drop 0 []), ()), ()) = _
    unfold m_tableHist
    rw [if_neg hn]; rfl
  · have hn := bnot_false hn
    refine ⟨_, if_pos (wf_small h hn), ?_⟩
    simp only [whole_row]
    unfold m_tableHist
    rw [if_pos hn]
theorem sound_implHist : MSound Try.prog 30 s_implHist :=
  MSound.mkM tabTOK (envCons sound_implWellFormed (envConsM sound_histogram envNil)) mixed Try.func30 (by kernel_rfl) (by kernel_rfl) fun x h => p_implHist x.1 x.2.1 x.2.2.1 h
theorem p_specHist (t : TT) (h : shortT t) : fnW tab (look [(20, s_wellFormed)]) s_specHist Try.f29 (t, ()) (fun (z : List Int) => z = m_tableHist t) := by
  refine Eq.mp (w_specHist t _) ⟨_, if_pos h, ⟨fun hn => ?_, fun hn => ?_⟩⟩
  · have hn := bnot_true hn
    show List.take 0 (List.drop 0 []) = _
    unfold m_tableHist
    rw [if_neg hn]; rfl
  · have hn := bnot_false hn
    obtain ⟨h1, h2, h3⟩ := wf_small h hn
    have h2' := h2
    unfold short at h2'
    refine ⟨rfl, rfl, ?_⟩
    refine loop_range t.2.2.1.length (fun v => v.1) (fun j v => v.2.1 = t.1 ∧ v.2.2.1 = t.2.1 ∧ v.2.2.2.1 = t.2.2.1 ∧ ∃ m : Nat, v.2.2.2.2.1 = cnt t.2.2.1 j m ∧ (∀ x ∈ t.2.2.1.take j, x < m) ∧ ((m = 0 ∧ j = 0) ∨ ∃ x ∈ t.2.2.1.take j, x + 1 = (m : Int))) rfl
      ⟨rfl, rfl, rfl, 0, by simp [cnt], by simp, .inl ⟨rfl, rfl⟩⟩ ?_
    rintro j ⟨i, a, b, c, ys, ⟨⟩⟩ K hj hi ⟨e1, e2, e3, m, e4, e5, e6⟩ hK
    dsimp only at hi e1 e2 e3 e4 ⊢
    subst hi; subst e1; subst e2; subst e3; subst e4
    refine Br.dec (fun hl => ?_) fun hl => ?_
    · have hl : j < t.2.2.1.length := by omega
      have hx := h3 _ (List.getElem_mem hl)
      obtain ⟨d, hd⟩ := Int.eq_ofNat_of_zero_le hx.1
      have hm : m ≤ 3001 := by
        rcases e6 with ⟨h, _⟩ | ⟨x, h, h'⟩
        · omega
        · have := h3 x (List.mem_of_mem_take h); omega
      refine ⟨rfl, rfl, ?_⟩
      refine ⟨fun v => v.1 = t.1 ∧ v.2.1 = t.2.1 ∧ v.2.2.1 = t.2.2.1 ∧ ∃ n : Nat, v.2.2.2.1 = cnt t.2.2.1 j n ∧ m ≤ n ∧ n ≤ max m (d + 1), fun v => 3002 - v.2.2.2.1.length, ⟨rfl, rfl, rfl, m, rfl, Nat.le_refl _, by omega⟩, ?_⟩
      rintro ⟨a, b, c, zs, ⟨⟩⟩ ⟨f1, f2, f3, n, f4, f5, f6⟩
      dsimp only at f1 f2 f3 f4 ⊢
      subst f1; subst f2; subst f3; subst f4
      refine ⟨_, idx_nat hl, Br.dec (fun hle => ?_) fun hle => ?_⟩
      · rw [cnt_len, hd] at hle
        have hn : n ≤ d := by omega
        have hone : List.take 1 (List.drop 0 [(0 : Int)]) = [0] := rfl
        have hwide : ∀ x ∈ t.2.2.1.take j, x < (n : Int) := fun x hx => by have := e5 x hx; omega
        rw [hone, cnt_wide hwide]
        refine ⟨rfl, rfl, by rw [cnt_len]; show n + 1 ≤ 4294967296; omega, rfl, rfl, ⟨rfl, rfl, rfl, n + 1, rfl, by omega, by omega⟩, ?_⟩
        simp only [cnt_len]
        omega
      · rw [cnt_len, hd] at hle
        have hdn : d < n := by omega
        have hc := count_le t.2.2.1 j d
        refine ⟨_, idx_nat hl, ⟨hx.1, by rw [cnt_len, hd]; omega⟩, ?_⟩
        rw [hd, Int.toNat_natCast, Nat.zero_add]
        refine ⟨_, cnt_get hdn, ⟨by omega, by rw [cnt_len]; omega⟩, by rw [cnt_len]; exact hdn, rfl, by rw [List.length_set], ?_⟩
        rw [wrap_nat (by omega), wrap_id (by omega) (by omega), cnt_succ hl hd hdn]
        refine hK hl _ rfl ⟨rfl, rfl, rfl, n, rfl, fun x hx => ?_, .inr ?_⟩
        · rw [List.take_succ_eq_append_getElem hl] at hx
          rcases List.mem_append.1 hx with hx | hx
          · have := e5 x hx; omega
          · have := List.mem_singleton.1 hx; rw [this, hd]; omega
        · by_cases hmd : m ≤ d
          · exact ⟨t.2.2.1[j], by rw [List.take_succ_eq_append_getElem hl]; exact List.mem_append_right _ (List.mem_singleton.2 rfl), by rw [hd]; omega⟩
          · rcases e6 with ⟨h, _⟩ | ⟨x, h, h'⟩
            · omega
            · exact ⟨x, by rw [List.take_succ_eq_append_getElem hl]; exact List.mem_append_left _ h, by rw [h']; omega⟩
    · have hj : j = t.2.2.1.length := by omega
      subst hj
      rw [whole_row]
      unfold m_tableHist
      rw [if_pos hn]
      rw [List.take_length] at e5 e6
      have hmm : m = (m_max t.2.2.1 + 1).toNat := by
        have hb := m_max_mem h1
        have h4 := e5 _ hb
        rcases e6 with ⟨_, h⟩ | ⟨x, h, h'⟩
        · omega
        · have := m_max_ge h; omega
      rw [hmm]
      simp [cnt, m_hist]
theorem sound_specHist : Sound Try.prog 29 s_specHist :=
  Sound.mkS tabOK (envCons sound_specWellFormed envNil) mixed Try.func29 (by kernel_rfl) (by kernel_rfl) fun x h => p_specHist x.1 h
theorem m_tableHist_short (t : TT) (h : shortT t) : short (m_tableHist t) := by
  unfold m_tableHist short
  split
  · rename_i hn
    have := small_max (wf_small h hn)
    simp only [m_hist, List.length_map, List.length_range]
    omega
  · simp
theorem m_equalInts_self (a : List Int) : m_equalInts a a = true := by simp [m_equalInts]
theorem sz_low {n : Nat} {room : Int} (h : ¬ m_sz n room < 0) : m_sz n room = room - n ∧ (n : Int) ≤ room := by
  unfold m_sz at *
  split at h
  · exact absurd (show (-1 : Int) < 0 by decide) h
  · rename_i h1; rw [if_neg h1]; exact ⟨rfl, by omega⟩
theorem szGo_low : ∀ (xs : List (List Int)) (room : Int), 0 ≤ room → ¬ szGo xs room < 0 → szGo xs room = room - m_total xs
  | [], room, _, _ => by simp [szGo, m_total]
  | r :: xs, room, h0, h => by
    simp only [szGo, m_total] at h ⊢
    split at h
    · exact absurd (show (-1 : Int) < 0 by decide) h
    · rename_i h1
      rw [if_neg h1]
      have e1 := sz_low (n := r.length) h1
      have e1 : m_szL r room = room - r.length ∧ (r.length : Int) ≤ room := e1
      rw [szGo_low xs _ (by rw [e1.1]; omega) h, e1.1]
      omega
theorem szLL_low {xs : List (List Int)} {room : Int} (h : ¬ m_szLL xs room < 0) : m_szLL xs room = room - xs.length - m_total xs := by
  unfold m_szLL at *
  split at h
  · exact absurd (show (-1 : Int) < 0 by decide) h
  · rename_i h1
    rw [if_neg h1]
    have e1 := sz_low h1
    rw [szGo_low xs _ (by rw [e1.1]; omega) h, e1.1]
theorem sz_ok {t : TT} {room : Int} (h : ¬ m_szTable t room < 0) : ((List.length t.1 + m_total t.2.1 + List.length t.2.2.1 : Nat) : Int) ≤ room := by
  unfold m_szTable at h
  split at h
  · exact absurd (show (-1 : Int) < 0 by decide) h
  · rename_i h1
    split at h
    · exact absurd (show (-1 : Int) < 0 by decide) h
    · rename_i h2
      split at h
      · exact absurd (show (-1 : Int) < 0 by decide) h
      · rename_i h3
        have e1 : m_szL t.1 room = room - t.1.length ∧ _ := sz_low (n := t.1.length) h1
        have e2 := szLL_low h2
        have e3 : m_szL t.2.2.1 (m_szLL t.2.1 (m_szL t.1 room)) = m_szLL t.2.1 (m_szL t.1 room) - t.2.2.1.length ∧ _ := sz_low (n := t.2.2.1.length) h3
        omega
theorem whole_marks (k : Int) (n : Nat) : List.take n (List.drop 0 (m_marks k n)) = m_marks k n := by rw [List.drop_zero, List.take_of_length_le (by rw [m_marks_len]; exact Nat.le_refl _)]
theorem low_one : low 1 := ⟨by decide, by decide⟩
theorem p_lawHist (t : TT) (h : shortT t) : fnW tab (look [(15, s_szTable), (29, s_specHist), (30, s_implHist), (17, ASpec.b s_toTable s_toTablem), (28, s_equalInts), (19, s_eqTable), (31, s_markTable), (32, s_markL), (33, s_heldL)]) s_lawT Try.f6 (t, ()) (fun (z : Bool) => z = true) := by
  have h' : shortT (t.1, t.2.1, t.2.2.1, ()) := h
  refine Eq.mp (w_lawHist t _) ⟨_, if_pos ⟨h', ⟨show (0 : Int) ≤ 1048576 by omega, show (1048576 : Int) ≤ 4294967296 by omega⟩⟩, Br.dec (fun _ => rfl) fun hsz => ?_⟩
  have hsz := sz_ok hsz
  dsimp only at hsz
  have hlow : low (1 + ((List.length t.1 + m_total t.2.1 + List.length t.2.2.1 : Nat) : Int)) := ⟨by omega, by omega⟩
  refine ⟨_, if_pos h', ?_⟩
  simp only [whole_row]
  refine ⟨_, if_pos h', _, if_pos h', ?_⟩
  simp only [whole_row]
  have hs := m_tableHist_short _ h'
  generalize hg : m_tableHist (t.1, t.2.1, t.2.2.1, ()) = g at hs
  refine ⟨_, if_pos h', ?_⟩
  simp only [whole_row, hg]
  refine ⟨_, if_pos hs, ⟨fun he => absurd (m_equalInts_self _) (bnot_true he), fun _ => ?_⟩⟩
  refine ⟨_, if_pos h', _, if_pos h', ⟨fun he => absurd (m_eqT_self _) (bnot_true he), fun _ => ?_⟩⟩
  refine ⟨trivial, trivial, trivial, trivial, trivial, trivial, _, if_pos ⟨h', low_one, hlow⟩, ⟨m_marks_len _ _, trivial⟩, ⟨m_marksLL_len _ _, trivial⟩, ⟨m_marks_len _ _, trivial⟩, Br.dec (fun hn => absurd hlow.1 (Int.not_le.2 hn)) fun _ => ?_⟩
  refine ⟨_, if_pos hs, ⟨fun he => absurd (m_equalInts_self _) (bnot_true he), fun _ => ?_⟩⟩
  refine ⟨trivial, trivial, _, if_pos ⟨hs, low_one⟩, ⟨m_marks_len _ _, trivial⟩, ?_⟩
  simp only [whole_marks]
  have hsm : short (m_marks 1 g.length) := by unfold short at *; rw [m_marks_len]; exact hs
  refine ⟨_, if_pos ⟨hsm, low_one⟩, ?_⟩
  simp only [m_heldL_marks]
  refine Br.dec (fun hn => by omega) fun _ => ⟨fun he => by simp at he, fun _ => ?_⟩
  refine ⟨_, if_pos h', ?_⟩
  simp only [whole_row]
  refine ⟨_, if_pos h', ?_⟩
  simp only [whole_row, hg]
  refine ⟨_, if_pos hs, ⟨fun he => absurd (m_equalInts_self _) (bnot_true he), fun _ => ?_⟩⟩
  refine ⟨_, if_pos ⟨hsm, low_one⟩, ?_⟩
  simp only [m_heldL_marks]
  exact Br.dec (fun hn => by omega) fun _ => ⟨fun he => by simp at he, fun _ => trivial⟩
theorem sound_lawHist : Sound Try.prog 6 s_lawT :=
  Sound.mkS tabOK (envCons sound_szTable (envCons sound_specHist (envConsM sound_implHist (envConsB sound_toTable sound_toTablem (envCons sound_eqL (envCons sound_eqTable (envConsM sound_markTable (envConsM sound_markL (envCons sound_heldL envNil))))))))) mixed Try.func6 (by kernel_rfl) (by kernel_rfl) fun x h => p_lawHist x.1 h
end Go.Proofs.Ytingphpncocimaa
