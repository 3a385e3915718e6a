/-
  Contracts: point lists, patterns, tables.
-/
import Derived.Test.YtingphpncocimaaF2
namespace Go.Proofs.Ytingphpncocimaa
open Go.RowKit

def m_index : List Int → Int → Int → Int
  | [], _, _ => -1
  | y :: r, x, i => if y = x then i else m_index r x (i + 1)
noncomputable abbrev s_index : Spec := mkS (.pair tL (.pair tI .unit)) tI false true (fun x => short x.1) (fun x => m_index x.1 x.2.1 0)
def PL (n : Int) (xs : List Int) (k : Nat) : Prop := ∀ j (h : j < xs.length), j < k → 0 ≤ xs[j] ∧ xs[j] ≤ n - 1 ∧ (0 < j → xs[j - 1] < xs[j])
def DL (n : Int) (xs : List Int) (k : Nat) : Prop := ∀ j (h : j < xs.length), j < k → 0 ≤ xs[j] ∧ xs[j] ≤ n - 1 ∧ xs[j] ∉ xs.take j
noncomputable def dec (p : Prop) : Bool := @decide p (Classical.propDecidable p)
theorem dec_true {p : Prop} (h : p) : true = dec p := (@decide_eq_true p (Classical.propDecidable p) h).symm
theorem dec_false {p : Prop} (h : ¬ p) : false = dec p := (@decide_eq_false p (Classical.propDecidable p) h).symm
theorem dec_iff {p : Prop} : dec p = true ↔ p := @decide_eq_true_iff p (Classical.propDecidable p)
theorem dec_not {p : Prop} : dec p = false ↔ ¬ p := @decide_eq_false_iff_not p (Classical.propDecidable p)
def nOK (n : Int) : Prop := 0 ≤ n ∧ n ≤ 4294967296
noncomputable def m_pointList (n : Int) (xs : List Int) : Bool := dec (0 < xs.length ∧ PL n xs xs.length)
noncomputable def m_distinct (n : Int) (xs : List Int) (m : Int) : Bool := dec ((xs.length : Int) = m ∧ DL n xs xs.length)
def WF (t : TT) : Prop := m_pointList 20 t.1 = true ∧ (1 ≤ t.2.1.length ∧ t.2.1.length ≤ 3000) ∧ t.2.2.1.length = t.2.1.length ∧
  ∀ j (h1 : j < t.2.1.length) (h2 : j < t.2.2.1.length), m_distinct 20 t.2.1[j] t.1.length = true ∧ 0 ≤ t.2.2.1[j] ∧ t.2.2.1[j] ≤ 3000
noncomputable def m_wellFormed (t : TT) : Bool := dec (WF t)
noncomputable abbrev s_pointList : Spec := mkS (.pair tI (.pair tL .unit)) .bool false true (fun x => nOK x.1 ∧ short x.2.1) (fun x => m_pointList x.1 x.2.1)
noncomputable abbrev s_distinct : Spec := mkS (.pair tI (.pair tL (.pair tI .unit))) .bool false true (fun x => nOK x.1 ∧ short x.2.1) (fun x => m_distinct x.1 x.2.1 x.2.2.1)
noncomputable abbrev s_isPattern : Spec := mkS (.pair tI (.pair tI (.pair tL .unit))) .bool false true (fun x => nOK x.1 ∧ short x.2.2.1) (fun x => m_distinct x.1 x.2.2.1 x.2.1)
noncomputable abbrev s_lenLL : Spec := mkS (.pair tLL .unit) tI false true (fun _ => True) (fun x => (List.length x.1 : Int))
noncomputable abbrev s_wellFormed : Spec := mkS (.pair tTable .unit) .bool false true (fun x => shortT x.1) (fun x => m_wellFormed x.1)
noncomputable abbrev s_lawT : Spec := mkS (.pair tTable .unit) .bool false true (fun x => shortT x.1) (fun _ => true)
theorem w_index (xs : List Int) (x : Int) (P : Int → Prop) : (WLoop
  (fun (v3 : Int × PUnit) (k4 : Int × PUnit → Prop) =>
    Br (decide (v3.fst < (↑xs.length : Int))) (∃ (y5 : Int), idx xs v3.fst = some y5 ∧ Br (x == y5) (P v3.fst) (k4 (IntKind.i64.wrap (v3.fst + (1 : Int)), ()))) (P (-1 : Int)))
  ((0 : Int), PUnit.unit)) = fnW tab (look []) s_index Try.f74 (xs, x, ()) P := by kernel_rfl
theorem w_contains (xs : List Int) (x : Int) (P : Bool → Prop) : (∃ (y3 : Int), s_index.fn (xs, x, ()) = some y3 ∧ P (decide (y3 ≥ (0 : Int)))) = fnW tab (look [(74, s_index)]) s_containsInt Try.f79 (xs, x, ()) P := by kernel_rfl
theorem w_isPointList (n : Int) (xs : List Int) (P : Bool → Prop) : (∃ (y3 : Bool),
  s_inRange.fn ((↑xs.length : Int), (1 : Int), n, ()) = some y3 ∧
    Br (!y3) (P false)
      (WLoop
        (fun (v4 : Int × PUnit) (k5 : Int × PUnit → Prop) =>
          Br (decide (v4.fst < (↑xs.length : Int)))
            (∃ (y6 : Int),
              idx xs v4.fst = some y6 ∧
                ∃ (y7 : Bool),
                  s_inRange.fn (y6, (0 : Int), IntKind.i64.wrap (n - (1 : Int)), ()) = some y7 ∧
                    Br (!y7) (P false)
                      (Br (decide (v4.fst > (0 : Int)))
                        (∃ (y8 : Int),
                          idx xs v4.fst = some y8 ∧
                            ∃ (y9 : Int), idx xs (IntKind.i64.wrap (v4.fst - (1 : Int))) = some y9 ∧ Br (decide (y8 ≤ y9)) (P false) (k5 (IntKind.i64.wrap (v4.fst + (1 : Int)), ())))
                        (k5 (IntKind.i64.wrap (v4.fst + (1 : Int)), ()))))
            (P true))
        ((0 : Int), PUnit.unit))) = fnW tab (look [(60, s_inRange)]) s_pointList Try.f59 (n, xs, ()) P := by kernel_rfl
theorem w_isTracked (n : Int) (xs : List Int) (P : Bool → Prop) : (WLoop
  (fun (v3 : Int × PUnit) (k4 : Int × PUnit → Prop) =>
    Br (decide (v3.fst < (↑xs.length : Int)))
      (∃ (y5 : Int),
        idx xs v3.fst = some y5 ∧
          ∃ (y6 : Bool),
            s_isPoint.fn (n, y5, ()) = some y6 ∧
              Br (!y6) (P false)
                (Br (decide (v3.fst > (0 : Int)))
                  (∃ (y7 : Int), idx xs (IntKind.i64.wrap (v3.fst - (1 : Int))) = some y7 ∧ Br (decide (y7 ≥ y5)) (P false) (k4 (IntKind.i64.wrap (v3.fst + (1 : Int)), ())))
                  (k4 (IntKind.i64.wrap (v3.fst + (1 : Int)), ()))))
      (P (decide ((↑xs.length : Int) > (0 : Int)))))
  ((0 : Int), PUnit.unit)) = fnW tab (look [(103, s_isPoint)]) s_pointList Try.f62 (n, xs, ()) P := by kernel_rfl
theorem w_isDistinctList (n : Int) (xs : List Int) (m : Int) (P : Bool → Prop) : (Br ((↑xs.length : Int) != m) (P false)
  (WLoop
    (fun (v4 : Int × PUnit) (k5 : Int × PUnit → Prop) =>
      Br (decide (v4.fst < (↑xs.length : Int)))
        (∃ (y6 : Int),
          idx xs v4.fst = some y6 ∧
            ∃ (y7 : Bool),
              s_inRange.fn (y6, (0 : Int), IntKind.i64.wrap (n - (1 : Int)), ()) = some y7 ∧
                Br (!y7) (P false)
                  (((0 : Int) ≤ (0 : Int) ∧ (0 : Int) ≤ v4.fst ∧ v4.fst ≤ (↑xs.length : Int)) ∧
                    ∃ (y8 : Int),
                      idx xs v4.fst = some y8 ∧
                        ∃ (y9 : Bool),
                          s_containsInt.fn (List.drop (Int.toNat (0 : Int)) (List.take v4.fst.toNat xs), y8, ()) = some y9 ∧ Br y9 (P false) (k5 (IntKind.i64.wrap (v4.fst + (1 : Int)), ()))))
        (P true))
    ((0 : Int), PUnit.unit))) = fnW tab (look [(60, s_inRange), (102, s_containsInt)]) s_distinct Try.f61 (n, xs, m, ()) P := by kernel_rfl
theorem w_isPattern (n m : Int) (xs : List Int) (P : Bool → Prop) : (WLoop
  (fun (v4 : Int × PUnit) (k5 : Int × PUnit → Prop) =>
    Br (decide (v4.fst < (↑xs.length : Int)))
      (∃ (y6 : Int),
        idx xs v4.fst = some y6 ∧
          ∃ (y7 : Bool),
            s_isPoint.fn (n, y6, ()) = some y7 ∧
              Br (!y7) (P false)
                (((0 : Int) ≤ (0 : Int) ∧ (0 : Int) ≤ v4.fst ∧ v4.fst ≤ (↑xs.length : Int)) ∧
                  ∃ (y8 : Bool), s_containsInt.fn (List.drop (Int.toNat (0 : Int)) (List.take v4.fst.toNat xs), y6, ()) = some y8 ∧ Br y8 (P false) (k5 (IntKind.i64.wrap (v4.fst + (1 : Int)), ()))))
      (P ((↑xs.length : Int) == m)))
  ((0 : Int), PUnit.unit)) = fnW tab (look [(103, s_isPoint), (79, s_containsInt)]) s_isPattern Try.f65 (n, m, xs, ()) P := by kernel_rfl
theorem w_lenLL (xs : List (List Int)) (P : Int → Prop) : (P (↑xs.length : Int)) = fnW tab (look []) s_lenLL Try.f64 (xs, ()) P := by kernel_rfl
theorem w_specWellFormed (t : List Int × List (List Int) × List Int × Unit) (P : Bool → Prop) : (∃ (y2 : Bool),
  s_pointList.fn ((20 : Int), t.fst, ()) = some y2 ∧
    Br (!y2) (P false)
      (∃ (y3 : Bool),
        s_inRange.fn ((↑t.2.fst.length : Int), (1 : Int), (3000 : Int), ()) = some y3 ∧
          Br (!y3) (P false)
            (Br ((↑t.snd.2.fst.length : Int) != (↑t.2.fst.length : Int)) (P false)
              (WLoop
                (fun (v4 : Int × List Int × List (List Int) × List Int × PUnit) (k5 : Int × List Int × List (List Int) × List Int × PUnit → Prop) =>
                  Br (decide (v4.fst < (↑t.2.fst.length : Int)))
                    (∃ (y6 : List Int),
                      idx v4.snd.2.fst v4.fst = some y6 ∧
                        ∃ (y7 : Bool),
                          s_distinct.fn ((20 : Int), y6, (↑v4.2.fst.length : Int), ()) = some y7 ∧
                            Br (!y7) (P false)
                              (∃ (y8 : Int),
                                idx v4.2.snd.2.fst v4.fst = some y8 ∧
                                  ∃ (y9 : Bool),
                                    s_inRange.fn (y8, (0 : Int), (3000 : Int), ()) = some y9 ∧
                                      Br (!y9) (P false) (k5 (IntKind.i64.wrap (v4.fst + (1 : Int)), v4.2.fst, v4.snd.2.fst, v4.2.snd.2.fst, ()))))
                    (P true))
                ((0 : Int), t.fst, t.2.fst, t.snd.2.fst, PUnit.unit))))) = fnW tab (look [(59, s_pointList), (60, s_inRange), (61, s_distinct)]) s_wellFormed Try.f20 (t, ()) P := by kernel_rfl
theorem w_implWellFormed (t : List Int × List (List Int) × List Int × Unit) (P : Bool → Prop) : (∃ (y2 : Bool),
  s_pointList.fn ((20 : Int), t.fst, ()) = some y2 ∧
    Br (!y2) (P false)
      (Br ((↑t.2.fst.length : Int) != (↑t.snd.2.fst.length : Int)) (P false)
        (∃ (y3 : Int),
          s_lenLL.fn (t.2.fst, ()) = some y3 ∧
            ∃ (y4 : Bool),
              s_inRange.fn (y3, (1 : Int), (3000 : Int), ()) = some y4 ∧
                Br (!y4) (P false)
                  (WLoop
                    (fun (v5 : Int × List Int × List (List Int) × List Int × PUnit) (k6 : Int × List Int × List (List Int) × List Int × PUnit → Prop) =>
                      Br (decide (v5.fst < (↑t.2.fst.length : Int)))
                        (∃ (y7 : List Int),
                          idx t.2.fst v5.fst = some y7 ∧
                            ∃ (y8 : Bool),
                              s_isPattern.fn ((20 : Int), (↑v5.2.fst.length : Int), y7, ()) = some y8 ∧
                                Br (!y8) (P false)
                                  (∃ (y9 : Int),
                                    idx v5.2.snd.2.fst v5.fst = some y9 ∧
                                      ∃ (y10 : Bool),
                                        s_inRange.fn (y9, (0 : Int), (3000 : Int), ()) = some y10 ∧
                                          Br (!y10) (P false) (k6 (IntKind.i64.wrap (v5.fst + (1 : Int)), v5.2.fst, v5.snd.2.fst, v5.2.snd.2.fst, ()))))
                        (P true))
                    ((0 : Int), t.fst, t.2.fst, t.snd.2.fst, PUnit.unit))))) = fnW tab (look [(62, s_pointList), (63, s_inRange), (65, s_isPattern), (64, s_lenLL)]) s_wellFormed Try.f21 (t, ()) P := by kernel_rfl
theorem w_lawWellFormed (t : List Int × List (List Int) × List Int × Unit) (P : Bool → Prop) : (∃ (y2 : Int),
  s_szTable.fn ((t.fst, t.2.fst, t.snd.2.fst, ()), (1048576 : Int), ()) = some y2 ∧
    Br (decide (y2 < (0 : Int))) (P true)
      (∃ (y3 : List Int × List (List Int) × List Int × PUnit),
        s_toTable.fn ((t.fst, t.2.fst, t.snd.2.fst, ()), ()) = some y3 ∧
          ∃ (y4 : Bool),
            s_wellFormed.fn (y3, ()) = some y4 ∧
              ∃ (y5 : List Int × List (List Int) × List Int × PUnit),
                s_toTable.fn ((t.fst, t.2.fst, t.snd.2.fst, ()), ()) = some y5 ∧
                  ∃ (y6 : Bool),
                    s_wellFormed.fn ((y5.fst, y5.2.fst, y5.snd.2.fst, ()), ()) = some y6 ∧
                      Br (!y6 == y4) (P false)
                        (∃ (y7 : List Int × List (List Int) × List Int × PUnit),
                          s_toTable.fn ((t.fst, t.2.fst, t.snd.2.fst, ()), ()) = some y7 ∧
                            ∃ (y8 : Bool), s_eqTable.fn ((y5.fst, y5.2.fst, y5.snd.2.fst, ()), y7, ()) = some y8 ∧ Br (!y8) (P false) (P true)))) = fnW tab (look [(15, s_szTable), (20, s_wellFormed), (21, s_wellFormed), (17, s_toTable), (19, s_eqTable)]) s_lawT Try.f4 (t, ()) P := by kernel_rfl
theorem m_index_neg : ∀ (xs : List Int) (x i : Int), 0 ≤ i → (m_index xs x i < 0 ↔ x ∉ xs)
  | [], x, i, _ => by simp [m_index]
  | y :: r, x, i, h => by
    simp only [m_index]
    split
    · rename_i hy; subst hy; simp; omega
    · rename_i hy
      rw [m_index_neg r x (i + 1) (by omega)]
      simp only [List.mem_cons, not_or]
      exact ⟨fun h => ⟨fun e => hy e.symm, h⟩, fun h => h.2⟩
theorem p_index (xs : List Int) (x : Int) (h : short xs) : fnW tab (look []) s_index Try.f74 (xs, x, ()) (fun (z : Int) => z = m_index xs x 0) := by
  unfold short at h
  refine Eq.mp (w_index xs x _) ?_
  refine loop_range xs.length (fun v => v.1) (fun j _ => m_index (xs.drop j) x j = m_index xs x 0) rfl (by simp) ?_
  rintro j ⟨i, ⟨⟩⟩ K hj hi hR hK
  dsimp only at hi ⊢
  subst hi
  refine Br.dec (fun hl => ?_) fun hl => ?_
  · have hl : j < xs.length := by omega
    rw [List.drop_eq_getElem_cons hl] at hR
    simp only [m_index] at hR
    refine ⟨_, idx_nat hl, ⟨fun he => ?_, fun he => ?_⟩⟩
    · simp only [beq_iff_eq] at he
      rw [if_pos he.symm] at hR
      exact hR
    · simp only [beq_eq_false_iff_ne, ne_eq] at he
      rw [if_neg (fun e => he e.symm)] at hR
      rw [wrap_nat (by omega)]
      exact hK hl _ rfl (by push_cast; exact hR)
  · have : j = xs.length := by omega
    subst this
    rw [List.drop_length] at hR
    exact hR
theorem sound_index : Sound Try.prog 74 s_index :=
  Sound.mkS tabOK envNil mixed Try.func74 (by kernel_rfl) (by kernel_rfl) fun x h => p_index x.1 x.2.1 h
theorem p_contains (xs : List Int) (x : Int) (h : short xs) : fnW tab (look [(74, s_index)]) s_containsInt Try.f79 (xs, x, ()) (fun (z : Bool) => z = m_containsInt xs x) := by
  refine Eq.mp (w_contains xs x _) ⟨_, if_pos h, ?_⟩
  have := m_index_neg xs x 0 (Int.le_refl 0)
  show decide (m_index xs x 0 ≥ 0) = decide (x ∈ xs)
  by_cases hx : x ∈ xs
  · rw [decide_eq_true hx]
    exact decide_eq_true (by have := mt this.1 (fun h => h hx); omega)
  · rw [decide_eq_false hx]
    exact decide_eq_false (by have := this.2 hx; omega)
theorem sound_contains : Sound Try.prog 79 s_containsInt :=
  Sound.mkS tabOK (envCons sound_index envNil) mixed Try.func79 (by kernel_rfl) (by kernel_rfl) fun x h => p_contains x.1 x.2.1 h
theorem p_lenLL (xs : List (List Int)) (_ : True) : fnW tab (look []) s_lenLL Try.f64 (xs, ()) (fun (z : Int) => z = (xs.length : Int)) := Eq.mp (w_lenLL xs _) rfl
theorem sound_lenLL : Sound Try.prog 64 s_lenLL :=
  Sound.mkS tabOK envNil mixed Try.func64 (by kernel_rfl) (by kernel_rfl) fun x h => p_lenLL x.1 h
theorem m_point_iff {n x : Int} (hn : nOK n) : m_isPoint n x = true ↔ 0 ≤ x ∧ x ≤ n - 1 := by
  unfold m_isPoint nOK at *
  rw [wrap_id (by omega) (by omega), decide_eq_true_iff]
theorem m_range_iff {x a b : Int} : m_inRange x a b = true ↔ a ≤ x ∧ x ≤ b := decide_eq_true_iff
theorem bnot_true {b : Bool} (h : (!b) = true) : ¬ b = true := by cases b <;> simp_all
theorem bnot_false {b : Bool} (h : (!b) = false) : b = true := by cases b <;> simp_all
theorem pl_len {n : Int} {xs : List Int} (h : PL n xs xs.length) : ∀ j (hj : j < xs.length), (j : Int) ≤ xs[j]
  | 0, hj => (h 0 hj hj).1
  | j + 1, hj => by
    have h1 := pl_len h j (by omega)
    have h2 := (h (j + 1) hj hj).2.2 (by omega)
    simp only [Nat.add_sub_cancel] at h2
    omega
theorem pl_step {n : Int} {xs : List Int} {j : Nat} (hl : j < xs.length) (h : PL n xs j) (h1 : 0 ≤ xs[j]) (h2 : xs[j] ≤ n - 1) (h3 : 0 < j → xs[j - 1] < xs[j]) : PL n xs (j + 1) := by
  intro i hi hij
  by_cases e : i = j
  · subst e; exact ⟨h1, h2, h3⟩
  · exact h i hi (by omega)
theorem p_isTracked (n : Int) (xs : List Int) (h : nOK n ∧ short xs) : fnW tab (look [(103, s_isPoint)]) s_pointList Try.f62 (n, xs, ()) (fun (z : Bool) => z = m_pointList n xs) := by
  obtain ⟨hn, h⟩ := h
  unfold short at h
  refine Eq.mp (w_isTracked n xs _) ?_
  refine loop_range xs.length (fun v => v.1) (fun j _ => PL n xs j) rfl (fun j _ hj => absurd hj (Nat.not_lt_zero _)) ?_
  rintro j ⟨i, ⟨⟩⟩ K hj hi hR hK
  dsimp only at hi ⊢
  subst hi
  refine Br.dec (fun hl => ?_) fun hl => ?_
  · have hl : j < xs.length := by omega
    refine ⟨_, idx_nat hl, _, if_pos trivial, ⟨fun hp => ?_, fun hp => ?_⟩⟩
    · have hp := bnot_true hp
      rw [m_point_iff hn] at hp
      exact dec_false fun hh => hp ⟨(hh.2 j hl hl).1, (hh.2 j hl hl).2.1⟩
    · have hp := bnot_false hp
      rw [m_point_iff hn] at hp
      refine Br.dec (fun h0 => ?_) fun h0 => ?_
      · have h0 : 0 < j := by omega
        rw [wrap_id (by omega) (by omega), show (j : Int) - 1 = ((j - 1 : Nat) : Int) by omega]
        refine ⟨_, idx_nat (by omega), Br.dec (fun hg => ?_) fun hg => ?_⟩
        · exact dec_false fun hh => by have := (hh.2 j hl hl).2.2 h0; omega
        · rw [wrap_nat (by omega)]
          exact hK hl _ rfl (pl_step hl hR hp.1 hp.2 fun _ => by omega)
      · have h0 : j = 0 := by omega
        rw [wrap_nat (by omega)]
        exact hK hl _ rfl (pl_step hl hR hp.1 hp.2 fun h => by omega)
  · have : j = xs.length := by omega
    subst this
    by_cases h0 : 0 < xs.length
    · rw [decide_eq_true (show (xs.length : Int) > 0 by omega)]; exact dec_true ⟨h0, hR⟩
    · rw [decide_eq_false (show ¬ (xs.length : Int) > 0 by omega)]; exact dec_false fun hh => h0 hh.1
theorem sound_isTracked : Sound Try.prog 62 s_pointList :=
  Sound.mkS tabOK (envCons sound_isPoint envNil) mixed Try.func62 (by kernel_rfl) (by kernel_rfl) fun x h => p_isTracked x.1 x.2.1 h
theorem p_isPointList (n : Int) (xs : List Int) (h : nOK n ∧ short xs) : fnW tab (look [(60, s_inRange)]) s_pointList Try.f59 (n, xs, ()) (fun (z : Bool) => z = m_pointList n xs) := by
  obtain ⟨hn, h⟩ := h
  unfold short at h
  refine Eq.mp (w_isPointList n xs _) ⟨_, if_pos trivial, ⟨fun hp => ?_, fun hp => ?_⟩⟩
  · have hp := bnot_true hp
    rw [m_range_iff] at hp
    dsimp only at hp
    refine dec_false fun hh => hp ⟨by omega, ?_⟩
    have := pl_len hh.2 (xs.length - 1) (by omega)
    have := (hh.2 (xs.length - 1) (by omega) (by omega)).2.1
    omega
  · have hp := bnot_false hp
    rw [m_range_iff] at hp
    dsimp only at hp
    refine loop_range xs.length (fun v => v.1) (fun j _ => PL n xs j) rfl (fun j _ hj => absurd hj (Nat.not_lt_zero _)) ?_
    rintro j ⟨i, ⟨⟩⟩ K hj hi hR hK
    dsimp only at hi ⊢
    subst hi
    refine Br.dec (fun hl => ?_) fun hl => ?_
    · have hl : j < xs.length := by omega
      refine ⟨_, idx_nat hl, _, if_pos trivial, ⟨fun hq => ?_, fun hq => ?_⟩⟩
      · have hq := bnot_true hq
        unfold nOK at hn
        rw [m_range_iff, wrap_id (by omega) (by omega)] at hq
        exact dec_false fun hh => hq ⟨(hh.2 j hl hl).1, (hh.2 j hl hl).2.1⟩
      · have hq := bnot_false hq
        unfold nOK at hn
        rw [m_range_iff, wrap_id (by omega) (by omega)] at hq
        refine Br.dec (fun h0 => ?_) fun h0 => ?_
        · have h0 : 0 < j := by omega
          rw [wrap_id (by omega) (by omega), show (j : Int) - 1 = ((j - 1 : Nat) : Int) by omega]
          refine ⟨_, idx_nat hl, _, idx_nat (by omega), Br.dec (fun hg => ?_) fun hg => ?_⟩
          · exact dec_false fun hh => by have := (hh.2 j hl hl).2.2 h0; omega
          · rw [wrap_nat (by omega)]
            exact hK hl _ rfl (pl_step hl hR hq.1 hq.2 fun _ => by omega)
        · rw [wrap_nat (by omega)]
          exact hK hl _ rfl (pl_step hl hR hq.1 hq.2 fun h => by omega)
    · have : j = xs.length := by omega
      subst this
      exact dec_true ⟨by omega, hR⟩
theorem sound_isPointList : Sound Try.prog 59 s_pointList :=
  Sound.mkS tabOK (envCons sound_inRange envNil) mixed Try.func59 (by kernel_rfl) (by kernel_rfl) fun x h => p_isPointList x.1 x.2.1 h
theorem dl_step {n : Int} {xs : List Int} {j : Nat} (hl : j < xs.length) (h : DL n xs j) (h1 : 0 ≤ xs[j]) (h2 : xs[j] ≤ n - 1) (h3 : xs[j] ∉ xs.take j) : DL n xs (j + 1) := by
  intro i hi hij
  by_cases e : i = j
  · subst e; exact ⟨h1, h2, h3⟩
  · exact h i hi (by omega)
theorem short_take {xs : List Int} (h : short xs) (j : Nat) : short (xs.take j) := by
  unfold short at *
  rw [List.length_take]
  omega
theorem p_isDistinctList (n : Int) (xs : List Int) (m : Int) (h : nOK n ∧ short xs) : fnW tab (look [(60, s_inRange), (102, s_containsInt)]) s_distinct Try.f61 (n, xs, m, ()) (fun (z : Bool) => z = m_distinct n xs m) := by
  obtain ⟨hn, hs⟩ := h
  have h := hs
  unfold short at h
  refine Eq.mp (w_isDistinctList n xs m _) ⟨fun hp => ?_, fun hp => ?_⟩
  · simp only [bne_iff_ne, ne_eq] at hp
    exact dec_false fun hh => hp hh.1
  · simp only [bne_eq_false_iff_eq] at hp
    refine loop_range xs.length (fun v => v.1) (fun j _ => DL n xs j) rfl (fun j _ hj => absurd hj (Nat.not_lt_zero _)) ?_
    rintro j ⟨i, ⟨⟩⟩ K hj hi hR hK
    dsimp only at hi ⊢
    subst hi
    refine Br.dec (fun hl => ?_) fun hl => ?_
    · have hl : j < xs.length := by omega
      refine ⟨_, idx_nat hl, _, if_pos trivial, ⟨fun hq => ?_, fun hq => ?_⟩⟩
      · have hq := bnot_true hq
        unfold nOK at hn
        rw [m_range_iff, wrap_id (by omega) (by omega)] at hq
        exact dec_false fun hh => hq ⟨(hh.2 j hl hl).1, (hh.2 j hl hl).2.1⟩
      · have hq := bnot_false hq
        unfold nOK at hn
        rw [m_range_iff, wrap_id (by omega) (by omega)] at hq
        refine ⟨⟨by omega, by omega, by omega⟩, _, idx_nat hl, ?_⟩
        rw [show (Int.toNat 0) = 0 from rfl, List.drop_zero, Int.toNat_natCast]
        refine ⟨_, if_pos (short_take hs j), ⟨fun hc => ?_, fun hc => ?_⟩⟩
        · have hc : decide (xs[j] ∈ xs.take j) = true := hc
          rw [decide_eq_true_iff] at hc
          exact dec_false fun hh => (hh.2 j hl hl).2.2 hc
        · have hc : decide (xs[j] ∈ xs.take j) = false := hc
          rw [decide_eq_false_iff_not] at hc
          rw [wrap_nat (by omega)]
          exact hK hl _ rfl (dl_step hl hR hq.1 hq.2 hc)
    · have : j = xs.length := by omega
      subst this
      exact dec_true ⟨hp, hR⟩
theorem sound_isDistinctList : Sound Try.prog 61 s_distinct :=
  Sound.mkS tabOK (envCons sound_inRange (envCons sound_containsInt envNil)) mixed Try.func61 (by kernel_rfl) (by kernel_rfl) fun x h => p_isDistinctList x.1 x.2.1 x.2.2.1 h
theorem p_isPattern (n m : Int) (xs : List Int) (h : nOK n ∧ short xs) : fnW tab (look [(103, s_isPoint), (79, s_containsInt)]) s_isPattern Try.f65 (n, m, xs, ()) (fun (z : Bool) => z = m_distinct n xs m) := by
  obtain ⟨hn, hs⟩ := h
  have h := hs
  unfold short at h
  refine Eq.mp (w_isPattern n m xs _) ?_
  refine loop_range xs.length (fun v => v.1) (fun j _ => DL n xs j) rfl (fun j _ hj => absurd hj (Nat.not_lt_zero _)) ?_
  rintro j ⟨i, ⟨⟩⟩ K hj hi hR hK
  dsimp only at hi ⊢
  subst hi
  refine Br.dec (fun hl => ?_) fun hl => ?_
  · have hl : j < xs.length := by omega
    refine ⟨_, idx_nat hl, _, if_pos trivial, ⟨fun hq => ?_, fun hq => ?_⟩⟩
    · have hq := bnot_true hq
      rw [m_point_iff hn] at hq
      exact dec_false fun hh => hq ⟨(hh.2 j hl hl).1, (hh.2 j hl hl).2.1⟩
    · have hq := bnot_false hq
      rw [m_point_iff hn] at hq
      refine ⟨⟨by omega, by omega, by omega⟩, ?_⟩
      rw [show (Int.toNat 0) = 0 from rfl, List.drop_zero, Int.toNat_natCast]
      refine ⟨_, if_pos (short_take hs j), ⟨fun hc => ?_, fun hc => ?_⟩⟩
      · have hc : decide (xs[j] ∈ xs.take j) = true := hc
        rw [decide_eq_true_iff] at hc
        exact dec_false fun hh => (hh.2 j hl hl).2.2 hc
      · have hc : decide (xs[j] ∈ xs.take j) = false := hc
        rw [decide_eq_false_iff_not] at hc
        rw [wrap_nat (by omega)]
        exact hK hl _ rfl (dl_step hl hR hq.1 hq.2 hc)
  · have : j = xs.length := by omega
    subst this
    by_cases he : (xs.length : Int) = m
    · rw [beq_iff_eq.2 he]; exact dec_true ⟨he, hR⟩
    · rw [beq_eq_false_iff_ne.2 he]; exact dec_false fun hh => he hh.1
theorem sound_isPattern : Sound Try.prog 65 s_isPattern :=
  Sound.mkS tabOK (envCons sound_isPoint (envCons sound_contains envNil)) mixed Try.func65 (by kernel_rfl) (by kernel_rfl) fun x h => p_isPattern x.1 x.2.1 x.2.2.1 h
theorem nOK20 : nOK 20 := ⟨by omega, by omega⟩
/-- What a table's check has seen so far. -/
def WFk (t : TT) (k : Nat) : Prop := ∀ j (h1 : j < t.2.1.length) (h2 : j < t.2.2.1.length), j < k → m_distinct 20 t.2.1[j] t.1.length = true ∧ 0 ≤ t.2.2.1[j] ∧ t.2.2.1[j] ≤ 3000
theorem wf_step {t : TT} {j : Nat} (hl1 : j < t.2.1.length) (hl2 : j < t.2.2.1.length) (h : WFk t j) (h1 : m_distinct 20 t.2.1[j] t.1.length = true) (h2 : 0 ≤ t.2.2.1[j] ∧ t.2.2.1[j] ≤ 3000) : WFk t (j + 1) := by
  intro i hi hi2 hij
  by_cases e : i = j
  · subst e; exact ⟨h1, h2⟩
  · exact h i hi hi2 (by omega)
theorem p_specWellFormed (t : TT) (h : shortT t) : fnW tab (look [(59, s_pointList), (60, s_inRange), (61, s_distinct)]) s_wellFormed Try.f20 (t, ()) (fun (z : Bool) => z = m_wellFormed t) := by
  obtain ⟨hs1, ⟨hs2, hs2'⟩, hs3⟩ := h
  refine Eq.mp (w_specWellFormed t _) ⟨_, if_pos ⟨nOK20, hs1⟩, ⟨fun hp => ?_, fun hp => ?_⟩⟩
  · exact dec_false fun hh => bnot_true hp hh.1
  · have hp := bnot_false hp
    refine ⟨_, if_pos trivial, ⟨fun hq => ?_, fun hq => ?_⟩⟩
    · have hq := bnot_true hq
      rw [m_range_iff] at hq
      dsimp only at hq
      exact dec_false fun hh => hq ⟨by have := hh.2.1.1; omega, by have := hh.2.1.2; omega⟩
    · have hq := bnot_false hq
      rw [m_range_iff] at hq
      dsimp only at hq
      refine ⟨fun hl => ?_, fun hl => ?_⟩
      · simp only [bne_iff_ne, ne_eq, Int.natCast_inj] at hl
        exact dec_false fun hh => hl hh.2.2.1
      · simp only [bne_eq_false_iff_eq, Int.natCast_inj] at hl
        refine loop_range t.2.1.length (fun v => v.1) (fun j v => v.2 = (t.1, t.2.1, t.2.2.1, ()) ∧ WFk t j) rfl ⟨rfl, fun j _ _ hj => absurd hj (Nat.not_lt_zero _)⟩ ?_
        rintro j ⟨i, v⟩ K hj hi ⟨hv, hR⟩ hK
        dsimp only at hi hv ⊢
        subst hi
        subst hv
        dsimp only
        refine Br.dec (fun hlt => ?_) fun hlt => ?_
        · have hl1 : j < t.2.1.length := by omega
          have hl2 : j < t.2.2.1.length := by omega
          refine ⟨_, idx_nat hl1, _, if_pos ⟨nOK20, hs2' _ (List.getElem_mem hl1)⟩, ⟨fun h1 => ?_, fun h1 => ?_⟩⟩
          · exact dec_false fun hh => bnot_true h1 (hh.2.2.2 j hl1 hl2).1
          · have h1 := bnot_false h1
            refine ⟨_, idx_nat hl2, _, if_pos trivial, ⟨fun h2 => ?_, fun h2 => ?_⟩⟩
            · have h2 := bnot_true h2
              rw [m_range_iff] at h2
              exact dec_false fun hh => h2 (hh.2.2.2 j hl1 hl2).2
            · have h2 := bnot_false h2
              rw [m_range_iff] at h2
              rw [wrap_nat (by omega)]
              exact hK hl1 _ rfl ⟨rfl, wf_step hl1 hl2 hR h1 h2⟩
        · have : j = t.2.1.length := by omega
          subst this
          exact dec_true ⟨hp, ⟨by omega, by omega⟩, hl, fun j h1 h2 => hR j h1 h2 h1⟩
theorem sound_specWellFormed : Sound Try.prog 20 s_wellFormed :=
  Sound.mkS tabOK (envCons sound_isPointList (envCons sound_inRange (envCons sound_isDistinctList envNil))) mixed Try.func20 (by kernel_rfl) (by kernel_rfl) fun x h => p_specWellFormed x.1 h
theorem p_implWellFormed (t : TT) (h : shortT t) : fnW tab (look [(62, s_pointList), (63, s_inRange), (65, s_isPattern), (64, s_lenLL)]) s_wellFormed Try.f21 (t, ()) (fun (z : Bool) => z = m_wellFormed t) := by
  obtain ⟨hs1, ⟨hs2, hs2'⟩, hs3⟩ := h
  refine Eq.mp (w_implWellFormed t _) ⟨_, if_pos ⟨nOK20, hs1⟩, ⟨fun hp => ?_, fun hp => ?_⟩⟩
  · exact dec_false fun hh => bnot_true hp hh.1
  · have hp := bnot_false hp
    refine ⟨fun hl => ?_, fun hl => ?_⟩
    · simp only [bne_iff_ne, ne_eq, Int.natCast_inj] at hl
      exact dec_false fun hh => hl hh.2.2.1.symm
    · simp only [bne_eq_false_iff_eq, Int.natCast_inj] at hl
      refine ⟨_, if_pos trivial, _, if_pos trivial, ⟨fun hq => ?_, fun hq => ?_⟩⟩
      · have hq := bnot_true hq
        rw [m_range_iff] at hq
        dsimp only at hq
        exact dec_false fun hh => hq ⟨by have := hh.2.1.1; omega, by have := hh.2.1.2; omega⟩
      · have hq := bnot_false hq
        rw [m_range_iff] at hq
        dsimp only at hq
        refine loop_range t.2.1.length (fun v => v.1) (fun j v => v.2 = (t.1, t.2.1, t.2.2.1, ()) ∧ WFk t j) rfl ⟨rfl, fun j _ _ hj => absurd hj (Nat.not_lt_zero _)⟩ ?_
        rintro j ⟨i, v⟩ K hj hi ⟨hv, hR⟩ hK
        dsimp only at hi hv ⊢
        subst hi
        subst hv
        dsimp only
        refine Br.dec (fun hlt => ?_) fun hlt => ?_
        · have hl1 : j < t.2.1.length := by omega
          have hl2 : j < t.2.2.1.length := by omega
          refine ⟨_, idx_nat hl1, _, if_pos ⟨nOK20, hs2' _ (List.getElem_mem hl1)⟩, ⟨fun h1 => ?_, fun h1 => ?_⟩⟩
          · exact dec_false fun hh => bnot_true h1 (hh.2.2.2 j hl1 hl2).1
          · have h1 := bnot_false h1
            refine ⟨_, idx_nat hl2, _, if_pos trivial, ⟨fun h2 => ?_, fun h2 => ?_⟩⟩
            · have h2 := bnot_true h2
              rw [m_range_iff] at h2
              exact dec_false fun hh => h2 (hh.2.2.2 j hl1 hl2).2
            · have h2 := bnot_false h2
              rw [m_range_iff] at h2
              rw [wrap_nat (by omega)]
              exact hK hl1 _ rfl ⟨rfl, wf_step hl1 hl2 hR h1 h2⟩
        · have : j = t.2.1.length := by omega
          subst this
          exact dec_true ⟨hp, ⟨by omega, by omega⟩, hl.symm, fun j h1 h2 => hR j h1 h2 h1⟩
theorem sound_implWellFormed : Sound Try.prog 21 s_wellFormed :=
  Sound.mkS tabOK (envCons sound_isTracked (envCons sound_within (envCons sound_isPattern (envCons sound_lenLL envNil)))) mixed Try.func21 (by kernel_rfl) (by kernel_rfl) fun x h => p_implWellFormed x.1 h
theorem m_eqT_self (t : TT) : m_eqT t t = true := by simp [m_eqT]
theorem p_lawWellFormed (t : TT) (h : shortT t) : fnW tab (look [(15, s_szTable), (20, s_wellFormed), (21, s_wellFormed), (17, s_toTable), (19, s_eqTable)]) s_lawT Try.f4 (t, ()) (fun (z : Bool) => z = true) := by
  refine Eq.mp (w_lawWellFormed t _) ⟨_, if_pos ⟨h, ⟨show (0 : Int) ≤ 1048576 by omega, show (1048576 : Int) ≤ 4294967296 by omega⟩⟩, Br.dec (fun _ => rfl) fun _ => ?_⟩
  refine ⟨_, if_pos h, _, if_pos h, _, if_pos h, _, if_pos h, ⟨fun he => ?_, fun _ => ?_⟩⟩
  · refine absurd he ?_
    simp
  · refine ⟨_, if_pos h, _, if_pos h, ⟨fun he => ?_, fun _ => rfl⟩⟩
    exact absurd (m_eqT_self t) (bnot_true he)
theorem sound_lawWellFormed : Sound Try.prog 4 s_lawT :=
  Sound.mkS tabOK (envCons sound_szTable (envCons sound_specWellFormed (envCons sound_implWellFormed (envCons sound_toTable (envCons sound_eqTable envNil))))) mixed Try.func4 (by kernel_rfl) (by kernel_rfl) fun x h => p_lawWellFormed x.1 h
end Go.Proofs.Ytingphpncocimaa
