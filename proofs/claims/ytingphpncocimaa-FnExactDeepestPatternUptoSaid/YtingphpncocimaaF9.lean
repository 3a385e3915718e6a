/-
  Contracts: the laws' helpers that make rows, mark them, and look at the marks.
-/
import Derived.Test.YtingphpncocimaaF7
namespace Go.Proofs.Ytingphpncocimaa
open Go.RowKit

abbrev rL : CK := .row tI 2
abbrev xLL : CK := .xrow tL 22
/-- The marks from k on. -/
def m_marks (k : Int) (n : Nat) : List Int := (List.range n).map fun i => k + (i : Nat)
def m_marksLL : Int → List (List Int) → List (List Int)
  | _, [] => []
  | k, r :: rs => m_marks k r.length :: m_marksLL (k + r.length) rs
def m_total : List (List Int) → Nat
  | [] => 0
  | r :: rs => r.length + m_total rs
def low (k : Int) : Prop := 0 ≤ k ∧ k ≤ 1099511627776
noncomputable abbrev s_markL : MSpec := mkM [none, none] [(true, rL), (false, .dat tI)] false [none] [.dat tI] (fun x => short x.1 ∧ low x.2.1) (fun x => ((x.2.1 + List.length x.1, ()), (m_marks x.2.1 (List.length x.1), ())))
noncomputable abbrev s_markLL : MSpec := mkM [none, none] [(true, xLL), (false, .dat tI)] false [none] [.dat tI] (fun x => shortLL x.1 ∧ low x.2.1 ∧ low (x.2.1 + m_total x.1)) (fun x => ((x.2.1 + m_total x.1, ()), (m_marksLL x.2.1 x.1, ())))
noncomputable abbrev s_markTable : MSpec := mkM [some 3, none] [(true, rL), (true, xLL), (true, rL), (false, .dat tI)] false [none] [.dat tI]
  (fun x => shortT (x.1, x.2.1, x.2.2.1, ()) ∧ low x.2.2.2.1 ∧ low (x.2.2.2.1 + (List.length x.1 + m_total x.2.1 + List.length x.2.2.1 : Nat))) (fun x => ((x.2.2.2.1 + (List.length x.1 + m_total x.2.1 + List.length x.2.2.1 : Nat), ()), (m_marks x.2.2.2.1 (List.length x.1), m_marksLL (x.2.2.2.1 + List.length x.1) x.2.1, m_marks (x.2.2.2.1 + List.length x.1 + m_total x.2.1) (List.length x.2.2.1), ())))
noncomputable abbrev s_markPuzzle : MSpec := mkM [some 3, none] [(false, .dat tI), (false, .dat .str), (true, xLL), (false, .dat tI)] false [none] [.dat tI]
  (fun x => shortLL x.2.2.1 ∧ low x.2.2.2.1 ∧ low (x.2.2.2.1 + m_total x.2.2.1)) (fun x => ((x.2.2.2.1 + m_total x.2.2.1, ()), (m_marksLL x.2.2.2.1 x.2.2.1, ())))
def m_heldL (xs : List Int) (k : Int) : Int := if xs = m_marks k xs.length then k + xs.length else -1
noncomputable abbrev s_heldL : Spec := mkS (.pair tL (.pair tI .unit)) tI false true (fun x => short x.1 ∧ low x.2.1) (fun x => m_heldL x.1 x.2.1)
def m_heldLL : List (List Int) → Int → Int
  | [], k => k
  | r :: rs, k => if m_heldL r k < 0 then -1 else m_heldLL rs (m_heldL r k)
noncomputable abbrev s_heldLL : Spec := mkS (.pair tLL (.pair tI .unit)) tI false true (fun x => shortLL x.1 ∧ low x.2.1 ∧ low (x.2.1 + m_total x.1)) (fun x => m_heldLL x.1 x.2.1)
def m_heldTable (t : TT) (k : Int) : Int :=
  if m_heldL t.1 k < 0 then -1 else if m_heldLL t.2.1 (m_heldL t.1 k) < 0 then -1 else
  if m_heldL t.2.2.1 (m_heldLL t.2.1 (m_heldL t.1 k)) < 0 then -1 else m_heldL t.2.2.1 (m_heldLL t.2.1 (m_heldL t.1 k))
noncomputable abbrev s_heldTable : Spec := mkS (.pair tTable (.pair tI .unit)) tI false true (fun x => shortT x.1 ∧ low x.2.1 ∧ low (x.2.1 + (List.length x.1.1 + m_total x.1.2.1 + List.length x.1.2.2.1 : Nat))) (fun x => m_heldTable x.1 x.2.1)
noncomputable abbrev s_toLm : MSpec := mkM [none] [(false, .dat tL)] false [none] [rL] (fun x => short x.1) (fun x => ((x.1, ()), ()))
noncomputable abbrev s_toLLm : MSpec := mkM [none] [(false, .dat tLL)] false [none] [xLL] (fun x => shortLL x.1) (fun x => ((x.1, ()), ()))
noncomputable abbrev s_toTablem : MSpec := mkM [some 3] [(false, .dat tL), (false, .dat tLL), (false, .dat tL)] false [some 3] [rL, xLL, rL] (fun x => shortT (x.1, x.2.1, x.2.2.1, ())) (fun x => ((x.1, x.2.1, x.2.2.1, ()), ()))
noncomputable abbrev s_toPuzzlem : MSpec := mkM [some 3] [(false, .dat tI), (false, .dat .str), (false, .dat tLL)] false [some 3] [.dat tI, .dat .str, xLL] (fun x => shortP (x.1, x.2.1, x.2.2.1, ())) (fun x => ((x.1, x.2.1, x.2.2.1, ()), ()))
theorem w_markL (xs : List Int) (k : Int) (P : ((Int × Unit) × List Int × Unit) → Prop) : ((0 : Nat) = (0 : Nat) ∧
  xs.length = xs.length ∧
    WLoop
      (fun (v3 : Int × Int × List Int × PUnit) (k4 : Int × Int × List Int × PUnit → Prop) =>
        Br (decide (v3.2.fst < (↑v3.snd.2.fst.length : Int)))
          (((0 : Int) ≤ v3.2.fst ∧ v3.2.fst < (↑v3.snd.2.fst.length : Int)) ∧
            (0 : Nat) + v3.2.fst.toNat < v3.snd.2.fst.length ∧
              (0 : Nat) = (0 : Nat) ∧
                v3.snd.2.fst.length = (v3.snd.2.fst.set ((0 : Nat) + v3.2.fst.toNat) v3.fst).length ∧
                  k4 (IntKind.i64.wrap (v3.fst + (1 : Int)), IntKind.i64.wrap (v3.2.fst + (1 : Int)), v3.snd.2.fst.set ((0 : Nat) + v3.2.fst.toNat) v3.fst, ()))
          (P ((v3.fst, ()), v3.snd.2.fst, ())))
      (k, (0 : Int), xs, PUnit.unit)) = fnMW tabT (look []) s_markL Try.f32 (xs, k, ()) P := by kernel_rfl
theorem w_markLL (xs : List (List Int)) (k : Int) (P : ((Int × Unit) × List (List Int) × Unit) → Prop) : ((0 : Nat) = (0 : Nat) ∧
  xs.length = xs.length ∧
    WLoop
      (fun (v3 : Int × Int × List (List Int) × PUnit) (k4 : Int × Int × List (List Int) × PUnit → Prop) =>
        Br (decide (v3.2.fst < (↑v3.snd.2.fst.length : Int)))
          (((0 : Int) ≤ v3.2.fst ∧ v3.2.fst < (↑v3.snd.2.fst.length : Int)) ∧
            ∃ (y5 : List Int),
              v3.snd.2.fst[(0 : Nat) + v3.2.fst.toNat]? = some y5 ∧
                ∃ (y6 : List Int),
                  v3.snd.2.fst[(0 : Nat) + v3.2.fst.toNat]? = some y6 ∧
                    ∃ (y7 : (Int × PUnit) × List Int × PUnit),
                      s_markL.fn (y6, v3.fst, ()) = some y7 ∧
                        ∃ (y8 : List Int),
                          v3.snd.2.fst[(0 : Nat) + v3.2.fst.toNat]? = some y8 ∧
                            y7.2.fst.length = y8.length ∧
                              (0 : Nat) = (0 : Nat) ∧
                                v3.snd.2.fst.length = (v3.snd.2.fst.set ((0 : Nat) + v3.2.fst.toNat) y7.2.fst).length ∧
                                  k4 (y7.1.fst, IntKind.i64.wrap (v3.2.fst + (1 : Int)), v3.snd.2.fst.set ((0 : Nat) + v3.2.fst.toNat) y7.2.fst, ()))
          (P ((v3.fst, ()), v3.snd.2.fst, ())))
      (k, (0 : Int), xs, PUnit.unit)) = fnMW tabT (look [(32, s_markL)]) s_markLL Try.f69 (xs, k, ()) P := by kernel_rfl
theorem w_markTable (a : List Int) (b : List (List Int)) (c : List Int) (k : Int) (P : ((Int × Unit) × List Int × List (List Int) × List Int × Unit) → Prop) : ((0 : Nat) = (0 : Nat) ∧
  a.length = a.length ∧
    ∃ (y5 : (Int × PUnit) × List Int × PUnit),
      s_markL.fn (a, k, ()) = some y5 ∧
        (y5.2.fst.length = a.length ∧ a.length = a.length) ∧
          (0 : Nat) = (0 : Nat) ∧
            b.length = b.length ∧
              ∃ (y6 : (Int × PUnit) × List (List Int) × PUnit),
                s_markLL.fn (b, y5.1.fst, ()) = some y6 ∧
                  (y6.2.fst.length = b.length ∧ b.length = b.length) ∧
                    (0 : Nat) = (0 : Nat) ∧
                      c.length = c.length ∧
                        ∃ (y7 : (Int × PUnit) × List Int × PUnit),
                          s_markL.fn (c, y6.1.fst, ()) = some y7 ∧ (y7.2.fst.length = c.length ∧ c.length = c.length) ∧ P ((y7.1.fst, ()), y5.2.fst, y6.2.fst, y7.2.fst, ())) = fnMW tabT (look [(32, s_markL), (69, s_markLL)]) s_markTable Try.f31 (a, b, c, k, ()) P := by kernel_rfl
theorem w_markPuzzle (n : Int) (s : ByteArray) (b : List (List Int)) (k : Int) (P : ((Int × Unit) × List (List Int) × Unit) → Prop) : ((0 : Nat) = (0 : Nat) ∧
  b.length = b.length ∧ ∃ (y5 : (Int × PUnit) × List (List Int) × PUnit), s_markLL.fn (b, k, ()) = some y5 ∧ (y5.2.fst.length = b.length ∧ b.length = b.length) ∧ P ((y5.1.fst, ()), y5.2.fst, ())) = fnMW tabT (look [(69, s_markLL)]) s_markPuzzle Try.f45 (n, s, b, k, ()) P := by kernel_rfl
theorem w_heldL (xs : List Int) (k : Int) (P : Int → Prop) : (WLoop
  (fun (v3 : Int × Int × PUnit) (k4 : Int × Int × PUnit → Prop) =>
    Br (decide (v3.2.fst < (↑xs.length : Int)))
      (∃ (y5 : Int), idx xs v3.2.fst = some y5 ∧ Br (y5 != v3.fst) (P (-1 : Int)) (k4 (IntKind.i64.wrap (v3.fst + (1 : Int)), IntKind.i64.wrap (v3.2.fst + (1 : Int)), ()))) (P v3.fst))
  (k, (0 : Int), PUnit.unit)) = fnW tab (look []) s_heldL Try.f33 (xs, k, ()) P := by kernel_rfl
theorem w_heldLL (xs : List (List Int)) (k : Int) (P : Int → Prop) : (WLoop
  (fun (v3 : Int × Int × PUnit) (k4 : Int × Int × PUnit → Prop) =>
    Br (decide (v3.2.fst < (↑xs.length : Int)))
      (∃ (y5 : List Int),
        idx xs v3.2.fst = some y5 ∧ ∃ (y6 : Int), s_heldL.fn (y5, v3.fst, ()) = some y6 ∧ Br (decide (y6 < (0 : Int))) (P (-1 : Int)) (k4 (y6, IntKind.i64.wrap (v3.2.fst + (1 : Int)), ())))
      (P v3.fst))
  (k, (0 : Int), PUnit.unit)) = fnW tab (look [(33, s_heldL)]) s_heldLL Try.f93 (xs, k, ()) P := by kernel_rfl
theorem w_heldTable (t : List Int × List (List Int) × List Int × Unit) (k : Int) (P : Int → Prop) : (∃ (y3 : Int),
  s_heldL.fn (t.fst, k, ()) = some y3 ∧
    Br (decide (y3 < (0 : Int))) (P (-1 : Int))
      (∃ (y4 : Int),
        s_heldLL.fn (t.2.fst, y3, ()) = some y4 ∧
          Br (decide (y4 < (0 : Int))) (P (-1 : Int)) (∃ (y5 : Int), s_heldL.fn (t.snd.2.fst, y4, ()) = some y5 ∧ Br (decide (y5 < (0 : Int))) (P (-1 : Int)) (P y5)))) = fnW tab (look [(33, s_heldL), (93, s_heldLL)]) s_heldTable Try.f50 (t, k, ()) P := by kernel_rfl
theorem w_toLm (xs : List Int) (P : ((List Int × Unit) × Unit) → Prop) : (((0 : Int) ≤ (↑xs.length : Int) ∧ (↑xs.length : Int) < (↑maxRow : Int) + (1 : Int)) ∧
  (↑xs.length : Int) = (↑xs.length : Int) ∧
    (0 : Nat) = (0 : Nat) ∧
      (List.replicate (↑xs.length : Int).toNat (Int.ofNat (nat_lit 0))).length = (List.replicate (↑xs.length : Int).toNat (Int.ofNat (nat_lit 0))).length ∧
        WLoop
          (fun (v2 : Int × List Int × PUnit) (k3 : Int × List Int × PUnit → Prop) =>
            Br (decide (v2.fst < (↑xs.length : Int)))
              (∃ (y4 : Int),
                idx xs v2.fst = some y4 ∧
                  ((0 : Int) ≤ v2.fst ∧ v2.fst < (↑v2.2.fst.length : Int)) ∧
                    (0 : Nat) + v2.fst.toNat < v2.2.fst.length ∧
                      (0 : Nat) = (0 : Nat) ∧
                        v2.2.fst.length = (v2.2.fst.set ((0 : Nat) + v2.fst.toNat) y4).length ∧ k3 (IntKind.i64.wrap (v2.fst + (1 : Int)), v2.2.fst.set ((0 : Nat) + v2.fst.toNat) y4, ()))
              (P ((List.take v2.2.fst.length (List.drop (0 : Nat) v2.2.fst), ()), ())))
          ((0 : Int), List.replicate (↑xs.length : Int).toNat (Int.ofNat (nat_lit 0)), PUnit.unit)) = fnMW tabT (look []) s_toLm Try.f25 (xs, ()) P := by kernel_rfl
theorem w_toLLm (xs : List (List Int)) (P : ((List (List Int) × Unit) × Unit) → Prop) : (((0 : Int) ≤ (↑xs.length : Int) ∧ (↑xs.length : Int) < (↑maxRow : Int) + (1 : Int)) ∧
  (↑xs.length : Int) = (↑xs.length : Int) ∧
    (0 : Nat) = (0 : Nat) ∧
      (List.replicate (↑xs.length : Int).toNat ([] : List Int)).length = (List.replicate (↑xs.length : Int).toNat ([] : List Int)).length ∧
        WLoop
          (fun (v2 : Int × List (List Int) × PUnit) (k3 : Int × List (List Int) × PUnit → Prop) =>
            Br (decide (v2.fst < (↑xs.length : Int)))
              (∃ (y4 : List Int),
                idx xs v2.fst = some y4 ∧
                  ∃ (y5 : (List Int × PUnit) × PUnit),
                    s_toLm.fn (y4, ()) = some y5 ∧
                      ((0 : Int) ≤ v2.fst ∧ v2.fst < (↑v2.2.fst.length : Int)) ∧
                        (0 : Nat) + v2.fst.toNat < v2.2.fst.length ∧
                          (0 : Nat) = (0 : Nat) ∧
                            v2.2.fst.length = (v2.2.fst.set ((0 : Nat) + v2.fst.toNat) (List.take y5.1.fst.length (List.drop (0 : Nat) y5.1.fst))).length ∧
                              k3 (IntKind.i64.wrap (v2.fst + (1 : Int)), v2.2.fst.set ((0 : Nat) + v2.fst.toNat) (List.take y5.1.fst.length (List.drop (0 : Nat) y5.1.fst)), ()))
              (P ((List.take v2.2.fst.length (List.drop (0 : Nat) v2.2.fst), ()), ())))
          ((0 : Int), List.replicate (↑xs.length : Int).toNat ([] : List Int), PUnit.unit)) = fnMW tabT (look [(25, s_toLm)]) s_toLLm Try.f40 (xs, ()) P := by kernel_rfl
theorem w_toTablem (a : List Int) (b : List (List Int)) (c : List Int) (P : ((List Int × List (List Int) × List Int × Unit) × Unit) → Prop) : (∃ (y4 : (List Int × PUnit) × PUnit),
  s_toLm.fn (a, ()) = some y4 ∧
    ∃ (y5 : (List (List Int) × PUnit) × PUnit),
      s_toLLm.fn (b, ()) = some y5 ∧
        ∃ (y6 : (List Int × PUnit) × PUnit),
          s_toLm.fn (c, ()) = some y6 ∧
            P ((List.take y4.1.fst.length (List.drop (0 : Nat) y4.1.fst), List.take y5.1.fst.length (List.drop (0 : Nat) y5.1.fst), List.take y6.1.fst.length (List.drop (0 : Nat) y6.1.fst), ()), ())) = fnMW tabT (look [(25, s_toLm), (40, s_toLLm)]) s_toTablem Try.f17 (a, b, c, ()) P := by kernel_rfl
theorem w_toPuzzlem (n : Int) (s : ByteArray) (b : List (List Int)) (P : ((Int × ByteArray × List (List Int) × Unit) × Unit) → Prop) : (∃ (y4 : (List (List Int) × PUnit) × PUnit), s_toLLm.fn (b, ()) = some y4 ∧ P ((n, s, List.take y4.1.fst.length (List.drop (0 : Nat) y4.1.fst), ()), ())) = fnMW tabT (look [(40, s_toLLm)]) s_toPuzzlem Try.f24 (n, s, b, ()) P := by kernel_rfl
theorem whole_row {α : Type} (xs : List α) : List.take xs.length (List.drop 0 xs) = xs := by rw [List.drop_zero, List.take_length]
theorem m_marks_len (k : Int) (n : Nat) : (m_marks k n).length = n := by simp [m_marks]
theorem m_marks_succ (k : Int) (n : Nat) : m_marks k (n + 1) = m_marks k n ++ [k + (n : Nat)] := by simp [m_marks, List.range_succ]
theorem m_total_append (a b : List (List Int)) : m_total (a ++ b) = m_total a + m_total b := by
  induction a with
  | nil => simp [m_total]
  | cons r a ih => simp only [List.cons_append, m_total, ih]; omega
theorem m_marksLL_append : ∀ (a b : List (List Int)) (k : Int), m_marksLL k (a ++ b) = m_marksLL k a ++ m_marksLL (k + m_total a) b
  | [], b, k => by simp [m_marksLL, m_total]
  | r :: a, b, k => by
    simp only [List.cons_append, m_marksLL, m_total, m_marksLL_append a b]
    congr 3
    omega
theorem m_marksLL_len : ∀ (xs : List (List Int)) (k : Int), (m_marksLL k xs).length = xs.length
  | [], _ => rfl
  | r :: xs, k => by simp [m_marksLL, m_marksLL_len xs]
theorem m_total_marks : ∀ (xs : List (List Int)) (k : Int), m_total (m_marksLL k xs) = m_total xs
  | [], _ => rfl
  | r :: xs, k => by simp [m_marksLL, m_total, m_marks_len, m_total_marks xs]
theorem shortLL_marks {xs : List (List Int)} (h : shortLL xs) (k : Int) : shortLL (m_marksLL k xs) := by
  refine ⟨by rw [m_marksLL_len]; exact h.1, ?_⟩
  have : ∀ (xs : List (List Int)) (k : Int), (∀ r ∈ xs, short r) → ∀ r ∈ m_marksLL k xs, short r := by
    intro xs
    induction xs with
    | nil => intro k _ r hr; cases hr
    | cons a xs ih =>
      intro k hx r hr
      simp only [m_marksLL] at hr
      rcases List.mem_cons.1 hr with rfl | hr
      · have := hx a (by simp); unfold short at *; rw [m_marks_len]; exact this
      · exact ih _ (fun r hr => hx r (List.mem_cons_of_mem _ hr)) r hr
  exact this xs k h.2
theorem m_total_drop {xs : List (List Int)} {j : Nat} (h : j < xs.length) : m_total (xs.drop j) = xs[j].length + m_total (xs.drop (j + 1)) := by
  rw [List.drop_eq_getElem_cons h]; rfl
theorem m_total_take {xs : List (List Int)} {j : Nat} (h : j < xs.length) : m_total (xs.take (j + 1)) = m_total (xs.take j) + xs[j].length := by
  rw [List.take_succ_eq_append_getElem h, m_total_append]; simp [m_total]
theorem m_total_split (xs : List (List Int)) (j : Nat) : m_total (xs.take j) + m_total (xs.drop j) = m_total xs := by
  rw [← m_total_append, List.take_append_drop]

theorem p_markL (xs : List Int) (k : Int) (h : short xs ∧ low k) : fnMW tabT (look []) s_markL Try.f32 (xs, k, ()) (fun (z : (Int × Unit) × List Int × Unit) => z = ((k + xs.length, ()), (m_marks k xs.length, ()))) := by
  obtain ⟨h1, h2, h3⟩ := h
  unfold short at h1
  refine Eq.mp (w_markL xs k _) ⟨rfl, rfl, ?_⟩
  refine loop_range xs.length (fun v => v.2.1) (fun j v => v.1 = k + (j : Nat) ∧ v.2.2.1.length = xs.length ∧ v.2.2.1.take j = m_marks k j) rfl ⟨by simp, rfl, by simp [m_marks]⟩ ?_
  rintro j ⟨k', i, ys, ⟨⟩⟩ K hj hi ⟨g1, g2, g3⟩ hK
  dsimp only at hi g1 g2 g3 ⊢
  subst hi; subst g1
  refine Br.dec (fun hl => ?_) fun hl => ?_
  · have hl : j < ys.length := by omega
    refine ⟨⟨by omega, by omega⟩, by rw [Int.toNat_natCast]; omega, rfl, by rw [List.length_set], ?_⟩
    rw [wrap_nat (by omega), Int.toNat_natCast, Nat.zero_add, wrap_id (by omega) (by omega)]
    refine hK (by omega) _ rfl ⟨by dsimp only; omega, by rw [List.length_set]; exact g2, ?_⟩
    rw [List.take_succ_eq_append_getElem (by rw [List.length_set]; exact hl), List.take_set_of_le (Nat.le_refl j), g3, List.getElem_set_self, m_marks_succ]
  · have hj' : j = xs.length := by omega
    subst hj'
    rw [← g2, List.take_length, g2] at g3
    rw [g3]
theorem sound_markL : MSound Try.prog 32 s_markL :=
  MSound.mkM tabTOK envNil mixed Try.func32 (by kernel_rfl) (by kernel_rfl) fun x h => p_markL x.1 x.2.1 h
theorem p_markLL (xs : List (List Int)) (k : Int) (h : shortLL xs ∧ low k ∧ low (k + m_total xs)) : fnMW tabT (look [(32, s_markL)]) s_markLL Try.f69 (xs, k, ()) (fun (z : (Int × Unit) × List (List Int) × Unit) => z = ((k + m_total xs, ()), (m_marksLL k xs, ()))) := by
  obtain ⟨⟨h1, h4⟩, ⟨h2, h3⟩, h5, h6⟩ := h
  refine Eq.mp (w_markLL xs k _) ⟨rfl, rfl, ?_⟩
  refine loop_range xs.length (fun v => v.2.1) (fun j v => v.1 = k + (m_total (xs.take j) : Nat) ∧ v.2.2.1.length = xs.length ∧ v.2.2.1.take j = m_marksLL k (xs.take j) ∧ v.2.2.1.drop j = xs.drop j) rfl ⟨by simp [m_total], rfl, by simp [m_marksLL], rfl⟩ ?_
  rintro j ⟨k', i, ys, ⟨⟩⟩ K hj hi ⟨g1, g2, g3, g4⟩ hK
  dsimp only at hi g1 g2 g3 g4 ⊢
  subst hi; subst g1
  refine Br.dec (fun hl => ?_) fun hl => ?_
  · have hl : j < ys.length := by omega
    have hlx : j < xs.length := by omega
    have hy : ys[j]? = some xs[j] := by
      have : (ys.drop j)[0]? = (xs.drop j)[0]? := by rw [g4]
      simpa [List.getElem?_drop, List.getElem?_eq_getElem hlx] using this
    have hsp := m_total_split xs j
    have htk := m_total_take hlx
    have hdr := m_total_drop hlx
    refine ⟨⟨by omega, by omega⟩, ?_⟩
    simp only [Int.toNat_natCast, Nat.zero_add]
    have hlow : low (k + (m_total (xs.take j) : Nat)) := ⟨by omega, by omega⟩
    refine ⟨_, hy, _, hy, _, if_pos ⟨h4 _ (List.getElem_mem hlx), hlow⟩, _, hy, m_marks_len _ _, trivial, by rw [List.length_set], ?_⟩
    rw [wrap_nat (by omega)]
    refine hK hlx _ rfl ⟨by dsimp only; omega, by rw [List.length_set]; exact g2, ?_, ?_⟩
    · rw [List.take_succ_eq_append_getElem (by rw [List.length_set]; exact hl), List.take_set_of_le (Nat.le_refl j), g3, List.getElem_set_self, List.take_succ_eq_append_getElem hlx, m_marksLL_append]
      rfl
    · dsimp only
      rw [List.drop_set_of_lt (by omega)]
      have e1 : ys.drop (j + 1) = (ys.drop j).drop 1 := by rw [List.drop_drop]
      rw [e1, g4, List.drop_drop]
  · have hj' : j = xs.length := by omega
    subst hj'
    rw [← g2, List.take_length, g2, List.take_length] at g3
    rw [g3, List.take_length]
theorem sound_markLL : MSound Try.prog 69 s_markLL :=
  MSound.mkM tabTOK (envConsM sound_markL envNil) mixed Try.func69 (by kernel_rfl) (by kernel_rfl) fun x h => p_markLL x.1 x.2.1 h
theorem p_markTable (a : List Int) (b : List (List Int)) (c : List Int) (k : Int) (h : shortT (a, b, c, ()) ∧ low k ∧ low (k + (List.length a + m_total b + List.length c : Nat))) : fnMW tabT (look [(32, s_markL), (69, s_markLL)]) s_markTable Try.f31 (a, b, c, k, ()) (fun (z : (Int × Unit) × List Int × List (List Int) × List Int × Unit) => z = ((k + (List.length a + m_total b + List.length c : Nat), ()), (m_marks k (List.length a), m_marksLL (k + List.length a) b, m_marks (k + List.length a + m_total b) (List.length c), ()))) := by
  obtain ⟨⟨h1, h2, h3⟩, ⟨h4, h5⟩, h6, h7⟩ := h
  have l1 : low (k + (List.length a : Nat)) := ⟨by omega, by omega⟩
  have l2 : low (k + (List.length a : Nat) + (m_total b : Nat)) := ⟨by omega, by omega⟩
  refine Eq.mp (w_markTable a b c k _) ⟨rfl, rfl, _, if_pos ⟨h1, h4, h5⟩, ⟨m_marks_len _ _, rfl⟩, rfl, rfl, _, if_pos ⟨h2, l1, l2⟩, ⟨m_marksLL_len _ _, rfl⟩, rfl, rfl, _, if_pos ⟨h3, l2⟩, ⟨m_marks_len _ _, rfl⟩, ?_⟩
  dsimp only
  rw [show k + (List.length a : Nat) + (m_total b : Nat) + (List.length c : Nat) = k + (List.length a + m_total b + List.length c : Nat) by omega]
theorem sound_markTable : MSound Try.prog 31 s_markTable :=
  MSound.mkM tabTOK (envConsM sound_markL (envConsM sound_markLL envNil)) mixed Try.func31 (by kernel_rfl) (by kernel_rfl) fun x h => p_markTable x.1 x.2.1 x.2.2.1 x.2.2.2.1 h
theorem p_markPuzzle (n : Int) (s : ByteArray) (b : List (List Int)) (k : Int) (h : shortLL b ∧ low k ∧ low (k + m_total b)) : fnMW tabT (look [(69, s_markLL)]) s_markPuzzle Try.f45 (n, s, b, k, ()) (fun (z : (Int × Unit) × List (List Int) × Unit) => z = ((k + m_total b, ()), (m_marksLL k b, ()))) := by
  exact Eq.mp (w_markPuzzle n s b k _) ⟨rfl, rfl, _, if_pos h, ⟨m_marksLL_len _ _, rfl⟩, rfl⟩
theorem sound_markPuzzle : MSound Try.prog 45 s_markPuzzle :=
  MSound.mkM tabTOK (envConsM sound_markLL envNil) mixed Try.func45 (by kernel_rfl) (by kernel_rfl) fun x h => p_markPuzzle x.1 x.2.1 x.2.2.1 x.2.2.2.1 h
theorem p_heldL (xs : List Int) (k : Int) (h : short xs ∧ low k) : fnW tab (look []) s_heldL Try.f33 (xs, k, ()) (fun (z : Int) => z = m_heldL xs k) := by
  obtain ⟨h1, h2, h3⟩ := h
  unfold short at h1
  refine Eq.mp (w_heldL xs k _) ?_
  refine loop_range xs.length (fun v => v.2.1) (fun j v => v.1 = k + (j : Nat) ∧ xs.take j = m_marks k j) rfl ⟨by simp, by simp [m_marks]⟩ ?_
  rintro j ⟨k', i, ⟨⟩⟩ K hj hi ⟨g1, g3⟩ hK
  dsimp only at hi g1 g3 ⊢
  subst hi; subst g1
  refine Br.dec (fun hl => ?_) fun hl => ?_
  · have hl : j < xs.length := by omega
    refine ⟨_, idx_nat hl, fun hne => ?_, fun he => ?_⟩
    · simp only [bne_iff_ne, ne_eq] at hne
      unfold m_heldL
      rw [if_neg]
      intro he
      refine hne ?_
      have e1 : xs[j]? = (m_marks k xs.length)[j]? := by rw [← he]
      rw [List.getElem?_eq_getElem hl] at e1
      simpa [m_marks, hl] using e1
    · simp only [bne_eq_false_iff_eq] at he
      rw [wrap_nat (by omega), wrap_id (by omega) (by omega)]
      refine hK hl _ rfl ⟨by dsimp only; omega, ?_⟩
      rw [List.take_succ_eq_append_getElem hl, g3, he, m_marks_succ]
  · have hj' : j = xs.length := by omega
    subst hj'
    rw [List.take_length] at g3
    exact (if_pos g3).symm
theorem sound_heldL : Sound Try.prog 33 s_heldL :=
  Sound.mkS tabOK envNil mixed Try.func33 (by kernel_rfl) (by kernel_rfl) fun x h => p_heldL x.1 x.2.1 h
theorem m_heldL_marks (k : Int) (n : Nat) : m_heldL (m_marks k n) k = k + n := by unfold m_heldL; rw [m_marks_len, if_pos rfl]
theorem m_heldL_low {xs : List Int} {k : Int} (h : ¬ m_heldL xs k < 0) : m_heldL xs k = k + xs.length := by
  unfold m_heldL at *
  split at h
  · rename_i h1; rw [if_pos h1]
  · exact absurd (show (-1 : Int) < 0 by decide) h
theorem m_heldLL_marks : ∀ (xs : List (List Int)) (k : Int), 0 ≤ k → m_heldLL (m_marksLL k xs) k = k + m_total xs
  | [], k, _ => by simp [m_marksLL, m_heldLL, m_total]
  | r :: xs, k, h => by
    simp only [m_marksLL, m_heldLL, m_heldL_marks, m_total]
    rw [if_neg (by omega), m_heldLL_marks xs _ (by omega)]
    omega
theorem m_heldLL_low : ∀ (xs : List (List Int)) (k : Int), ¬ m_heldLL xs k < 0 → m_heldLL xs k = k + m_total xs
  | [], k, _ => by simp [m_heldLL, m_total]
  | r :: xs, k, h => by
    simp only [m_heldLL, m_total] at h ⊢
    split at h
    · exact absurd (show (-1 : Int) < 0 by decide) h
    · rename_i h1
      rw [if_neg h1, m_heldLL_low xs _ h, m_heldL_low h1]
      omega
theorem p_heldLL (xs : List (List Int)) (k : Int) (h : shortLL xs ∧ low k ∧ low (k + m_total xs)) : fnW tab (look [(33, s_heldL)]) s_heldLL Try.f93 (xs, k, ()) (fun (z : Int) => z = m_heldLL xs k) := by
  obtain ⟨⟨h1, h4⟩, ⟨h2, h3⟩, h5, h6⟩ := h
  refine Eq.mp (w_heldLL xs k _) ?_
  refine loop_range xs.length (fun v => v.2.1) (fun j v => 0 ≤ v.1 ∧ v.1 + (m_total (xs.drop j) : Nat) ≤ k + (m_total xs : Nat) ∧ m_heldLL (xs.drop j) v.1 = m_heldLL xs k) rfl ⟨h2, by simp, rfl⟩ ?_
  rintro j ⟨k', i, ⟨⟩⟩ K hj hi ⟨g1, g2, g3⟩ hK
  dsimp only at hi g1 g2 g3 ⊢
  subst hi
  refine Br.dec (fun hl => ?_) fun hl => ?_
  · have hl : j < xs.length := by omega
    have hdr := m_total_drop hl
    have hlow : low k' := ⟨g1, by omega⟩
    rw [List.drop_eq_getElem_cons hl] at g3
    simp only [m_heldLL] at g3
    refine ⟨_, idx_nat hl, _, if_pos ⟨h4 _ (List.getElem_mem hl), hlow⟩, Br.dec (fun hn => ?_) fun hn => ?_⟩
    · have hn : m_heldL xs[j] k' < 0 := hn
      rw [if_pos hn] at g3
      exact g3
    · have hn : ¬ m_heldL xs[j] k' < 0 := hn
      rw [if_neg hn] at g3
      have e1 := m_heldL_low hn
      rw [wrap_nat (by omega)]
      refine hK hl _ rfl ⟨by dsimp only; omega, by dsimp only; rw [e1]; omega, g3⟩
  · have hj' : j = xs.length := by omega
    subst hj'
    rw [List.drop_length] at g3
    exact g3
theorem sound_heldLL : Sound Try.prog 93 s_heldLL :=
  Sound.mkS tabOK (envCons sound_heldL envNil) mixed Try.func93 (by kernel_rfl) (by kernel_rfl) fun x h => p_heldLL x.1 x.2.1 h
theorem p_heldTable (t : TT) (k : Int) (h : shortT t ∧ low k ∧ low (k + (List.length t.1 + m_total t.2.1 + List.length t.2.2.1 : Nat))) : fnW tab (look [(33, s_heldL), (93, s_heldLL)]) s_heldTable Try.f50 (t, k, ()) (fun (z : Int) => z = m_heldTable t k) := by
  obtain ⟨⟨h1, h2, h3⟩, ⟨h4, h5⟩, h6, h7⟩ := h
  refine Eq.mp (w_heldTable t k _) ⟨_, if_pos ⟨h1, h4, h5⟩, Br.dec (fun hn => ?_) fun hn => ?_⟩
  · exact (if_pos hn).symm
  · have hn : ¬ m_heldL t.1 k < 0 := hn
    have e1 := m_heldL_low hn
    have l1 : low (m_heldL t.1 k) := by rw [e1]; exact ⟨by omega, by omega⟩
    have l2 : low (m_heldL t.1 k + (m_total t.2.1 : Nat)) := by rw [e1]; exact ⟨by omega, by omega⟩
    refine ⟨_, if_pos ⟨h2, l1, l2⟩, Br.dec (fun hm => ?_) fun hm => ?_⟩
    · exact ((if_neg hn).trans (if_pos hm)).symm
    · have hm : ¬ m_heldLL t.2.1 (m_heldL t.1 k) < 0 := hm
      have e2 := m_heldLL_low _ _ hm
      have l3 : low (m_heldLL t.2.1 (m_heldL t.1 k)) := by rw [e2]; exact l2
      refine ⟨_, if_pos ⟨h3, l3⟩, Br.dec (fun hk => ?_) fun hk => ?_⟩
      · exact ((if_neg hn).trans ((if_neg hm).trans (if_pos hk))).symm
      · exact ((if_neg hn).trans ((if_neg hm).trans (if_neg hk))).symm
theorem sound_heldTable : Sound Try.prog 50 s_heldTable :=
  Sound.mkS tabOK (envCons sound_heldL (envCons sound_heldLL envNil)) mixed Try.func50 (by kernel_rfl) (by kernel_rfl) fun x h => p_heldTable x.1 x.2.1 h
theorem p_toLm (xs : List Int) (h : short xs) : fnMW tabT (look []) s_toLm Try.f25 (xs, ()) (fun (z : (List Int × Unit) × Unit) => z = ((xs, ()), ())) := by
  unfold short at h
  refine Eq.mp (w_toLm xs _) ?_
  refine ⟨⟨by omega, by show (xs.length : Int) < (4294967296 : Int) + 1; omega⟩, rfl, rfl, rfl, ?_⟩
  refine loop_range xs.length (fun v => v.1) (fun j v => v.2.1.length = xs.length ∧ v.2.1.take j = xs.take j) rfl ⟨by simp, by simp⟩ ?_
  rintro j ⟨i, ys, ⟨⟩⟩ K hj hi ⟨h1, h2⟩ hK
  dsimp only at hi h1 h2 ⊢
  subst hi
  refine Br.dec (fun hl => ?_) fun hl => ?_
  · have hl : j < xs.length := by omega
    refine ⟨_, idx_nat hl, ⟨by omega, by omega⟩, by rw [Int.toNat_natCast]; omega, rfl, by rw [List.length_set], ?_⟩
    rw [wrap_nat (by omega), Int.toNat_natCast, Nat.zero_add]
    exact hK hl _ rfl ⟨by rw [List.length_set]; exact h1, take_set_succ hl h1 h2⟩
  · have : j = xs.length := by omega
    subst this
    rw [List.take_length, ← h1, List.take_length] at h2
    rw [whole_row, h2]
theorem sound_toLm : MSound Try.prog 25 s_toLm :=
  MSound.mkM tabTOK envNil mixed Try.func25 (by kernel_rfl) (by kernel_rfl) fun x h => p_toLm x.1 h
theorem p_toLLm (xs : List (List Int)) (h : shortLL xs) : fnMW tabT (look [(25, s_toLm)]) s_toLLm Try.f40 (xs, ()) (fun (z : (List (List Int) × Unit) × Unit) => z = ((xs, ()), ())) := by
  obtain ⟨h, h4⟩ := h
  refine Eq.mp (w_toLLm xs _) ?_
  refine ⟨⟨by omega, by show (xs.length : Int) < (4294967296 : Int) + 1; omega⟩, rfl, rfl, rfl, ?_⟩
  refine loop_range xs.length (fun v => v.1) (fun j v => v.2.1.length = xs.length ∧ v.2.1.take j = xs.take j) rfl ⟨by simp, by simp⟩ ?_
  rintro j ⟨i, ys, ⟨⟩⟩ K hj hi ⟨h1, h2⟩ hK
  dsimp only at hi h1 h2 ⊢
  subst hi
  refine Br.dec (fun hl => ?_) fun hl => ?_
  · have hl : j < xs.length := by omega
    refine ⟨_, idx_nat hl, _, if_pos (h4 _ (List.getElem_mem hl)), ⟨by omega, by omega⟩, by rw [Int.toNat_natCast]; omega, rfl, by rw [List.length_set], ?_⟩
    rw [wrap_nat (by omega), Int.toNat_natCast, Nat.zero_add]
    dsimp only
    rw [whole_row]
    exact hK hl _ rfl ⟨by rw [List.length_set]; exact h1, take_set_succ hl h1 h2⟩
  · have : j = xs.length := by omega
    subst this
    rw [List.take_length, ← h1, List.take_length] at h2
    rw [whole_row, h2]
theorem sound_toLLm : MSound Try.prog 40 s_toLLm :=
  MSound.mkM tabTOK (envConsM sound_toLm envNil) mixed Try.func40 (by kernel_rfl) (by kernel_rfl) fun x h => p_toLLm x.1 h
theorem p_toTablem (a : List Int) (b : List (List Int)) (c : List Int) (h : shortT (a, b, c, ())) : fnMW tabT (look [(25, s_toLm), (40, s_toLLm)]) s_toTablem Try.f17 (a, b, c, ()) (fun (z : (List Int × List (List Int) × List Int × Unit) × Unit) => z = ((a, b, c, ()), ())) := by
  refine Eq.mp (w_toTablem a b c _) ⟨_, if_pos h.1, _, if_pos h.2.1, _, if_pos h.2.2, ?_⟩
  simp only [whole_row]
theorem sound_toTablem : MSound Try.prog 17 s_toTablem :=
  MSound.mkM tabTOK (envConsM sound_toLm (envConsM sound_toLLm envNil)) mixed Try.func17 (by kernel_rfl) (by kernel_rfl) fun x h => p_toTablem x.1 x.2.1 x.2.2.1 h
theorem p_toPuzzlem (n : Int) (s : ByteArray) (b : List (List Int)) (h : shortP (n, s, b, ())) : fnMW tabT (look [(40, s_toLLm)]) s_toPuzzlem Try.f24 (n, s, b, ()) (fun (z : (Int × ByteArray × List (List Int) × Unit) × Unit) => z = ((n, s, b, ()), ())) := by
  refine Eq.mp (w_toPuzzlem n s b _) ⟨_, if_pos h.2, ?_⟩
  simp only [whole_row]
theorem sound_toPuzzlem : MSound Try.prog 24 s_toPuzzlem :=
  MSound.mkM tabTOK (envConsM sound_toLLm envNil) mixed Try.func24 (by kernel_rfl) (by kernel_rfl) fun x h => p_toPuzzlem x.1 x.2.1 x.2.2.1 h
end Go.Proofs.Ytingphpncocimaa
