/-
  Part 30 of the proof that the statement FnExactAreEquivalent holds.
-/
import Derived.Test.YtfghmbpogmcboaaCAreEquivalent28
import Derived.KernelRfl
namespace Go.Proofs.Ytfghmbpogmcboaa
open Go.RowKit

def m_inRange (x a b : Int) : Bool := decide (a ≤ x ∧ x ≤ b)
def m_equalInts (a b : List Int) : Bool := decide (a = b)
def m_containsInt (xs : List Int) (x : Int) : Bool := decide (x ∈ xs)
def short (xs : List Int) : Prop := xs.length ≤ 4294967296
noncomputable abbrev s_inRange : Spec := mkS (.pair tI (.pair tI (.pair tI .unit))) .bool false true (fun _ => True) (fun x => m_inRange x.1 x.2.1 x.2.2.1)
noncomputable abbrev s_equalInts : Spec := mkS (.pair tL (.pair tL .unit)) .bool false true (fun x => short x.1) (fun x => m_equalInts x.1 x.2.1)
noncomputable abbrev s_containsInt : Spec := mkS (.pair tL (.pair tI .unit)) .bool false true (fun x => short x.1) (fun x => m_containsInt x.1 x.2.1)
theorem w_inRange (x a b : Int) (P : Bool → Prop) : (Br (decide (x ≥ a)) (P (decide (x ≤ b))) (P false)) = fnW tab (look []) s_inRange Try.f57 (x, a, b, ()) P := by kernel_rfl
theorem w_within (x a b : Int) (P : Bool → Prop) : (Br (decide (x ≥ a)) (P (decide (x ≤ b))) (P false)) = fnW tab (look []) s_inRange Try.f61 (x, a, b, ()) P := by kernel_rfl
theorem w_equalInts (a b : List Int) (P : Bool → Prop) : (Br ((↑a.length : Int) != (↑b.length : Int)) (P false)
  (WLoop
    (fun (v3 : Int × PUnit) (k4 : Int × PUnit → Prop) =>
      Br (decide (v3.fst < (↑a.length : Int))) (∃ (y5 : Int), idx a v3.fst = some y5 ∧ ∃ (y6 : Int), idx b v3.fst = some y6 ∧ Br (y5 != y6) (P false) (k4 (IntKind.i64.wrap (v3.fst + 1), ())))
        (P true))
    (0, PUnit.unit))) = fnW tab (look []) s_equalInts Try.f90 (a, b, ()) P := by kernel_rfl
theorem w_slicesEqual (a b : List Int) (P : Bool → Prop) : (Br ((↑a.length : Int) != (↑b.length : Int)) (P false)
  (WLoop
    (fun (v3 : Int × PUnit) (k4 : Int × PUnit → Prop) =>
      Br (decide (v3.fst < (↑a.length : Int))) (∃ (y5 : Int), idx a v3.fst = some y5 ∧ ∃ (y6 : Int), idx b v3.fst = some y6 ∧ Br (y5 != y6) (P false) (k4 (IntKind.i64.wrap (v3.fst + 1), ())))
        (P true))
    (0, PUnit.unit))) = fnW tab (look []) s_equalInts Try.f93 (a, b, ()) P := by kernel_rfl
theorem w_containsInt (xs : List Int) (x : Int) (P : Bool → Prop) : (WLoop
  (fun (v3 : Int × PUnit) (k4 : Int × PUnit → Prop) =>
    Br (decide (v3.fst < (↑xs.length : Int))) (∃ (y5 : Int), idx xs v3.fst = some y5 ∧ Br (y5 == x) (P true) (k4 (IntKind.i64.wrap (v3.fst + 1), ()))) (P false))
  (0, PUnit.unit)) = fnW tab (look []) s_containsInt Try.f131 (xs, x, ()) P := by kernel_rfl
theorem p_inRange (x a b : Int) (_ : True) : fnW tab (look []) s_inRange Try.f57 (x, a, b, ()) (fun (z : Bool) => z = m_inRange x a b) := by
  refine Eq.mp (w_inRange x a b _) ?_
  refine Br.dec (fun h => ?_) fun h => ?_
  · have h : a ≤ x := h
    simp [m_inRange, h]
  · exact (decide_eq_false fun hh => h hh.1).symm
theorem sound_inRange : Sound Try.prog 57 s_inRange :=
  Sound.mkS tabOK envNil mixed Try.func57 (by kernel_rfl) (by kernel_rfl) fun x h => p_inRange x.1 x.2.1 x.2.2.1 h
theorem p_within (x a b : Int) (_ : True) : fnW tab (look []) s_inRange Try.f61 (x, a, b, ()) (fun (z : Bool) => z = m_inRange x a b) := by
  refine Eq.mp (w_within x a b _) ?_
  refine Br.dec (fun h => ?_) fun h => ?_
  · have h : a ≤ x := h
    simp [m_inRange, h]
  · exact (decide_eq_false fun hh => h hh.1).symm
theorem sound_within : Sound Try.prog 61 s_inRange :=
  Sound.mkS tabOK envNil mixed Try.func61 (by kernel_rfl) (by kernel_rfl) fun x h => p_within x.1 x.2.1 x.2.2.1 h
theorem p_containsInt (xs : List Int) (x : Int) (h : short xs) : fnW tab (look []) s_containsInt Try.f131 (xs, x, ()) (fun (z : Bool) => z = m_containsInt xs x) := by
  refine Eq.mp (w_containsInt xs x _) ?_
  unfold short at h
  refine loop_range xs.length (fun v => v.1) (fun j _ => x ∉ xs.take j) rfl (by simp) ?_
  rintro j ⟨i, ⟨⟩⟩ K hj hi hR hK
  dsimp only at hi ⊢
  subst hi
  refine Br.dec (fun hl => ?_) fun hl => ?_
  · have hl : j < xs.length := by omega
    refine ⟨_, idx_nat hl, ⟨fun he => ?_, fun he => ?_⟩⟩
    · have hm := List.getElem_mem hl
      simp only [beq_iff_eq] at he
      rw [he] at hm
      exact (decide_eq_true hm).symm
    · rw [wrap_nat (by omega)]
      refine hK hl _ rfl ?_
      simp only [beq_eq_false_iff_ne, ne_eq] at he
      rw [List.take_succ_eq_append_getElem hl]
      simp only [List.mem_append, List.mem_singleton, not_or]
      exact ⟨hR, fun hx => he hx.symm⟩
  · have : j = xs.length := by omega
    subst this
    rw [List.take_length] at hR
    exact (decide_eq_false hR).symm
theorem sound_containsInt : Sound Try.prog 131 s_containsInt :=
  Sound.mkS tabOK envNil mixed Try.func131 (by kernel_rfl) (by kernel_rfl) fun x h => p_containsInt x.1 x.2.1 h
theorem eq_loop (a b : List Int) (hlen : a.length = b.length) (h : short a) :
    WLoop (fun (v3 : Int × PUnit) (k4 : Int × PUnit → Prop) =>
      Br (decide (v3.fst < (↑a.length : Int))) (∃ (y5 : Int), idx a v3.fst = some y5 ∧ ∃ (y6 : Int), idx b v3.fst = some y6 ∧ Br (y5 != y6) (false = m_equalInts a b) (k4 (IntKind.i64.wrap (v3.fst + 1), ())))
        (true = m_equalInts a b))
    (0, PUnit.unit) := by
  unfold short at h
  refine loop_range a.length (fun v => v.1) (fun j _ => a.take j = b.take j) rfl (by simp) ?_
  rintro j ⟨i, ⟨⟩⟩ K hj hi hR hK
  dsimp only at hi ⊢
  subst hi
  refine Br.dec (fun hl => ?_) fun hl => ?_
  · have hl1 : j < a.length := by omega
    have hl2 : j < b.length := by omega
    refine ⟨_, idx_nat hl1, _, idx_nat hl2, ⟨fun he => ?_, fun he => ?_⟩⟩
    · simp only [bne_iff_ne, ne_eq] at he
      refine (decide_eq_false fun hab => he ?_).symm
      subst hab
      rfl
    · rw [wrap_nat (by omega)]
      refine hK hl1 _ rfl ?_
      simp only [bne_eq_false_iff_eq] at he
      rw [List.take_succ_eq_append_getElem hl1, List.take_succ_eq_append_getElem hl2, hR, he]
  · have hj' : j = a.length := by omega
    subst hj'
    rw [List.take_length, hlen, List.take_length] at hR
    exact (decide_eq_true hR).symm
theorem p_equalInts (a b : List Int) (h : short a) : fnW tab (look []) s_equalInts Try.f90 (a, b, ()) (fun (z : Bool) => z = m_equalInts a b) := by
  refine Eq.mp (w_equalInts a b _) ⟨fun hl => ?_, fun hl => ?_⟩
  · simp only [bne_iff_ne, ne_eq, Int.natCast_inj] at hl
    exact (decide_eq_false fun hab => hl (by rw [hab])).symm
  · simp only [bne_eq_false_iff_eq, Int.natCast_inj] at hl
    exact eq_loop a b hl h
theorem sound_equalInts : Sound Try.prog 90 s_equalInts :=
  Sound.mkS tabOK envNil mixed Try.func90 (by kernel_rfl) (by kernel_rfl) fun x h => p_equalInts x.1 x.2.1 h
theorem p_slicesEqual (a b : List Int) (h : short a) : fnW tab (look []) s_equalInts Try.f93 (a, b, ()) (fun (z : Bool) => z = m_equalInts a b) := by
  refine Eq.mp (w_slicesEqual a b _) ⟨fun hl => ?_, fun hl => ?_⟩
  · simp only [bne_iff_ne, ne_eq, Int.natCast_inj] at hl
    exact (decide_eq_false fun hab => hl (by rw [hab])).symm
  · simp only [bne_eq_false_iff_eq, Int.natCast_inj] at hl
    exact eq_loop a b hl h
theorem sound_slicesEqual : Sound Try.prog 93 s_equalInts :=
  Sound.mkS tabOK envNil mixed Try.func93 (by kernel_rfl) (by kernel_rfl) fun x h => p_slicesEqual x.1 x.2.1 h
end Go.Proofs.Ytfghmbpogmcboaa

namespace Go.Proofs.Ytfghmbpogmcboaa
open Go.RowKit

def shortLL (xs : List (List Int)) : Prop := xs.length ≤ 4294967296 ∧ ∀ r ∈ xs, short r
def roomy (room : Int) : Prop := 0 ≤ room ∧ room ≤ 4294967296
def m_sz (n : Nat) (room : Int) : Int := if room - n < 0 then -1 else room - n
def m_szL (xs : List Int) (room : Int) : Int := m_sz xs.length room
def szGo : List (List Int) → Int → Int
  | [], room => room
  | r :: rs, room => if m_szL r room < 0 then -1 else szGo rs (m_szL r room)
def m_szLL (xs : List (List Int)) (room : Int) : Int := if m_sz xs.length room < 0 then -1 else szGo xs (m_sz xs.length room)
def m_eqLL (a b : List (List Int)) : Bool := decide (a = b)
noncomputable abbrev s_szL : Spec := mkS (.pair tL (.pair tI .unit)) tI false true (fun x => short x.1 ∧ roomy x.2.1) (fun x => m_szL x.1 x.2.1)
noncomputable abbrev s_szLL : Spec := mkS (.pair tLL (.pair tI .unit)) tI false true (fun x => shortLL x.1 ∧ roomy x.2.1) (fun x => m_szLL x.1 x.2.1)
noncomputable abbrev s_toL : Spec := mkS (.pair tL .unit) tL false true (fun x => short x.1) (fun x => x.1)
noncomputable abbrev s_toLL : Spec := mkS (.pair tLL .unit) tLL false true (fun x => shortLL x.1) (fun x => x.1)
noncomputable abbrev s_eqLL : Spec := mkS (.pair tLL (.pair tLL .unit)) .bool false true (fun x => shortLL x.1) (fun x => m_eqLL x.1 x.2.1)
theorem w_szL (xs : List Int) (room : Int) (P : Int → Prop) : (Br (decide (IntKind.i64.wrap (room - (↑xs.length : Int)) < 0)) (P (-1)) (P (IntKind.i64.wrap (room - (↑xs.length : Int))))) = fnW tab (look []) s_szL Try.f66 (xs, room, ()) P := by kernel_rfl
theorem w_szLL (xs : List (List Int)) (room : Int) (P : Int → Prop) : (Br (decide (IntKind.i64.wrap (room - (↑xs.length : Int)) < 0)) (P (-1))
  (WLoop
    (fun (v3 : Int × Int × PUnit) (k4 : Int × Int × PUnit → Prop) =>
      Br (decide (v3.2.fst < (↑xs.length : Int)))
        (∃ (y5 : List Int), idx xs v3.2.fst = some y5 ∧ ∃ (y6 : Int), s_szL.fn (y5, v3.fst, ()) = some y6 ∧ Br (decide (y6 < 0)) (P (-1)) (k4 (y6, IntKind.i64.wrap (v3.2.fst + 1), ()))) (P v3.fst))
    (IntKind.i64.wrap (room - (↑xs.length : Int)), 0, PUnit.unit))) = fnW tab (look [(66, s_szL)]) s_szLL Try.f55 (xs, room, ()) P := by kernel_rfl
theorem w_toL (xs : List Int) (P : List Int → Prop) : ((0 ≤ (↑xs.length : Int) ∧ (↑xs.length : Int) < (↑maxRow : Int) + 1) ∧
  (↑xs.length : Int) = (↑xs.length : Int) ∧
    0 = 0 ∧
      (List.replicate (↑xs.length : Int).toNat (Int.ofNat 0)).length = (List.replicate (↑xs.length : Int).toNat (Int.ofNat 0)).length ∧
        WLoop
          (fun (v2 : Int × List Int × PUnit) (k3 : Int × List Int × PUnit → Prop) =>
            Br (decide (v2.fst < (↑xs.length : Int)))
              (∃ (y4 : Int),
                idx xs v2.fst = some y4 ∧
                  (0 ≤ v2.fst ∧ v2.fst < (↑v2.2.fst.length : Int)) ∧
                    0 + v2.fst.toNat < v2.2.fst.length ∧
                      0 = 0 ∧ v2.2.fst.length = (v2.2.fst.set (0 + v2.fst.toNat) y4).length ∧ k3 (IntKind.i64.wrap (v2.fst + 1), v2.2.fst.set (0 + v2.fst.toNat) y4, ()))
              (P (List.take v2.2.fst.length (List.drop 0 v2.2.fst))))
          (0, List.replicate (↑xs.length : Int).toNat (Int.ofNat 0), PUnit.unit)) = fnW tab (look []) s_toL Try.f26 (xs, ()) P := by kernel_rfl
theorem w_toLL (xs : List (List Int)) (P : List (List Int) → Prop) : ((0 ≤ (↑xs.length : Int) ∧ (↑xs.length : Int) < (↑maxRow : Int) + 1) ∧
  (↑xs.length : Int) = (↑xs.length : Int) ∧
    0 = 0 ∧
      (List.replicate (↑xs.length : Int).toNat ([] : List Int)).length = (List.replicate (↑xs.length : Int).toNat ([] : List Int)).length ∧
        WLoop
          (fun (v2 : Int × List (List Int) × PUnit) (k3 : Int × List (List Int) × PUnit → Prop) =>
            Br (decide (v2.fst < (↑xs.length : Int)))
              (∃ (y4 : List Int),
                idx xs v2.fst = some y4 ∧
                  ∃ (y5 : List Int),
                    s_toL.fn (y4, ()) = some y5 ∧
                      (0 ≤ v2.fst ∧ v2.fst < (↑v2.2.fst.length : Int)) ∧
                        0 + v2.fst.toNat < v2.2.fst.length ∧
                          0 = 0 ∧ v2.2.fst.length = (v2.2.fst.set (0 + v2.fst.toNat) y5).length ∧ k3 (IntKind.i64.wrap (v2.fst + 1), v2.2.fst.set (0 + v2.fst.toNat) y5, ()))
              (P (List.take v2.2.fst.length (List.drop 0 v2.2.fst))))
          (0, List.replicate (↑xs.length : Int).toNat ([] : List Int), PUnit.unit)) = fnW tab (look [(26, s_toL)]) s_toLL Try.f59 (xs, ()) P := by kernel_rfl
theorem w_eqL (a b : List Int) (P : Bool → Prop) : (Br ((↑a.length : Int) != (↑b.length : Int)) (P false)
  (WLoop
    (fun (v3 : Int × PUnit) (k4 : Int × PUnit → Prop) =>
      Br (decide (v3.fst < (↑a.length : Int))) (∃ (y5 : Int), idx a v3.fst = some y5 ∧ ∃ (y6 : Int), idx b v3.fst = some y6 ∧ Br (y5 != y6) (P false) (k4 (IntKind.i64.wrap (v3.fst + 1), ())))
        (P true))
    (0, PUnit.unit))) = fnW tab (look []) s_equalInts Try.f18 (a, b, ()) P := by kernel_rfl
theorem w_eqLL (a b : List (List Int)) (P : Bool → Prop) : (Br ((↑a.length : Int) != (↑b.length : Int)) (P false)
  (WLoop
    (fun (v3 : Int × PUnit) (k4 : Int × PUnit → Prop) =>
      Br (decide (v3.fst < (↑a.length : Int)))
        (∃ (y5 : List Int),
          idx a v3.fst = some y5 ∧ ∃ (y6 : List Int), idx b v3.fst = some y6 ∧ ∃ (y7 : Bool), s_equalInts.fn (y5, y6, ()) = some y7 ∧ Br (!y7) (P false) (k4 (IntKind.i64.wrap (v3.fst + 1), ())))
        (P true))
    (0, PUnit.unit))) = fnW tab (look [(18, s_equalInts)]) s_eqLL Try.f35 (a, b, ()) P := by kernel_rfl
theorem m_sz_room {n : Nat} {room : Int} (h : roomy room) (h2 : ¬ m_sz n room < 0) : roomy (m_sz n room) := by
  unfold m_sz roomy at *
  split at h2 <;> simp_all
  omega
theorem p_szL (xs : List Int) (room : Int) (h : short xs ∧ roomy room) : fnW tab (look []) s_szL Try.f66 (xs, room, ()) (fun (z : Int) => z = m_szL xs room) := by
  obtain ⟨h1, h2, h3⟩ := h
  unfold short at h1
  refine Eq.mp (w_szL xs room _) ?_
  rw [wrap_id (by omega) (by omega)]
  refine Br.dec (fun h => ?_) fun h => ?_
  · simp only [m_szL, m_sz, if_pos h]
  · simp only [m_szL, m_sz, if_neg h]
theorem sound_szL : Sound Try.prog 66 s_szL :=
  Sound.mkS tabOK envNil mixed Try.func66 (by kernel_rfl) (by kernel_rfl) fun x h => p_szL x.1 x.2.1 h
theorem p_szLL (xs : List (List Int)) (room : Int) (h : shortLL xs ∧ roomy room) : fnW tab (look [(66, s_szL)]) s_szLL Try.f55 (xs, room, ()) (fun (z : Int) => z = m_szLL xs room) := by
  obtain ⟨⟨h1, h4⟩, h2, h3⟩ := h
  refine Eq.mp (w_szLL xs room _) ?_
  rw [wrap_id (by omega) (by omega)]
  refine Br.dec (fun h => ?_) fun h => ?_
  · simp only [m_szLL, m_sz, if_pos h]; rfl
  · refine loop_range xs.length (fun v => v.2.1) (fun j v => roomy v.1 ∧ szGo (xs.drop j) v.1 = m_szLL xs room) rfl ?_ ?_
    · refine ⟨by unfold roomy; omega, ?_⟩
      simp only [m_szLL, m_sz, if_neg h, List.drop_zero]
    · rintro j ⟨r, i, ⟨⟩⟩ K hj hi ⟨hr, hR⟩ hK
      dsimp only at hi hr hR ⊢
      subst hi
      refine Br.dec (fun hl => ?_) fun hl => ?_
      · have hl : j < xs.length := by omega
        have hd : xs.drop j = xs[j] :: xs.drop (j + 1) := List.drop_eq_getElem_cons hl
        refine ⟨_, idx_nat hl, _, if_pos ⟨h4 _ (List.getElem_mem hl), hr⟩, ?_⟩
        rw [hd] at hR
        simp only [szGo] at hR
        refine Br.dec (fun hn => ?_) fun hn => ?_
        · have hn : m_szL xs[j] r < 0 := hn
          rw [if_pos hn] at hR
          exact hR
        · have hn : ¬ m_szL xs[j] r < 0 := hn
          rw [if_neg hn] at hR
          rw [wrap_nat (by omega)]
          exact hK hl _ rfl ⟨m_sz_room hr hn, hR⟩
      · have : j = xs.length := by omega
        subst this
        rw [List.drop_length] at hR
        exact hR
theorem sound_szLL : Sound Try.prog 55 s_szLL :=
  Sound.mkS tabOK (envCons sound_szL envNil) mixed Try.func55 (by kernel_rfl) (by kernel_rfl) fun x h => p_szLL x.1 x.2.1 h
theorem take_set_succ {α : Type} {ys xs : List α} {j : Nat} (h : j < xs.length) (hl : ys.length = xs.length) (ht : ys.take j = xs.take j) : (ys.set j xs[j]).take (j + 1) = xs.take (j + 1) := by
  have h1 : j < (ys.set j xs[j]).length := by rw [List.length_set]; omega
  rw [List.take_succ_eq_append_getElem h1, List.take_succ_eq_append_getElem h, List.getElem_set_self, List.take_set_of_le (Nat.le_refl j), ht]
theorem p_toL (xs : List Int) (h : short xs) : fnW tab (look []) s_toL Try.f26 (xs, ()) (fun (z : List Int) => z = xs) := by
  unfold short at h
  refine Eq.mp (w_toL xs _) ?_
  refine ⟨⟨by omega, by show (xs.length : Int) < (4294967296 : Int) + 1; omega⟩, rfl, rfl, rfl, ?_⟩
  refine loop_range xs.length (fun v => v.1) (fun j v => v.2.1.length = xs.length ∧ v.2.1.take j = xs.take j) rfl ⟨by simp, by simp⟩ ?_
  rintro j ⟨i, ys, ⟨⟩⟩ K hj hi ⟨h1, h2⟩ hK
  dsimp only at hi h1 h2 ⊢
  subst hi
  refine Br.dec (fun hl => ?_) fun hl => ?_
  · have hl : j < xs.length := by omega
    refine ⟨_, idx_nat hl, ⟨by omega, by omega⟩, by rw [Int.toNat_natCast]; omega, rfl, by rw [List.length_set], ?_⟩
    rw [wrap_nat (by omega), Int.toNat_natCast, Nat.zero_add]
    exact hK hl _ rfl ⟨by rw [List.length_set]; exact h1, take_set_succ hl h1 h2⟩
  · have : j = xs.length := by omega
    subst this
    rw [List.take_length, ← h1, List.take_length] at h2
    rw [List.drop_zero, List.take_length]
    exact h2
theorem sound_toL : Sound Try.prog 26 s_toL :=
  Sound.mkS tabOK envNil mixed Try.func26 (by kernel_rfl) (by kernel_rfl) fun x h => p_toL x.1 h
theorem p_toLL (xs : List (List Int)) (h : shortLL xs) : fnW tab (look [(26, s_toL)]) s_toLL Try.f59 (xs, ()) (fun (z : List (List Int)) => z = xs) := by
  obtain ⟨h, h4⟩ := h
  refine Eq.mp (w_toLL xs _) ?_
  refine ⟨⟨by omega, by show (xs.length : Int) < (4294967296 : Int) + 1; omega⟩, rfl, rfl, rfl, ?_⟩
  refine loop_range xs.length (fun v => v.1) (fun j v => v.2.1.length = xs.length ∧ v.2.1.take j = xs.take j) rfl ⟨by simp, by simp⟩ ?_
  rintro j ⟨i, ys, ⟨⟩⟩ K hj hi ⟨h1, h2⟩ hK
  dsimp only at hi h1 h2 ⊢
  subst hi
  refine Br.dec (fun hl => ?_) fun hl => ?_
  · have hl : j < xs.length := by omega
    refine ⟨_, idx_nat hl, _, if_pos (h4 _ (List.getElem_mem hl)), ⟨by omega, by omega⟩, by rw [Int.toNat_natCast]; omega, rfl, by rw [List.length_set], ?_⟩
    rw [wrap_nat (by omega), Int.toNat_natCast, Nat.zero_add]
    exact hK hl _ rfl ⟨by rw [List.length_set]; exact h1, take_set_succ hl h1 h2⟩
  · have : j = xs.length := by omega
    subst this
    rw [List.take_length, ← h1, List.take_length] at h2
    rw [List.drop_zero, List.take_length]
    exact h2
theorem sound_toLL : Sound Try.prog 59 s_toLL :=
  Sound.mkS tabOK (envCons sound_toL envNil) mixed Try.func59 (by kernel_rfl) (by kernel_rfl) fun x h => p_toLL x.1 h
theorem p_eqL (a b : List Int) (h : short a) : fnW tab (look []) s_equalInts Try.f18 (a, b, ()) (fun (z : Bool) => z = m_equalInts a b) := by
  refine Eq.mp (w_eqL a b _) ⟨fun hl => ?_, fun hl => ?_⟩
  · simp only [bne_iff_ne, ne_eq, Int.natCast_inj] at hl
    exact (decide_eq_false fun hab => hl (by rw [hab])).symm
  · simp only [bne_eq_false_iff_eq, Int.natCast_inj] at hl
    exact eq_loop a b hl h
theorem sound_eqL : Sound Try.prog 18 s_equalInts :=
  Sound.mkS tabOK envNil mixed Try.func18 (by kernel_rfl) (by kernel_rfl) fun x h => p_eqL x.1 x.2.1 h
theorem p_eqLL (a b : List (List Int)) (h : shortLL a) : fnW tab (look [(18, s_equalInts)]) s_eqLL Try.f35 (a, b, ()) (fun (z : Bool) => z = m_eqLL a b) := by
  obtain ⟨h, h4⟩ := h
  refine Eq.mp (w_eqLL a b _) ⟨fun hl => ?_, fun hl => ?_⟩
  · simp only [bne_iff_ne, ne_eq, Int.natCast_inj] at hl
    exact (decide_eq_false fun hab => hl (by rw [hab])).symm
  · simp only [bne_eq_false_iff_eq, Int.natCast_inj] at hl
    refine loop_range a.length (fun v => v.1) (fun j _ => a.take j = b.take j) rfl (by simp) ?_
    rintro j ⟨i, ⟨⟩⟩ K hj hi hR hK
    dsimp only at hi ⊢
    subst hi
    refine Br.dec (fun hlt => ?_) fun hlt => ?_
    · have hl1 : j < a.length := by omega
      have hl2 : j < b.length := by omega
      refine ⟨_, idx_nat hl1, _, idx_nat hl2, _, if_pos (h4 _ (List.getElem_mem hl1)), ⟨fun he => ?_, fun he => ?_⟩⟩
      · refine (decide_eq_false fun hab => ?_).symm
        subst hab
        simp [m_equalInts] at he
      · rw [wrap_nat (by omega)]
        refine hK hl1 _ rfl ?_
        simp only [m_equalInts, Bool.not_eq_false', decide_eq_true_eq] at he
        rw [List.take_succ_eq_append_getElem hl1, List.take_succ_eq_append_getElem hl2, hR]
        exact congrArg (fun x => List.take j b ++ [x]) he
    · have hj' : j = a.length := by omega
      subst hj'
      rw [List.take_length, hl, List.take_length] at hR
      exact (decide_eq_true hR).symm
theorem sound_eqLL : Sound Try.prog 35 s_eqLL :=
  Sound.mkS tabOK (envCons sound_eqL envNil) mixed Try.func35 (by kernel_rfl) (by kernel_rfl) fun x h => p_eqLL x.1 x.2.1 h
end Go.Proofs.Ytfghmbpogmcboaa

namespace Go.Proofs.Ytfghmbpogmcboaa
open Go.RowKit

def DL (n : Int) (xs : List Int) (k : Nat) : Prop := ∀ j (h : j < xs.length), j < k → 0 ≤ xs[j] ∧ xs[j] ≤ n - 1 ∧ xs[j] ∉ xs.take j
noncomputable def dec (p : Prop) : Bool := @decide p (Classical.propDecidable p)
theorem dec_true {p : Prop} (h : p) : true = dec p := (@decide_eq_true p (Classical.propDecidable p) h).symm
theorem dec_false {p : Prop} (h : ¬ p) : false = dec p := (@decide_eq_false p (Classical.propDecidable p) h).symm
theorem dec_iff {p : Prop} : dec p = true ↔ p := @decide_eq_true_iff p (Classical.propDecidable p)
theorem dec_not {p : Prop} : dec p = false ↔ ¬ p := @decide_eq_false_iff_not p (Classical.propDecidable p)
theorem m_range_iff {x a b : Int} : m_inRange x a b = true ↔ a ≤ x ∧ x ≤ b := decide_eq_true_iff
theorem bnot_true {b : Bool} (h : (!b) = true) : ¬ b = true := by cases b <;> simp_all
theorem bnot_false {b : Bool} (h : (!b) = false) : b = true := by cases b <;> simp_all
theorem dl_step {n : Int} {xs : List Int} {j : Nat} (hl : j < xs.length) (h : DL n xs j) (h1 : 0 ≤ xs[j]) (h2 : xs[j] ≤ n - 1) (h3 : xs[j] ∉ xs.take j) : DL n xs (j + 1) := by
  intro i hi hij
  by_cases e : i = j
  · subst e; exact ⟨h1, h2, h3⟩
  · exact h i hi (by omega)
theorem short_take {xs : List Int} (h : short xs) (j : Nat) : short (xs.take j) := by
  unfold short at *
  rw [List.length_take]
  omega
end Go.Proofs.Ytfghmbpogmcboaa

namespace Go.Proofs.Ytfghmbpogmcboaa
open Go.RowKit

theorem roomy_1m : roomy 1048576 := ⟨by decide, by decide⟩
end Go.Proofs.Ytfghmbpogmcboaa

namespace Go.Proofs.Ytfghmbpogmcboaa
open Go.RowKit

abbrev PP : Type := Int × ByteArray × List (List Int) × Unit
noncomputable def m_isPerm (p : List Int) : Bool := dec (1 ≤ p.length ∧ p.length ≤ 20 ∧ DL p.length p p.length)
noncomputable def m_genOK (n : Int) (p : List Int) : Bool := dec ((p.length : Int) = n ∧ m_isPerm p = true)
noncomputable def m_isGens (n : Int) (g : List (List Int)) : Bool := dec ((1 ≤ n ∧ n ≤ 20) ∧ g.length ≤ 8 ∧ ∀ p ∈ g, m_genOK n p = true)
def m_indexF {α : Type} (P : α → Bool) : List α → Int → Int
  | [], _ => -1
  | y :: r, i => if P y = true then i else m_indexF P r (i + 1)
abbrev tG1 : Ty := .clo 152 (.pair (.ptr tI) .unit)
def NameAt (s : ByteArray) (i : Nat) : Prop := ∃ c : UInt8, s[i]? = some c ∧ 65 ≤ c.toNat ∧ c.toNat ≤ 90 ∧ ∀ k, k < i → s[k]? ≠ some c
noncomputable def m_nameAt (s : ByteArray) (i : Int) : Bool := dec (NameAt s i.toNat)
noncomputable def m_isNames (s : ByteArray) : Bool := dec ((1 ≤ s.size ∧ s.size ≤ 8) ∧ ∀ j, j < s.size → NameAt s j)
noncomputable def m_validP (p : PP) : Bool := dec (m_isGens p.1 p.2.2.1 = true ∧ m_isNames p.2.1 = true ∧ p.2.1.size = p.2.2.1.length)
def shortP (p : PP) : Prop := p.2.1.size ≤ 4294967296 ∧ shortLL p.2.2.1
noncomputable abbrev s_lenL : Spec := mkS (.pair tL .unit) tI false true (fun _ => True) (fun x => (List.length x.1 : Int))
noncomputable abbrev s_isPerm : Spec := mkS (.pair tL .unit) .bool false true (fun x => short x.1) (fun x => m_isPerm x.1)
noncomputable abbrev s_isGens : Spec := mkS (.pair tI (.pair tLL .unit)) .bool false true (fun x => shortLL x.2.1) (fun x => m_isGens x.1 x.2.1)
noncomputable abbrev s_gens1 : Spec := mkS (.pair tL (.pair (.ptr tI) .unit)) .bool false true (fun x => short x.1) (fun x => !m_genOK x.2.1 x.1)
noncomputable abbrev s_ixG : Spec := mkS (.pair tLL (.pair tG1 .unit)) tI false true (fun x => shortLL x.1) (fun x => m_indexF (fun p => !m_genOK x.2.1.1 p) x.1 0)
noncomputable abbrev s_ctG : Spec := mkS (.pair tLL (.pair tG1 .unit)) .bool false true (fun x => shortLL x.1) (fun x => List.any x.1 (fun p => !m_genOK x.2.1.1 p))
noncomputable abbrev s_nameAt : Spec := mkS (.pair .str (.pair tI .unit)) .bool false true (fun x => 0 ≤ x.2.1 ∧ x.2.1 < x.1.size ∧ x.1.size ≤ 4294967296) (fun x => m_nameAt x.1 x.2.1)
noncomputable abbrev s_isNames : Spec := mkS (.pair .str .unit) .bool false true (fun x => x.1.size ≤ 4294967296) (fun x => m_isNames x.1)
noncomputable abbrev s_validP : Spec := mkS (.pair tPuzzle .unit) .bool false true (fun x => shortP x.1) (fun x => m_validP x.1)
def m_szP (p : PP) (room : Int) : Int := if room - p.2.1.size < 0 then -1 else if m_szLL p.2.2.1 (room - p.2.1.size) < 0 then -1 else m_szLL p.2.2.1 (room - p.2.1.size)
def m_eqP (a b : PP) : Bool := decide (a.1 = b.1) && (decide (a.2.1 = b.2.1) && decide (a.2.2.1 = b.2.2.1))
noncomputable abbrev s_szP : Spec := mkS (.pair tPuzzle (.pair tI .unit)) tI false true (fun x => shortP x.1 ∧ roomy x.2.1) (fun x => m_szP x.1 x.2.1)
noncomputable abbrev s_toP : Spec := mkS (.pair tPuzzle .unit) tPuzzle false true (fun x => shortP x.1) (fun x => x.1)
noncomputable abbrev s_eqP : Spec := mkS (.pair tPuzzle (.pair tPuzzle .unit)) .bool false true (fun x => shortP x.1) (fun x => m_eqP x.1 x.2.1)
theorem w_lenL (xs : List Int) (P : Int → Prop) : (P (↑xs.length : Int)) = fnW tab (look []) s_lenL Try.f136 (xs, ()) P := by kernel_rfl
theorem w_specIsPerm (p : List Int) (P : Bool → Prop) : (∃ (y2 : Bool),
  s_inRange.fn ((↑p.length : Int), (1 : Int), (20 : Int), ()) = some y2 ∧
    Br (!y2) (P false)
      (WLoop
        (fun (v3 : Int × PUnit) (k4 : Int × PUnit → Prop) =>
          Br (decide (v3.fst < (↑p.length : Int)))
            (∃ (y5 : Int),
              idx p v3.fst = some y5 ∧
                ∃ (y6 : Bool),
                  s_inRange.fn (y5, (0 : Int), IntKind.i64.wrap ((↑p.length : Int) - (1 : Int)), ()) = some y6 ∧
                    Br (!y6) (P false)
                      (((0 : Int) ≤ (0 : Int) ∧ (0 : Int) ≤ v3.fst ∧ v3.fst ≤ (↑p.length : Int)) ∧
                        ∃ (y7 : Int),
                          idx p v3.fst = some y7 ∧
                            ∃ (y8 : Bool),
                              s_containsInt.fn (List.drop (Int.toNat (0 : Int)) (List.take v3.fst.toNat p), y7, ()) = some y8 ∧ Br y8 (P false) (k4 (IntKind.i64.wrap (v3.fst + (1 : Int)), ()))))
            (P true))
        ((0 : Int), PUnit.unit))) = fnW tab (look [(57, s_inRange), (131, s_containsInt)]) s_isPerm Try.f150 (p, ()) P := by kernel_rfl
theorem w_implIsPerm (p : List Int) (P : Bool → Prop) : (∃ (y2 : Int),
  s_lenL.fn (p, ()) = some y2 ∧
    ∃ (y3 : Bool),
      s_inRange.fn (y2, (1 : Int), (20 : Int), ()) = some y3 ∧
        Br (!y3) (P false)
          (WLoop
            (fun (v4 : Int × Int × PUnit) (k5 : Int × Int × PUnit → Prop) =>
              Br (decide (v4.2.fst < (↑p.length : Int)))
                (∃ (y6 : Int),
                  idx p v4.2.fst = some y6 ∧
                    ∃ (y7 : Int),
                      s_lenL.fn (p, ()) = some y7 ∧
                        ∃ (y8 : Bool),
                          s_inRange.fn (y6, (0 : Int), IntKind.i64.wrap (y7 - (1 : Int)), ()) = some y8 ∧
                            Br (!y8) (P false)
                              (¬y6 < (0 : Int) ∧
                                k5
                                  (IntKind.i64.wrap
                                      (↑(BitVec.ofInt IntKind.i64.bits v4.fst ||| BitVec.ofInt IntKind.i64.bits (IntKind.i64.wrap ((1 : Int) * (2 : Int) ^ min y6.toNat IntKind.i64.bits))).toNat :
                                        Int),
                                    IntKind.i64.wrap (v4.2.fst + (1 : Int)), ())))
                (¬(↑p.length : Int) < (0 : Int) ∧ P (v4.fst == IntKind.i64.wrap (IntKind.i64.wrap ((1 : Int) * (2 : Int) ^ min (↑p.length : Int).toNat IntKind.i64.bits) - (1 : Int)))))
            ((0 : Int), (0 : Int), PUnit.unit))) = fnW tab (look [(61, s_inRange), (136, s_lenL)]) s_isPerm Try.f137 (p, ()) P := by kernel_rfl
theorem w_specIsGens (n : Int) (g : List (List Int)) (P : Bool → Prop) : (∃ (y3 : Bool),
  s_inRange.fn (n, (1 : Int), (20 : Int), ()) = some y3 ∧
    Br (!y3) (P false)
      (Br (decide ((↑g.length : Int) > (8 : Int))) (P false)
        (WLoop
          (fun (v4 : Int × PUnit) (k5 : Int × PUnit → Prop) =>
            Br (decide (v4.fst < (↑g.length : Int)))
              (∃ (y6 : List Int),
                idx g v4.fst = some y6 ∧
                  Br ((↑y6.length : Int) != n) (P false)
                    (∃ (y7 : List Int), idx g v4.fst = some y7 ∧ ∃ (y8 : Bool), s_isPerm.fn (y7, ()) = some y8 ∧ Br (!y8) (P false) (k5 (IntKind.i64.wrap (v4.fst + (1 : Int)), ()))))
              (P true))
          ((0 : Int), PUnit.unit)))) = fnW tab (look [(57, s_inRange), (150, s_isPerm)]) s_isGens Try.f111 (n, g, ()) P := by kernel_rfl
theorem w_gens1 (p : List Int) (n : Int) (P : Bool → Prop) : (∃ (y3 : Int), s_lenL.fn (p, ()) = some y3 ∧ Br (y3 != n) (P true) (∃ (y4 : Bool), s_isPerm.fn (p, ()) = some y4 ∧ P !y4)) = fnW tab (look [(136, s_lenL), (137, s_isPerm)]) s_gens1 Try.f152 (p, n, ()) P := by kernel_rfl
theorem w_ixG (g : List (List Int)) (n : Int × Unit) (P : Int → Prop) : (WLoop
  (fun (v3 : Int × PUnit) (k4 : Int × PUnit → Prop) =>
    Br (decide (v3.fst < (↑g.length : Int)))
      (∃ (y5 : List Int), idx g v3.fst = some y5 ∧ ∃ (y6 : Bool), s_gens1.fn (y5, n.fst, ()) = some y6 ∧ Br y6 (P v3.fst) (k4 (IntKind.i64.wrap (v3.fst + (1 : Int)), ()))) (P (-1 : Int)))
  ((0 : Int), PUnit.unit)) = fnW tab (look [(152, s_gens1)]) s_ixG Try.f166 (g, n, ()) P := by kernel_rfl
theorem w_ctG (g : List (List Int)) (n : Int × Unit) (P : Bool → Prop) : (∃ (y3 : Int), s_ixG.fn (g, n, ()) = some y3 ∧ P (decide (y3 ≥ (0 : Int)))) = fnW tab (look [(166, s_ixG)]) s_ctG Try.f151 (g, n, ()) P := by kernel_rfl
theorem w_implIsGens (n : Int) (g : List (List Int)) (P : Bool → Prop) : (∃ (y3 : Bool),
  s_inRange.fn (n, (1 : Int), (20 : Int), ()) = some y3 ∧ Br y3 (Br (decide ((↑g.length : Int) ≤ (8 : Int))) (∃ (y4 : Bool), s_ctG.fn (g, (n, ()), ()) = some y4 ∧ P !y4) (P false)) (P false)) = fnW tab (look [(61, s_inRange), (151, s_ctG)]) s_isGens Try.f114 (n, g, ()) P := by kernel_rfl
theorem w_nameAt (s : ByteArray) (i : Int) (P : Bool → Prop) : ((0 : Int) ≤ i ∧
  ∃ (y3 : UInt8),
    s[i.toNat]? = some y3 ∧
      Br (decide ((↑y3.toNat : Int) < (65 : Int))) (P false)
        ((0 : Int) ≤ i ∧
          ∃ (y4 : UInt8),
            s[i.toNat]? = some y4 ∧
              Br (decide ((↑y4.toNat : Int) > (90 : Int))) (P false)
                (WLoop
                  (fun (v5 : Int × PUnit) (k6 : Int × PUnit → Prop) =>
                    Br (decide (v5.fst < i))
                      ((0 : Int) ≤ v5.fst ∧
                        ∃ (y7 : UInt8),
                          s[v5.fst.toNat]? = some y7 ∧
                            (0 : Int) ≤ i ∧ ∃ (y8 : UInt8), s[i.toNat]? = some y8 ∧ Br ((↑y7.toNat : Int) == (↑y8.toNat : Int)) (P false) (k6 (IntKind.i64.wrap (v5.fst + (1 : Int)), ())))
                      (P true))
                  ((0 : Int), PUnit.unit)))) = fnW tab (look []) s_nameAt Try.f112 (s, i, ()) P := by kernel_rfl
theorem w_isNames (s : ByteArray) (P : Bool → Prop) : (WLoop
  (fun (v2 : Int × PUnit) (k3 : Int × PUnit → Prop) =>
    Br (decide (v2.fst < (↑s.size : Int)))
      ((0 : Int) ≤ v2.fst ∧
        ∃ (y4 : UInt8),
          s[v2.fst.toNat]? = some y4 ∧
            ∃ (y5 : Bool),
              s_inRange.fn (IntKind.i64.wrap (↑y4.toNat : Int), (65 : Int), (90 : Int), ()) = some y5 ∧
                Br (!y5) (P false)
                  (WLoop
                    (fun (v6 : Int × PUnit) (k7 : Int × PUnit → Prop) =>
                      Br (decide (v6.fst < v2.fst))
                        ((0 : Int) ≤ v6.fst ∧
                          ∃ (y8 : UInt8),
                            s[v6.fst.toNat]? = some y8 ∧
                              (0 : Int) ≤ v2.fst ∧ ∃ (y9 : UInt8), s[v2.fst.toNat]? = some y9 ∧ Br ((↑y8.toNat : Int) == (↑y9.toNat : Int)) (P false) (k7 (IntKind.i64.wrap (v6.fst + (1 : Int)), ())))
                        (k3 (IntKind.i64.wrap (v2.fst + (1 : Int)), ())))
                    ((0 : Int), PUnit.unit)))
      (∃ (y4 : Bool), s_inRange.fn ((↑s.size : Int), (1 : Int), (8 : Int), ()) = some y4 ∧ P y4))
  ((0 : Int), PUnit.unit)) = fnW tab (look [(61, s_inRange)]) s_isNames Try.f115 (s, ()) P := by kernel_rfl
theorem w_specValidP (p : Int × ByteArray × List (List Int) × Unit) (P : Bool → Prop) : (Br ((↑p.snd.2.fst.length : Int) == (0 : Int)) (P false)
  (Br ((↑p.2.fst.size : Int) != (↑p.snd.2.fst.length : Int)) (P false)
    (∃ (y2 : Bool),
      s_isGens.fn (p.fst, p.snd.2.fst, ()) = some y2 ∧
        Br (!y2) (P false)
          (WLoop
            (fun (v3 : Int × Int × ByteArray × List (List Int) × PUnit) (k4 : Int × Int × ByteArray × List (List Int) × PUnit → Prop) =>
              Br (decide (v3.fst < (↑v3.snd.2.fst.size : Int)))
                (∃ (y5 : Bool), s_nameAt.fn (v3.snd.2.fst, v3.fst, ()) = some y5 ∧ Br (!y5) (P false) (k4 (IntKind.i64.wrap (v3.fst + (1 : Int)), v3.2.fst, v3.snd.2.fst, v3.2.snd.2.fst, ())))
                (P true))
            ((0 : Int), p.fst, p.2.fst, p.snd.2.fst, PUnit.unit))))) = fnW tab (look [(111, s_isGens), (112, s_nameAt)]) s_validP Try.f56 (p, ()) P := by kernel_rfl
theorem w_implValidP (p : Int × ByteArray × List (List Int) × Unit) (P : Bool → Prop) : (∃ (y2 : Bool),
  s_isGens.fn (p.fst, p.snd.2.fst, ()) = some y2 ∧ Br y2 (∃ (y3 : Bool), s_isNames.fn (p.2.fst, ()) = some y3 ∧ Br y3 (P ((↑p.2.fst.size : Int) == (↑p.snd.2.fst.length : Int))) (P false)) (P false)) = fnW tab (look [(114, s_isGens), (115, s_isNames)]) s_validP Try.f60 (p, ()) P := by kernel_rfl
theorem w_szP (p : Int × ByteArray × List (List Int) × Unit) (room : Int) (P : Int → Prop) : (Br (decide (IntKind.i64.wrap (room - (↑p.2.fst.size : Int)) < (0 : Int))) (P (-1 : Int))
  (∃ (y3 : Int), s_szLL.fn (p.snd.2.fst, IntKind.i64.wrap (room - (↑p.2.fst.size : Int)), ()) = some y3 ∧ Br (decide (y3 < (0 : Int))) (P (-1 : Int)) (P y3))) = fnW tab (look [(55, s_szLL)]) s_szP Try.f14 (p, room, ()) P := by kernel_rfl
theorem w_toP (p : Int × ByteArray × List (List Int) × Unit) (P : (Int × ByteArray × List (List Int) × Unit) → Prop) : (∃ (y2 : List (List Int)), s_toLL.fn (p.snd.2.fst, ()) = some y2 ∧ P (p.fst, p.2.fst, y2, ())) = fnW tab (look [(59, s_toLL)]) s_toP Try.f16 (p, ()) P := by kernel_rfl
theorem w_eqP (a b : Int × ByteArray × List (List Int) × Unit) (P : Bool → Prop) : (Br (a.fst != b.fst) (P false) (Br (!a.2.fst.toList == b.2.fst.toList) (P false) (∃ (y3 : Bool), s_eqLL.fn (a.snd.2.fst, b.snd.2.fst, ()) = some y3 ∧ Br (!y3) (P false) (P true)))) = fnW tab (look [(35, s_eqLL)]) s_eqP Try.f19 (a, b, ()) P := by kernel_rfl
theorem p_lenL (xs : List Int) (_ : True) : fnW tab (look []) s_lenL Try.f136 (xs, ()) (fun (z : Int) => z = (xs.length : Int)) := Eq.mp (w_lenL xs _) rfl
theorem sound_lenL : Sound Try.prog 136 s_lenL :=
  Sound.mkS tabOK envNil mixed Try.func136 (by kernel_rfl) (by kernel_rfl) fun x h => p_lenL x.1 h
theorem sub_len {α : Type} [DecidableEq α] : ∀ (l m : List α), l.Nodup → (∀ x ∈ l, x ∈ m) → l.length ≤ m.length
  | [], m, _, _ => Nat.zero_le _
  | a :: l, m, hn, hs => by
    have ha : a ∈ m := hs a (List.mem_cons_self ..)
    have hn := List.nodup_cons.1 hn
    have := sub_len l (m.erase a) hn.2 fun x hx => (List.mem_erase_of_ne (fun (e : x = a) => hn.1 (by rw [← e]; exact hx))).2 (hs x (List.mem_cons_of_mem _ hx))
    rw [List.length_erase_of_mem ha] at this
    have : 0 < m.length := List.length_pos_of_mem ha
    simp only [List.length_cons]
    omega
def upto (n : Nat) : List Int := (List.range n).map Int.ofNat
theorem upto_nodup (n : Nat) : (upto n).Nodup := by
  unfold upto
  exact List.Pairwise.map _ (fun a b hab e => hab (Int.ofNat.inj e)) List.nodup_range
theorem mem_upto {n : Nat} {x : Int} : x ∈ upto n ↔ 0 ≤ x ∧ x < n := by
  unfold upto
  simp only [List.mem_map, List.mem_range]
  constructor
  · rintro ⟨a, ha, rfl⟩; exact ⟨Int.natCast_nonneg _, Int.ofNat_lt.2 ha⟩
  · rintro ⟨h1, h2⟩; exact ⟨x.toNat, by omega, by simp only [Int.ofNat_eq_natCast]; omega⟩
theorem upto_len (n : Nat) : (upto n).length = n := by simp [upto]
theorem nodup_of_takes {xs : List Int} (h : ∀ j (hj : j < xs.length), xs[j] ∉ xs.take j) : xs.Nodup := by
  refine List.pairwise_iff_getElem.2 fun i j hi hj hij e => h j hj ?_
  rw [← e]
  exact List.mem_take_iff_getElem.2 ⟨i, by omega, rfl⟩
theorem takes_of_nodup {xs : List Int} (h : xs.Nodup) : ∀ j (hj : j < xs.length), xs[j] ∉ xs.take j := by
  intro j hj hm
  obtain ⟨i, hi, e⟩ := List.mem_take_iff_getElem.1 hm
  exact List.pairwise_iff_getElem.1 h i j (by omega) hj (by omega) e
/-- Points of a row that is as long as there are points: all of them, or one twice. -/
theorem all_iff_nodup {xs : List Int} (h : ∀ x ∈ xs, 0 ≤ x ∧ x < xs.length) : (∀ k : Nat, k < xs.length → (k : Int) ∈ xs) ↔ ∀ j (hj : j < xs.length), xs[j] ∉ xs.take j := by
  constructor
  · intro ha j hj hm
    have h1 := sub_len (upto xs.length) (xs.take j ++ xs.drop (j + 1)) (upto_nodup _) fun x hx => by
      obtain ⟨h1, h2⟩ := mem_upto.1 hx
      have hx := ha x.toNat (by omega)
      rw [show ((x.toNat : Nat) : Int) = x by omega] at hx
      rw [← List.take_append_drop j xs, List.mem_append, List.drop_eq_getElem_cons hj, List.mem_cons] at hx
      rcases hx with hx | rfl | hx
      · exact List.mem_append_left _ hx
      · exact List.mem_append_left _ hm
      · exact List.mem_append_right _ hx
    rw [upto_len, List.length_append, List.length_take, List.length_drop] at h1
    omega
  · intro hn k hk
    refine Classical.byContradiction fun hc => ?_
    have h1 := sub_len xs ((upto xs.length).erase (k : Int)) (nodup_of_takes hn) fun x hx => by
      refine (List.mem_erase_of_ne fun (e : x = (k : Int)) => hc (by rw [← e]; exact hx)).2 (mem_upto.2 (h x hx))
    rw [List.length_erase_of_mem (mem_upto.2 ⟨by omega, by omega⟩), upto_len] at h1
    omega
def mask (xs : List Int) : Nat := xs.foldl (fun m x => m ||| 2 ^ x.toNat) 0
theorem mask_snoc (xs : List Int) (x : Int) : mask (xs ++ [x]) = mask xs ||| 2 ^ x.toNat := by simp [mask]
theorem mask_testBit (xs : List Int) (k : Nat) : ∀ a : Nat, (xs.foldl (fun m x => m ||| 2 ^ x.toNat) a).testBit k = (a.testBit k || xs.any fun x => decide (x.toNat = k)) := by
  induction xs with
  | nil => simp
  | cons x xs ih =>
    intro a
    rw [List.foldl_cons, ih, Nat.testBit_or, Nat.testBit_two_pow, List.any_cons, Bool.or_assoc]
theorem mask_bit (xs : List Int) (k : Nat) : (mask xs).testBit k = xs.any fun x => decide (x.toNat = k) := by
  unfold mask
  rw [mask_testBit, Nat.zero_testBit, Bool.false_or]
theorem mask_lt {xs : List Int} {n : Nat} (h : ∀ x ∈ xs, x.toNat < n) : mask xs < 2 ^ n := by
  refine Nat.lt_pow_two_of_testBit _ fun k hk => ?_
  rw [mask_bit]
  refine Bool.eq_false_iff.2 fun ht => ?_
  obtain ⟨x, hx, he⟩ := List.any_eq_true.1 ht
  have := h x hx
  have := of_decide_eq_true he
  omega
theorem mask_full {xs : List Int} (h : ∀ x ∈ xs, 0 ≤ x ∧ x < xs.length) : mask xs = 2 ^ xs.length - 1 ↔ ∀ k : Nat, k < xs.length → (k : Int) ∈ xs := by
  constructor
  · intro e k hk
    have h1 := mask_bit xs k
    rw [e, Nat.testBit_two_pow_sub_one, decide_eq_true hk] at h1
    obtain ⟨x, hx, he⟩ := List.any_eq_true.1 h1.symm
    have := (h x hx).1
    have := of_decide_eq_true he
    have e : x = (k : Int) := by omega
    exact e ▸ hx
  · intro ha
    refine Nat.eq_of_testBit_eq fun k => ?_
    rw [mask_bit, Nat.testBit_two_pow_sub_one]
    by_cases hk : k < xs.length
    · rw [decide_eq_true hk]
      exact List.any_eq_true.2 ⟨k, ha k hk, by simp⟩
    · rw [decide_eq_false hk]
      refine Bool.eq_false_iff.2 fun ht => ?_
      obtain ⟨x, hx, he⟩ := List.any_eq_true.1 ht
      have := h x hx
      have := of_decide_eq_true he
      omega
theorem or_step {m : Nat} {x : Int} (hm : m < 2 ^ 20) (h0 : 0 ≤ x) (h1 : x < 20) :
    IntKind.i64.wrap (((BitVec.ofInt IntKind.i64.bits (m : Int) ||| BitVec.ofInt IntKind.i64.bits (IntKind.i64.wrap ((1 : Int) * (2 : Int) ^ min x.toNat IntKind.i64.bits))).toNat : Nat) : Int) = ((m ||| 2 ^ x.toNat : Nat) : Int) := by
  have hx : (2 : Nat) ^ x.toNat < 2 ^ 20 := Nat.pow_lt_pow_right (by omega) (by omega)
  have e1 : min x.toNat IntKind.i64.bits = x.toNat := by show min x.toNat 64 = _; omega
  have e2 : (1 : Int) * (2 : Int) ^ x.toNat = ((2 ^ x.toNat : Nat) : Int) := by rw [Int.one_mul]; exact (Int.natCast_pow 2 _).symm
  rw [e1, e2, wrap_id (n := ((2 ^ x.toNat : Nat) : Int)) (by have : (0 : Int) ≤ ((2 ^ x.toNat : Nat) : Int) := Int.natCast_nonneg _; omega) (by omega)]
  show IntKind.i64.wrap (((BitVec.ofInt 64 (m : Int) ||| BitVec.ofInt 64 ((2 ^ x.toNat : Nat) : Int)).toNat : Nat) : Int) = _
  rw [BitVec.ofInt_natCast, BitVec.ofInt_natCast, BitVec.toNat_or, BitVec.toNat_ofNat, BitVec.toNat_ofNat, Nat.mod_eq_of_lt (by omega), Nat.mod_eq_of_lt (by omega)]
  have := Nat.or_lt_two_pow hm hx
  exact wrap_id (by omega) (by omega)
theorem p_specIsPerm (p : List Int) (h : short p) : fnW tab (look [(57, s_inRange), (131, s_containsInt)]) s_isPerm Try.f150 (p, ()) (fun (z : Bool) => z = m_isPerm p) := by
  have hs := h
  unfold short at h
  refine Eq.mp (w_specIsPerm p _) ⟨_, if_pos trivial, ⟨fun hp => ?_, fun hp => ?_⟩⟩
  · have hp := bnot_true hp
    rw [m_range_iff] at hp
    dsimp only at hp
    exact dec_false fun hh => hp ⟨by omega, by omega⟩
  · have hp := bnot_false hp
    rw [m_range_iff] at hp
    dsimp only at hp
    refine loop_range p.length (fun v => v.1) (fun j _ => DL p.length p j) rfl (fun j _ hj => absurd hj (Nat.not_lt_zero _)) ?_
    rintro j ⟨i, ⟨⟩⟩ K hj hi hR hK
    dsimp only at hi ⊢
    subst hi
    refine Br.dec (fun hl => ?_) fun hl => ?_
    · have hl : j < p.length := by omega
      refine ⟨_, idx_nat hl, _, if_pos trivial, ⟨fun hq => ?_, fun hq => ?_⟩⟩
      · have hq := bnot_true hq
        rw [m_range_iff, wrap_id (by omega) (by omega)] at hq
        exact dec_false fun hh => hq ⟨(hh.2.2 j hl hl).1, (hh.2.2 j hl hl).2.1⟩
      · have hq := bnot_false hq
        rw [m_range_iff, wrap_id (by omega) (by omega)] at hq
        refine ⟨⟨by omega, by omega, by omega⟩, _, idx_nat hl, ?_⟩
        rw [show (Int.toNat 0) = 0 from rfl, List.drop_zero, Int.toNat_natCast]
        refine ⟨_, if_pos (short_take hs j), ⟨fun hc => ?_, fun hc => ?_⟩⟩
        · have hc : decide (p[j] ∈ p.take j) = true := hc
          rw [decide_eq_true_iff] at hc
          exact dec_false fun hh => (hh.2.2 j hl hl).2.2 hc
        · have hc : decide (p[j] ∈ p.take j) = false := hc
          rw [decide_eq_false_iff_not] at hc
          rw [wrap_nat (by omega)]
          exact hK hl _ rfl (dl_step hl hR hq.1 hq.2 hc)
    · have : j = p.length := by omega
      subst this
      exact dec_true ⟨by omega, by omega, hR⟩
theorem sound_specIsPerm : Sound Try.prog 150 s_isPerm :=
  Sound.mkS tabOK (envCons sound_inRange (envCons sound_containsInt envNil)) mixed Try.func150 (by kernel_rfl) (by kernel_rfl) fun x h => p_specIsPerm x.1 h
theorem p_implIsPerm (p : List Int) (h : short p) : fnW tab (look [(61, s_inRange), (136, s_lenL)]) s_isPerm Try.f137 (p, ()) (fun (z : Bool) => z = m_isPerm p) := by
  unfold short at h
  refine Eq.mp (w_implIsPerm p _) ⟨_, if_pos trivial, _, if_pos trivial, ⟨fun hp => ?_, fun hp => ?_⟩⟩
  · have hp := bnot_true hp
    rw [m_range_iff] at hp
    dsimp only at hp
    exact dec_false fun hh => hp ⟨by omega, by omega⟩
  · have hp := bnot_false hp
    rw [m_range_iff] at hp
    dsimp only at hp
    refine loop_range p.length (fun v => v.2.1) (fun j v => v.1 = (mask (p.take j) : Int) ∧ ∀ x ∈ p.take j, 0 ≤ x ∧ x < p.length) rfl ⟨rfl, by simp⟩ ?_
    rintro j ⟨m, i, ⟨⟩⟩ K hj hi ⟨hm, hR⟩ hK
    dsimp only at hi hm ⊢
    subst hi hm
    refine Br.dec (fun hl => ?_) fun hl => ?_
    · have hl : j < p.length := by omega
      refine ⟨_, idx_nat hl, _, if_pos trivial, _, if_pos trivial, ⟨fun hq => ?_, fun hq => ?_⟩⟩
      · have hq := bnot_true hq
        rw [m_range_iff] at hq
        dsimp only at hq
        rw [wrap_id (by omega) (by omega)] at hq
        exact dec_false fun hh => hq ⟨(hh.2.2 j hl hl).1, (hh.2.2 j hl hl).2.1⟩
      · have hq := bnot_false hq
        rw [m_range_iff] at hq
        dsimp only at hq
        rw [wrap_id (by omega) (by omega)] at hq
        refine ⟨by omega, ?_⟩
        rw [wrap_nat (by omega)]
        have hb : mask (p.take j) < 2 ^ 20 := mask_lt fun x hx => by have := hR x hx; omega
        refine hK hl _ rfl ⟨?_, ?_⟩
        · dsimp only
          rw [or_step hb hq.1 (by omega), List.take_succ_eq_append_getElem hl, mask_snoc]
        · rw [List.take_succ_eq_append_getElem hl]
          intro x hx
          rcases List.mem_append.1 hx with hx | hx
          · exact hR x hx
          · rw [List.mem_singleton.1 hx]; omega
    · have : j = p.length := by omega
      subst this
      rw [List.take_length] at hR ⊢
      refine ⟨by omega, ?_⟩
      have hx : (2 : Nat) ^ p.length ≤ 2 ^ 20 := Nat.pow_le_pow_right (by omega) (by omega)
      have hpos : 0 < (2 : Nat) ^ p.length := Nat.two_pow_pos _
      have e1 : min (p.length : Int).toNat IntKind.i64.bits = p.length := by show min (p.length : Int).toNat 64 = _; omega
      have e2 : (1 : Int) * (2 : Int) ^ p.length = ((2 ^ p.length : Nat) : Int) := by rw [Int.one_mul]; exact (Int.natCast_pow 2 _).symm
      rw [e1, e2, wrap_id (n := ((2 ^ p.length : Nat) : Int)) (by omega) (by omega), wrap_id (by omega) (by omega)]
      have hE : ((mask p : Int) == ((2 ^ p.length : Nat) : Int) - 1) = decide (mask p = 2 ^ p.length - 1) := by
        rw [Bool.eq_iff_iff, beq_iff_eq, decide_eq_true_iff]
        omega
      show ((mask p : Int) == ((2 ^ p.length : Nat) : Int) - 1) = m_isPerm p
      rw [hE]
      by_cases hf : mask p = 2 ^ p.length - 1
      · rw [decide_eq_true hf]
        have hn := (all_iff_nodup hR).1 ((mask_full hR).1 hf)
        refine dec_true ⟨by omega, by omega, fun j hj _ => ?_⟩
        have := hR _ (List.getElem_mem hj)
        exact ⟨this.1, by omega, hn j hj⟩
      · rw [decide_eq_false hf]
        refine dec_false fun hh => hf ((mask_full hR).2 ((all_iff_nodup hR).2 fun j hj => (hh.2.2 j hj hj).2.2))
theorem sound_implIsPerm : Sound Try.prog 137 s_isPerm :=
  Sound.mkS tabOK (envCons sound_within (envCons sound_lenL envNil)) mixed Try.func137 (by kernel_rfl) (by kernel_rfl) fun x h => p_implIsPerm x.1 h
theorem p_specIsGens (n : Int) (g : List (List Int)) (h : shortLL g) : fnW tab (look [(57, s_inRange), (150, s_isPerm)]) s_isGens Try.f111 (n, g, ()) (fun (z : Bool) => z = m_isGens n g) := by
  obtain ⟨h, h4⟩ := h
  refine Eq.mp (w_specIsGens n g _) ⟨_, if_pos trivial, ⟨fun hp => ?_, fun hp => ?_⟩⟩
  · have hp := bnot_true hp
    rw [m_range_iff] at hp
    exact dec_false fun hh => hp hh.1
  · have hp := bnot_false hp
    rw [m_range_iff] at hp
    refine Br.dec (fun hg => ?_) fun hg => ?_
    · exact dec_false fun hh => by have := hh.2.1; omega
    · refine loop_range g.length (fun v => v.1) (fun j _ => ∀ p ∈ g.take j, m_genOK n p = true) rfl (by simp) ?_
      rintro j ⟨i, ⟨⟩⟩ K hj hi hR hK
      dsimp only at hi ⊢
      subst hi
      refine Br.dec (fun hl => ?_) fun hl => ?_
      · have hl : j < g.length := by omega
        have hm : g[j] ∈ g := List.getElem_mem hl
        refine ⟨_, idx_nat hl, ⟨fun he => ?_, fun he => ?_⟩⟩
        · simp only [bne_iff_ne, ne_eq] at he
          exact dec_false fun hh => he (dec_iff.1 (hh.2.2 _ hm)).1
        · simp only [bne_eq_false_iff_eq] at he
          refine ⟨_, idx_nat hl, _, if_pos (h4 _ hm), ⟨fun hq => ?_, fun hq => ?_⟩⟩
          · have hq := bnot_true hq
            exact dec_false fun hh => hq (dec_iff.1 (hh.2.2 _ hm)).2
          · have hq := bnot_false hq
            rw [wrap_nat (by omega)]
            refine hK hl _ rfl ?_
            rw [List.take_succ_eq_append_getElem hl]
            intro x hx
            rcases List.mem_append.1 hx with hx | hx
            · exact hR x hx
            · rw [List.mem_singleton.1 hx]; exact dec_iff.2 ⟨he, hq⟩
      · have : j = g.length := by omega
        subst this
        rw [List.take_length] at hR
        exact dec_true ⟨hp, by omega, hR⟩
theorem sound_specIsGens : Sound Try.prog 111 s_isGens :=
  Sound.mkS tabOK (envCons sound_inRange (envCons sound_specIsPerm envNil)) mixed Try.func111 (by kernel_rfl) (by kernel_rfl) fun x h => p_specIsGens x.1 x.2.1 h
theorem p_gens1 (p : List Int) (n : Int) (h : short p) : fnW tab (look [(136, s_lenL), (137, s_isPerm)]) s_gens1 Try.f152 (p, n, ()) (fun (z : Bool) => z = !m_genOK n p) := by
  refine Eq.mp (w_gens1 p n _) ⟨_, if_pos trivial, ⟨fun he => ?_, fun he => ⟨_, if_pos h, ?_⟩⟩⟩
  · simp only [bne_iff_ne, ne_eq] at he
    have : m_genOK n p = false := dec_not.2 fun hh => he hh.1
    rw [this]; rfl
  · simp only [bne_eq_false_iff_eq] at he
    show (!m_isPerm p) = _
    congr 1
    cases hp : m_isPerm p with
    | true => exact dec_true ⟨he, hp⟩
    | false => exact dec_false fun hh => by rw [hh.2] at hp; cases hp
theorem sound_gens1 : Sound Try.prog 152 s_gens1 :=
  Sound.mkS tabOK (envCons sound_lenL (envCons sound_implIsPerm envNil)) mixed Try.func152 (by kernel_rfl) (by kernel_rfl) fun x h => p_gens1 x.1 x.2.1 h
theorem m_indexF_ge {α : Type} (P : α → Bool) : ∀ (l : List α) (i : Int), 0 ≤ i → (0 ≤ m_indexF P l i ↔ l.any P = true)
  | [], i, _ => by simp [m_indexF]
  | y :: r, i, h => by
    simp only [m_indexF, List.any_cons, Bool.or_eq_true]
    split
    · rename_i hy; simp [hy, h]
    · rename_i hy; rw [m_indexF_ge P r (i + 1) (by omega)]; simp [hy]
theorem p_ixG (g : List (List Int)) (n : Int × Unit) (h : shortLL g) : fnW tab (look [(152, s_gens1)]) s_ixG Try.f166 (g, n, ()) (fun (z : Int) => z = m_indexF (fun p => !m_genOK n.1 p) g 0) := by
  obtain ⟨h, h4⟩ := h
  refine Eq.mp (w_ixG g n _) ?_
  refine loop_range g.length (fun v => v.1) (fun j _ => m_indexF (fun p => !m_genOK n.1 p) (g.drop j) j = m_indexF (fun p => !m_genOK n.1 p) g 0) rfl (by simp) ?_
  rintro j ⟨i, ⟨⟩⟩ K hj hi hR hK
  dsimp only at hi ⊢
  subst hi
  refine Br.dec (fun hl => ?_) fun hl => ?_
  · have hl : j < g.length := by omega
    rw [List.drop_eq_getElem_cons hl] at hR
    simp only [m_indexF] at hR
    refine ⟨_, idx_nat hl, _, if_pos (h4 _ (List.getElem_mem hl)), ⟨fun he => ?_, fun he => ?_⟩⟩
    · have he : (!m_genOK n.1 g[j]) = true := he
      rw [if_pos he] at hR
      exact hR
    · have he : (!m_genOK n.1 g[j]) = false := he
      rw [if_neg (by rw [he]; decide)] at hR
      rw [wrap_nat (by omega)]
      exact hK hl _ rfl (by push_cast; exact hR)
  · have : j = g.length := by omega
    subst this
    rw [List.drop_length] at hR
    exact hR
theorem sound_ixG : Sound Try.prog 166 s_ixG :=
  Sound.mkS tabOK (envCons sound_gens1 envNil) mixed Try.func166 (by kernel_rfl) (by kernel_rfl) fun x h => p_ixG x.1 x.2.1 h
theorem p_ctG (g : List (List Int)) (n : Int × Unit) (h : shortLL g) : fnW tab (look [(166, s_ixG)]) s_ctG Try.f151 (g, n, ()) (fun (z : Bool) => z = List.any g (fun p => !m_genOK n.1 p)) := by
  refine Eq.mp (w_ctG g n _) ⟨_, if_pos h, ?_⟩
  rw [Bool.eq_iff_iff, decide_eq_true_iff]
  exact m_indexF_ge _ g 0 (Int.le_refl 0)
theorem sound_ctG : Sound Try.prog 151 s_ctG :=
  Sound.mkS tabOK (envCons sound_ixG envNil) mixed Try.func151 (by kernel_rfl) (by kernel_rfl) fun x h => p_ctG x.1 x.2.1 h
theorem p_implIsGens (n : Int) (g : List (List Int)) (h : shortLL g) : fnW tab (look [(61, s_inRange), (151, s_ctG)]) s_isGens Try.f114 (n, g, ()) (fun (z : Bool) => z = m_isGens n g) := by
  refine Eq.mp (w_implIsGens n g _) ⟨_, if_pos trivial, ⟨fun hp => ?_, fun hp => ?_⟩⟩
  · have hp : m_inRange n 1 20 = true := hp
    rw [m_range_iff] at hp
    refine Br.dec (fun hl => ⟨_, if_pos h, ?_⟩) fun hl => ?_
    · show (!List.any g (fun p => !m_genOK n p)) = m_isGens n g
      cases ha : List.any g (fun p => !m_genOK n p) with
      | true =>
        obtain ⟨p, hp1, hp2⟩ := List.any_eq_true.1 ha
        exact dec_false fun hh => by rw [hh.2.2 p hp1] at hp2; cases hp2
      | false =>
        refine dec_true ⟨hp, by omega, fun p hm => ?_⟩
        have := List.any_eq_false.1 ha p hm
        simpa using this
    · exact dec_false fun hh => by have := hh.2.1; omega
  · refine dec_false fun hh => ?_
    have : m_inRange n 1 20 = true := m_range_iff.2 hh.1
    have hp : m_inRange n 1 20 = false := hp
    rw [this] at hp; cases hp
theorem sound_implIsGens : Sound Try.prog 114 s_isGens :=
  Sound.mkS tabOK (envCons sound_within (envCons sound_ctG envNil)) mixed Try.func114 (by kernel_rfl) (by kernel_rfl) fun x h => p_implIsGens x.1 x.2.1 h
theorem byte_at {s : ByteArray} {k : Nat} (h : k < s.size) : s[k]? = some s[k] := getElem?_pos s k h
theorem p_nameAt (s : ByteArray) (i : Int) (h : 0 ≤ i ∧ i < s.size ∧ s.size ≤ 4294967296) : fnW tab (look []) s_nameAt Try.f112 (s, i, ()) (fun (z : Bool) => z = m_nameAt s i) := by
  obtain ⟨h1, h2, h3⟩ := h
  have hi : i.toNat < s.size := by omega
  refine Eq.mp (w_nameAt s i _) ⟨h1, _, byte_at hi, Br.dec (fun hq => ?_) fun hq => ⟨h1, _, byte_at hi, Br.dec (fun hr => ?_) fun hr => ?_⟩⟩
  · refine dec_false fun ⟨c, hc, hc1, _⟩ => ?_
    rw [byte_at hi] at hc; cases hc; omega
  · refine dec_false fun ⟨c, hc, _, hc1, _⟩ => ?_
    rw [byte_at hi] at hc; cases hc; omega
  · refine loop_range i.toNat (fun v => v.1) (fun j _ => ∀ k, k < j → s[k]? ≠ some s[i.toNat]) rfl (fun k hk => absurd hk (Nat.not_lt_zero _)) ?_
    rintro j ⟨i', ⟨⟩⟩ K hj hi' hR hK
    dsimp only at hi' ⊢
    subst hi'
    refine Br.dec (fun hl => ?_) fun hl => ?_
    · have hl : j < i.toNat := by omega
      have hj : j < s.size := by omega
      rw [Int.toNat_natCast]
      refine ⟨by omega, _, byte_at hj, h1, _, byte_at hi, ⟨fun he => ?_, fun he => ?_⟩⟩
      · simp only [beq_iff_eq, Int.natCast_inj] at he
        refine dec_false fun ⟨c, hc, _, _, hc1⟩ => ?_
        rw [byte_at hi] at hc; cases hc
        exact hc1 j hl (by rw [byte_at hj, UInt8.toNat_inj.1 he])
      · simp only [beq_eq_false_iff_ne, ne_eq, Int.natCast_inj] at he
        rw [wrap_nat (by omega)]
        refine hK hl _ rfl fun k hk => ?_
        by_cases e : k = j
        · subst e
          rw [byte_at hj]
          exact fun e => he (by rw [Option.some.inj e])
        · exact hR k (by omega)
    · have : j = i.toNat := by omega
      subst this
      exact dec_true ⟨_, byte_at hi, by omega, by omega, hR⟩
theorem sound_nameAt : Sound Try.prog 112 s_nameAt :=
  Sound.mkS tabOK envNil mixed Try.func112 (by kernel_rfl) (by kernel_rfl) fun x h => p_nameAt x.1 x.2.1 h
theorem p_isNames (s : ByteArray) (h : s.size ≤ 4294967296) : fnW tab (look [(61, s_inRange)]) s_isNames Try.f115 (s, ()) (fun (z : Bool) => z = m_isNames s) := by
  refine Eq.mp (w_isNames s _) ?_
  refine loop_range s.size (fun v => v.1) (fun j _ => ∀ k, k < j → NameAt s k) rfl (fun k hk => absurd hk (Nat.not_lt_zero _)) ?_
  rintro j ⟨i, ⟨⟩⟩ K hj hi hR hK
  dsimp only at hi ⊢
  subst hi
  refine Br.dec (fun hl => ?_) fun hl => ?_
  · have hl : j < s.size := by omega
    rw [Int.toNat_natCast]
    have hb := (s[j]).toNat_lt
    refine ⟨by omega, _, byte_at hl, _, if_pos trivial, ⟨fun hq => ?_, fun hq => ?_⟩⟩
    · have hq := bnot_true hq
      rw [m_range_iff] at hq
      dsimp only at hq
      rw [wrap_id (by omega) (by omega)] at hq
      refine dec_false fun hh => ?_
      obtain ⟨c, hc, hc1, hc2, _⟩ := hh.2 j hl
      rw [byte_at hl] at hc; cases hc
      exact hq ⟨by omega, by omega⟩
    · have hq := bnot_false hq
      rw [m_range_iff] at hq
      dsimp only at hq
      rw [wrap_id (by omega) (by omega)] at hq
      refine loop_range j (fun v => v.1) (fun m _ => ∀ k, k < m → s[k]? ≠ some s[j]) rfl (fun k hk => absurd hk (Nat.not_lt_zero _)) ?_
      rintro m ⟨i', ⟨⟩⟩ K' hm hi' hR' hK'
      dsimp only at hi' ⊢
      subst hi'
      refine Br.dec (fun hl' => ?_) fun hl' => ?_
      · have hl' : m < j := by omega
        have hm' : m < s.size := by omega
        rw [Int.toNat_natCast]
        refine ⟨by omega, _, byte_at hm', by omega, _, byte_at hl, ⟨fun he => ?_, fun he => ?_⟩⟩
        · simp only [beq_iff_eq, Int.natCast_inj] at he
          refine dec_false fun hh => ?_
          obtain ⟨c, hc, _, _, hc1⟩ := hh.2 j hl
          rw [byte_at hl] at hc; cases hc
          exact hc1 m hl' (by rw [byte_at hm', UInt8.toNat_inj.1 he])
        · simp only [beq_eq_false_iff_ne, ne_eq, Int.natCast_inj] at he
          rw [wrap_nat (by omega)]
          refine hK' hl' _ rfl fun k hk => ?_
          by_cases e : k = m
          · subst e
            rw [byte_at hm']
            exact fun e => he (by rw [Option.some.inj e])
          · exact hR' k (by omega)
      · have : m = j := by omega
        subst this
        rw [wrap_nat (by omega)]
        refine hK hl _ rfl fun k hk => ?_
        by_cases e : k = m
        · subst e
          exact ⟨_, byte_at hl, by omega, by omega, hR'⟩
        · exact hR k (by omega)
  · have : j = s.size := by omega
    subst this
    refine ⟨_, if_pos trivial, ?_⟩
    show m_inRange s.size 1 8 = _
    cases hr : m_inRange s.size 1 8 with
    | true => rw [m_range_iff] at hr; exact dec_true ⟨by omega, hR⟩
    | false => refine dec_false fun hh => ?_; rw [m_range_iff.2 ⟨by omega, by omega⟩] at hr; cases hr
theorem sound_isNames : Sound Try.prog 115 s_isNames :=
  Sound.mkS tabOK (envCons sound_within envNil) mixed Try.func115 (by kernel_rfl) (by kernel_rfl) fun x h => p_isNames x.1 h
theorem validP_len {p : PP} (h : m_validP p = true) : 1 ≤ p.1 ∧ p.1 ≤ 20 ∧ 1 ≤ p.2.2.1.length ∧ p.2.2.1.length ≤ 8 := by
  obtain ⟨h1, h2, h3⟩ := dec_iff.1 h
  obtain ⟨h4, h5, _⟩ := dec_iff.1 h1
  obtain ⟨h6, _⟩ := dec_iff.1 h2
  omega
theorem p_specValidP (p : PP) (h : shortP p) : fnW tab (look [(111, s_isGens), (112, s_nameAt)]) s_validP Try.f56 (p, ()) (fun (z : Bool) => z = m_validP p) := by
  obtain ⟨hn, hg⟩ := h
  refine Eq.mp (w_specValidP p _) ⟨fun h0 => ?_, fun h0 => ⟨fun h1 => ?_, fun h1 => ⟨_, if_pos hg, ⟨fun h2 => ?_, fun h2 => ?_⟩⟩⟩⟩
  · simp only [beq_iff_eq] at h0
    exact dec_false fun hh => by obtain ⟨_, h2, h3⟩ := hh; have := (dec_iff.1 h2).1; omega
  · simp only [bne_iff_ne, ne_eq, Int.natCast_inj] at h1
    exact dec_false fun hh => h1 hh.2.2
  · have h2 := bnot_true h2
    exact dec_false fun hh => h2 hh.1
  · simp only [beq_eq_false_iff_ne, ne_eq] at h0
    simp only [bne_eq_false_iff_eq, Int.natCast_inj] at h1
    have h2 : m_isGens p.1 p.2.2.1 = true := bnot_false h2
    refine loop_range p.2.1.size (fun v => v.1) (fun j v => v.2 = (p.1, p.2.1, p.2.2.1, ()) ∧ ∀ k, k < j → NameAt p.2.1 k) rfl ⟨rfl, fun k hk => absurd hk (Nat.not_lt_zero _)⟩ ?_
    rintro j ⟨i, v⟩ K hj hi ⟨hv, hR⟩ hK
    dsimp only at hi hv ⊢
    subst hi hv
    dsimp only
    refine Br.dec (fun hl => ?_) fun hl => ?_
    · have hl : j < p.2.1.size := by omega
      refine ⟨_, if_pos ⟨Int.natCast_nonneg j, Int.ofNat_lt.2 hl, hn⟩, ⟨fun hq => ?_, fun hq => ?_⟩⟩
      · have hq : ¬ m_nameAt p.2.1 j = true := bnot_true hq
        refine dec_false fun hh => hq (dec_iff.2 ?_)
        rw [Int.toNat_natCast]
        exact (dec_iff.1 hh.2.1).2 j hl
      · have hq : m_nameAt p.2.1 j = true := bnot_false hq
        have hq := dec_iff.1 hq
        rw [Int.toNat_natCast] at hq
        rw [wrap_nat (by omega)]
        refine hK hl _ rfl ⟨rfl, fun k hk => ?_⟩
        by_cases e : k = j
        · subst e; exact hq
        · exact hR k (by omega)
    · have : j = p.2.1.size := by omega
      subst this
      have := (dec_iff.1 h2).2.1
      exact dec_true ⟨h2, dec_iff.2 ⟨⟨by omega, by omega⟩, hR⟩, h1⟩
theorem sound_specValidP : Sound Try.prog 56 s_validP :=
  Sound.mkS tabOK (envCons sound_specIsGens (envCons sound_nameAt envNil)) mixed Try.func56 (by kernel_rfl) (by kernel_rfl) fun x h => p_specValidP x.1 h
theorem p_implValidP (p : PP) (h : shortP p) : fnW tab (look [(114, s_isGens), (115, s_isNames)]) s_validP Try.f60 (p, ()) (fun (z : Bool) => z = m_validP p) := by
  obtain ⟨hn, hg⟩ := h
  refine Eq.mp (w_implValidP p _) ⟨_, if_pos hg, ⟨fun h1 => ⟨_, if_pos hn, ⟨fun h2 => ?_, fun h2 => ?_⟩⟩, fun h1 => ?_⟩⟩
  · have h1 : m_isGens p.1 p.2.2.1 = true := h1
    have h2 : m_isNames p.2.1 = true := h2
    by_cases e : p.2.1.size = p.2.2.1.length
    · rw [e, beq_self_eq_true]; exact dec_true ⟨h1, h2, e⟩
    · rw [show ((p.2.1.size : Int) == (p.2.2.1.length : Int)) = false from beq_eq_false_iff_ne.2 (by omega)]; exact dec_false fun hh => e hh.2.2
  · have h2 : m_isNames p.2.1 = false := h2
    exact dec_false fun hh => by rw [hh.2.1] at h2; cases h2
  · have h1 : m_isGens p.1 p.2.2.1 = false := h1
    exact dec_false fun hh => by rw [hh.1] at h1; cases h1
theorem sound_implValidP : Sound Try.prog 60 s_validP :=
  Sound.mkS tabOK (envCons sound_implIsGens (envCons sound_isNames envNil)) mixed Try.func60 (by kernel_rfl) (by kernel_rfl) fun x h => p_implValidP x.1 h
theorem p_szP (p : PP) (room : Int) (h : shortP p ∧ roomy room) : fnW tab (look [(55, s_szLL)]) s_szP Try.f14 (p, room, ()) (fun (z : Int) => z = m_szP p room) := by
  obtain ⟨⟨h1, h2⟩, h3, h4⟩ := h
  refine Eq.mp (w_szP p room _) ?_
  rw [wrap_id (by omega) (by omega)]
  refine Br.dec (fun hn => ?_) fun hn => ⟨_, if_pos ⟨h2, by dsimp only; omega, by dsimp only; omega⟩, Br.dec (fun hm => ?_) fun hm => ?_⟩
  · simp only [m_szP, if_pos hn]
  · exact ((if_neg hn).trans (if_pos hm)).symm
  · exact ((if_neg hn).trans (if_neg hm)).symm
theorem sound_szP : Sound Try.prog 14 s_szP :=
  Sound.mkS tabOK (envCons sound_szLL envNil) mixed Try.func14 (by kernel_rfl) (by kernel_rfl) fun x h => p_szP x.1 x.2.1 h
theorem p_toP (p : PP) (h : shortP p) : fnW tab (look [(59, s_toLL)]) s_toP Try.f16 (p, ()) (fun (z : PP) => z = p) := Eq.mp (w_toP p _) ⟨_, if_pos h.2, rfl⟩
theorem sound_toP : Sound Try.prog 16 s_toP :=
  Sound.mkS tabOK (envCons sound_toLL envNil) mixed Try.func16 (by kernel_rfl) (by kernel_rfl) fun x h => p_toP x.1 h
theorem bytes_eq {a b : ByteArray} : (a.toList == b.toList) = decide (a = b) := by
  rw [Bool.eq_iff_iff, beq_iff_eq, decide_eq_true_iff, ByteArray.toList_eq, ByteArray.toList_eq]
  exact ⟨fun h => ByteArray.ext (Array.toList_inj.1 h), fun h => by rw [h]⟩
theorem p_eqP (a b : PP) (h : shortP a) : fnW tab (look [(35, s_eqLL)]) s_eqP Try.f19 (a, b, ()) (fun (z : Bool) => z = m_eqP a b) := by
  refine Eq.mp (w_eqP a b _) ⟨fun h1 => ?_, fun h1 => ⟨fun h2 => ?_, fun h2 => ⟨_, if_pos h.2, ⟨fun h3 => ?_, fun h3 => ?_⟩⟩⟩⟩
  · simp only [bne_iff_ne, ne_eq] at h1
    unfold m_eqP
    rw [decide_eq_false h1]; rfl
  · rw [bytes_eq] at h2
    unfold m_eqP
    cases hd : decide (a.2.1 = b.2.1) <;> simp_all
  · have h3 : (!m_eqLL a.2.2.1 b.2.2.1) = true := h3
    simp only [m_eqLL, Bool.not_eq_true'] at h3
    unfold m_eqP
    rw [h3]; simp
  · have h3 : (!m_eqLL a.2.2.1 b.2.2.1) = false := h3
    rw [bytes_eq] at h2
    simp only [m_eqLL] at h3
    simp only [bne_eq_false_iff_eq] at h1
    unfold m_eqP
    simp_all
theorem sound_eqP : Sound Try.prog 19 s_eqP :=
  Sound.mkS tabOK (envCons sound_eqLL envNil) mixed Try.func19 (by kernel_rfl) (by kernel_rfl) fun x h => p_eqP x.1 x.2.1 h
theorem m_eqP_self (p : PP) : m_eqP p p = true := by simp [m_eqP]
theorem bools_same {b : Bool} {P : Prop} (h : (!(b == b)) = true) : P := by simp at h
theorem not_self {b : Bool} {P : Prop} (h1 : b = true) (h : (!b) = true) : P := by rw [h1] at h; cases h
end Go.Proofs.Ytfghmbpogmcboaa

namespace Go.Proofs.Ytfghmbpogmcboaa
open Go.RowKit

noncomputable abbrev s_permOf : Spec := mkS (.pair tI (.pair tL .unit)) .bool false true (fun x => short x.2.1) (fun x => m_genOK x.1 x.2.1)
noncomputable abbrev s_isStateP : Spec := mkS (.pair tPuzzle (.pair tL .unit)) .bool false true (fun x => short x.2.1) (fun x => m_genOK x.1.1 x.2.1)
noncomputable abbrev s_isState : Spec := mkS (.pair tPuzzle (.pair tL .unit)) .bool false true (fun x => shortP x.1 ∧ short x.2.1) (fun x => m_validP x.1 && m_genOK x.1.1 x.2.1)
theorem w_permOf (n : Int) (s : List Int) (P : Bool → Prop) : (Br ((↑s.length : Int) == n) (∃ (y3 : Bool), s_isPerm.fn (s, ()) = some y3 ∧ P y3) (P false)) = fnW tab (look [(150, s_isPerm)]) s_permOf Try.f134 (n, s, ()) P := by kernel_rfl
theorem w_implIsStateP (p : Int × ByteArray × List (List Int) × Unit) (s : List Int) (P : Bool → Prop) : (∃ (y3 : Int), s_lenL.fn (s, ()) = some y3 ∧ Br (y3 == p.fst) (∃ (y4 : Bool), s_isPerm.fn (s, ()) = some y4 ∧ P y4) (P false)) = fnW tab (look [(136, s_lenL), (137, s_isPerm)]) s_isStateP Try.f92 (p, s, ()) P := by kernel_rfl
theorem w_specIsState (p : Int × ByteArray × List (List Int) × Unit) (s : List Int) (P : Bool → Prop) : (∃ (y3 : Bool), s_validP.fn ((p.fst, p.2.fst, p.snd.2.fst, ()), ()) = some y3 ∧ Br y3 (∃ (y4 : Bool), s_permOf.fn (p.fst, s, ()) = some y4 ∧ P y4) (P false)) = fnW tab (look [(56, s_validP), (134, s_permOf)]) s_isState Try.f89 (p, s, ()) P := by kernel_rfl
theorem p_permOf (n : Int) (s : List Int) (h : short s) : fnW tab (look [(150, s_isPerm)]) s_permOf Try.f134 (n, s, ()) (fun (z : Bool) => z = m_genOK n s) := by
  refine Eq.mp (w_permOf n s _) ⟨fun he => ⟨_, if_pos h, ?_⟩, fun he => ?_⟩
  · simp only [beq_iff_eq] at he
    show m_isPerm s = _
    cases hp : m_isPerm s with
    | true => exact dec_true ⟨he, hp⟩
    | false => exact dec_false fun hh => by rw [hh.2] at hp; cases hp
  · simp only [beq_eq_false_iff_ne, ne_eq] at he
    exact dec_false fun hh => he hh.1
theorem sound_permOf : Sound Try.prog 134 s_permOf :=
  Sound.mkS tabOK (envCons sound_specIsPerm envNil) mixed Try.func134 (by kernel_rfl) (by kernel_rfl) fun x h => p_permOf x.1 x.2.1 h
theorem p_implIsStateP (p : PP) (s : List Int) (h : short s) : fnW tab (look [(136, s_lenL), (137, s_isPerm)]) s_isStateP Try.f92 (p, s, ()) (fun (z : Bool) => z = m_genOK p.1 s) := by
  refine Eq.mp (w_implIsStateP p s _) ⟨_, if_pos trivial, ⟨fun he => ⟨_, if_pos h, ?_⟩, fun he => ?_⟩⟩
  · simp only [beq_iff_eq] at he
    show m_isPerm s = _
    cases hp : m_isPerm s with
    | true => exact dec_true ⟨he, hp⟩
    | false => exact dec_false fun hh => by rw [hh.2] at hp; cases hp
  · simp only [beq_eq_false_iff_ne, ne_eq] at he
    exact dec_false fun hh => he hh.1
theorem sound_implIsStateP : Sound Try.prog 92 s_isStateP :=
  Sound.mkS tabOK (envCons sound_lenL (envCons sound_implIsPerm envNil)) mixed Try.func92 (by kernel_rfl) (by kernel_rfl) fun x h => p_implIsStateP x.1 x.2.1 h
theorem p_specIsState (p : PP) (s : List Int) (h : shortP p ∧ short s) : fnW tab (look [(56, s_validP), (134, s_permOf)]) s_isState Try.f89 (p, s, ()) (fun (z : Bool) => z = (m_validP p && m_genOK p.1 s)) := by
  refine Eq.mp (w_specIsState p s _) ⟨_, if_pos h.1, ⟨fun he => ⟨_, if_pos h.2, ?_⟩, fun he => ?_⟩⟩
  · have he : m_validP p = true := he
    rw [he]; rfl
  · have he : m_validP p = false := he
    rw [he]; rfl
theorem sound_specIsState : Sound Try.prog 89 s_isState :=
  Sound.mkS tabOK (envCons sound_specValidP (envCons sound_permOf envNil)) mixed Try.func89 (by kernel_rfl) (by kernel_rfl) fun x h => p_specIsState x.1 x.2.1 h
end Go.Proofs.Ytfghmbpogmcboaa

namespace Go.Proofs.Ytfghmbpogmcboaa
open Go.RowKit

def gets (xs : List Int) (i : Int) : Int := xs.getD i.toNat 0
def m_compose (p q : List Int) : List Int := p.map (gets q)
def foldSet (f : Nat → Nat) (g : Nat → Int) (m : Nat) (init : List Int) : List Int := (List.range m).foldl (fun (out : List Int) (i : Nat) => out.set (f i) (g i)) init
def m_inverse (p : List Int) : List Int := foldSet (fun i => (gets p (i : Int)).toNat) (fun i => (i : Int)) p.length (List.replicate p.length 0)
def m_imageUnder (q s : List Int) : List Int := foldSet (fun i => (gets q (i : Int)).toNat) (fun i => gets q (gets s (i : Int))) s.length (List.replicate s.length 0)
def m_conj (p q : List Int) : List Int := m_compose (m_compose (m_inverse q) p) q
def inRow (n : Nat) (p : List Int) : Prop := ∀ y ∈ p, 0 ≤ y ∧ y < n
noncomputable abbrev s_compose : Spec := mkS (.pair tL (.pair tL .unit)) tL false true (fun x => List.length x.1 ≤ 20 ∧ inRow (List.length x.2.1) x.1) (fun x => m_compose x.1 x.2.1)
noncomputable abbrev s_inverse : Spec := mkS (.pair tL .unit) tL false true (fun x => List.length x.1 ≤ 20 ∧ inRow (List.length x.1) x.1) (fun x => m_inverse x.1)
noncomputable abbrev s_imageUnder : Spec := mkS (.pair tL (.pair tL .unit)) tL false true (fun x => List.length x.2.1 ≤ 20 ∧ List.length x.1 = List.length x.2.1 ∧ inRow (List.length x.1) x.1 ∧ inRow (List.length x.1) x.2.1) (fun x => m_imageUnder x.1 x.2.1)
noncomputable abbrev s_conjugate : Spec := mkS (.pair tL (.pair tL .unit)) tL false true (fun x => List.length x.1 = List.length x.2.1 ∧ inRow (List.length x.1) x.1 ∧ m_isPerm x.2.1 = true) (fun x => m_conj x.1 x.2.1)
noncomputable abbrev s_specInverse : Spec := mkS (.pair tL .unit) tL false true (fun x => m_isPerm x.1 = true) (fun x => m_inverse x.1)
def m_letterOf (g : List (List Int)) (l : Int) : List Int := if l > 0 then g.getD (l - 1).toNat [] else m_inverse (g.getD (-l - 1).toNat [])
def isLetter (n : Int) (l : Int) : Prop := l ≠ 0 ∧ -n ≤ l ∧ l ≤ n
noncomputable abbrev s_letterOf : Spec := mkS (.pair tLL (.pair tI .unit)) tL false false (fun x => isLetter (List.length x.1) x.2.1 ∧ List.length x.1 ≤ 8 ∧ ∀ p ∈ x.1, m_isPerm p = true) (fun x => m_letterOf x.1 x.2.1)
def m_letters (n : Nat) : List Int := (List.range n).flatMap fun (k : Nat) => [(k : Int) + 1, -((k : Int) + 1)]
noncomputable abbrev s_letters : Spec := mkS (.pair tI .unit) tL false true (fun x => 0 ≤ x.1 ∧ x.1 ≤ 8) (fun x => m_letters x.1.toNat)
def m_firstL (g : List (List Int)) (x : List Int) : List Int → Int
  | [] => 0
  | l :: r => if m_letterOf g l = x then l else m_firstL g x r
def m_go (x : List Int) : List (List Int) → Int → Int
  | [], _ => 0
  | m :: r, k => if m = x then k else if m_inverse m = x then -k else m_go x r (k + 1)
def m_letterWith (g : List (List Int)) (x : List Int) : Int := m_go x g 1
noncomputable abbrev s_letterWith : Spec := mkS (.pair tPuzzle (.pair tL .unit)) tI false true (fun x => m_validP x.1 = true ∧ short x.2.1) (fun x => m_letterWith x.1.2.2.1 x.2.1)
def m_imageL (p : PP) (q : List Int) (l : Int) : Int := m_letterWith p.2.2.1 (m_conj (m_letterOf p.2.2.1 l) q)
noncomputable abbrev s_imageL : Spec := mkS (.pair tPuzzle (.pair tL (.pair tI .unit))) tI false true (fun x => m_validP x.1 = true ∧ m_genOK x.1.1 x.2.1 = true ∧ isLetter (List.length x.1.2.2.1) x.2.2.1) (fun x => m_imageL x.1 x.2.1 x.2.2.1)
noncomputable def m_isSym (p : PP) (q : List Int) : Bool := dec (∀ k : Nat, k < p.2.2.1.length → m_imageL p q ((k : Int) + 1) ≠ 0)
noncomputable abbrev s_isSymP : Spec := mkS (.pair tPuzzle (.pair tL .unit)) .bool false true (fun x => m_validP x.1 = true ∧ m_genOK x.1.1 x.2.1 = true) (fun x => m_isSym x.1 x.2.1)
theorem w_implCompose (p q : List Int) (P : List Int → Prop) : (((0 : Int) ≤ (↑p.length : Int) ∧ (↑p.length : Int) < (↑maxRow : Int) + (1 : Int)) ∧
  (↑p.length : Int) = (↑p.length : Int) ∧
    (0 : Nat) = (0 : Nat) ∧
      (List.replicate (↑p.length : Int).toNat (Int.ofNat (nat_lit 0))).length = (List.replicate (↑p.length : Int).toNat (Int.ofNat (nat_lit 0))).length ∧
        WLoop
          (fun (v3 : Int × List Int × PUnit) (k4 : Int × List Int × PUnit → Prop) =>
            Br (decide (v3.fst < (↑p.length : Int)))
              (∃ (y5 : Int),
                idx p v3.fst = some y5 ∧
                  ∃ (y6 : Int),
                    idx q y5 = some y6 ∧
                      ((0 : Int) ≤ v3.fst ∧ v3.fst < (↑v3.2.fst.length : Int)) ∧
                        (0 : Nat) + v3.fst.toNat < v3.2.fst.length ∧
                          (0 : Nat) = (0 : Nat) ∧
                            v3.2.fst.length = (v3.2.fst.set ((0 : Nat) + v3.fst.toNat) y6).length ∧ k4 (IntKind.i64.wrap (v3.fst + (1 : Int)), v3.2.fst.set ((0 : Nat) + v3.fst.toNat) y6, ()))
              (P (List.take v3.2.fst.length (List.drop (0 : Nat) v3.2.fst))))
          ((0 : Int), List.replicate (↑p.length : Int).toNat (Int.ofNat (nat_lit 0)), PUnit.unit)) = fnW tab (look []) s_compose Try.f156 (p, q, ()) P := by kernel_rfl
theorem w_implInverse (p : List Int) (P : List Int → Prop) : (((0 : Int) ≤ (↑p.length : Int) ∧ (↑p.length : Int) < (↑maxRow : Int) + (1 : Int)) ∧
  (↑p.length : Int) = (↑p.length : Int) ∧
    (0 : Nat) = (0 : Nat) ∧
      (List.replicate (↑p.length : Int).toNat (Int.ofNat (nat_lit 0))).length = (List.replicate (↑p.length : Int).toNat (Int.ofNat (nat_lit 0))).length ∧
        WLoop
          (fun (v2 : Int × List Int × PUnit) (k3 : Int × List Int × PUnit → Prop) =>
            Br (decide (v2.fst < (↑p.length : Int)))
              (∃ (y4 : Int),
                idx p v2.fst = some y4 ∧
                  ((0 : Int) ≤ y4 ∧ y4 < (↑v2.2.fst.length : Int)) ∧
                    (0 : Nat) + y4.toNat < v2.2.fst.length ∧
                      (0 : Nat) = (0 : Nat) ∧
                        v2.2.fst.length = (v2.2.fst.set ((0 : Nat) + y4.toNat) v2.fst).length ∧ k3 (IntKind.i64.wrap (v2.fst + (1 : Int)), v2.2.fst.set ((0 : Nat) + y4.toNat) v2.fst, ()))
              (P (List.take v2.2.fst.length (List.drop (0 : Nat) v2.2.fst))))
          ((0 : Int), List.replicate (↑p.length : Int).toNat (Int.ofNat (nat_lit 0)), PUnit.unit)) = fnW tab (look []) s_inverse Try.f157 (p, ()) P := by kernel_rfl
theorem w_specInv (p : List Int) (P : List Int → Prop) : (((0 : Int) ≤ (↑p.length : Int) ∧ (↑p.length : Int) < (↑maxRow : Int) + (1 : Int)) ∧
  (↑p.length : Int) = (↑p.length : Int) ∧
    (0 : Nat) = (0 : Nat) ∧
      (List.replicate (↑p.length : Int).toNat (Int.ofNat (nat_lit 0))).length = (List.replicate (↑p.length : Int).toNat (Int.ofNat (nat_lit 0))).length ∧
        WLoop
          (fun (v2 : Int × List Int × PUnit) (k3 : Int × List Int × PUnit → Prop) =>
            Br (decide (v2.fst < (↑p.length : Int)))
              (∃ (y4 : Int),
                idx p v2.fst = some y4 ∧
                  ((0 : Int) ≤ y4 ∧ y4 < (↑v2.2.fst.length : Int)) ∧
                    (0 : Nat) + y4.toNat < v2.2.fst.length ∧
                      (0 : Nat) = (0 : Nat) ∧
                        v2.2.fst.length = (v2.2.fst.set ((0 : Nat) + y4.toNat) v2.fst).length ∧ k3 (IntKind.i64.wrap (v2.fst + (1 : Int)), v2.2.fst.set ((0 : Nat) + y4.toNat) v2.fst, ()))
              (P (List.take v2.2.fst.length (List.drop (0 : Nat) v2.2.fst))))
          ((0 : Int), List.replicate (↑p.length : Int).toNat (Int.ofNat (nat_lit 0)), PUnit.unit)) = fnW tab (look []) s_inverse Try.f167 (p, ()) P := by kernel_rfl
theorem w_specInverse (p : List Int) (P : List Int → Prop) : (∃ (y2 : Bool), s_isPerm.fn (p, ()) = some y2 ∧ Br (!y2) (P (List.take (0 : Nat) (List.drop (0 : Nat) []))) (∃ (y3 : List Int), s_inverse.fn (p, ()) = some y3 ∧ P y3)) = fnW tab (look [(150, s_isPerm), (167, s_inverse)]) s_specInverse Try.f154 (p, ()) P := by kernel_rfl
theorem w_imageUnder (q s : List Int) (P : List Int → Prop) : (((0 : Int) ≤ (↑s.length : Int) ∧ (↑s.length : Int) < (↑maxRow : Int) + (1 : Int)) ∧
  (↑s.length : Int) = (↑s.length : Int) ∧
    (0 : Nat) = (0 : Nat) ∧
      (List.replicate (↑s.length : Int).toNat (Int.ofNat (nat_lit 0))).length = (List.replicate (↑s.length : Int).toNat (Int.ofNat (nat_lit 0))).length ∧
        WLoop
          (fun (v3 : Int × List Int × PUnit) (k4 : Int × List Int × PUnit → Prop) =>
            Br (decide (v3.fst < (↑s.length : Int)))
              (∃ (y5 : Int),
                idx q v3.fst = some y5 ∧
                  ∃ (y6 : Int),
                    idx s v3.fst = some y6 ∧
                      ∃ (y7 : Int),
                        idx q y6 = some y7 ∧
                          ((0 : Int) ≤ y5 ∧ y5 < (↑v3.2.fst.length : Int)) ∧
                            (0 : Nat) + y5.toNat < v3.2.fst.length ∧
                              (0 : Nat) = (0 : Nat) ∧
                                v3.2.fst.length = (v3.2.fst.set ((0 : Nat) + y5.toNat) y7).length ∧ k4 (IntKind.i64.wrap (v3.fst + (1 : Int)), v3.2.fst.set ((0 : Nat) + y5.toNat) y7, ()))
              (P (List.take v3.2.fst.length (List.drop (0 : Nat) v3.2.fst))))
          ((0 : Int), List.replicate (↑s.length : Int).toNat (Int.ofNat (nat_lit 0)), PUnit.unit)) = fnW tab (look []) s_imageUnder Try.f123 (q, s, ()) P := by kernel_rfl
theorem w_conjugate (p q : List Int) (P : List Int → Prop) : (∃ (y3 : List Int), s_inverse.fn (q, ()) = some y3 ∧ ∃ (y4 : List Int), s_compose.fn (y3, p, ()) = some y4 ∧ ∃ (y5 : List Int), s_compose.fn (y4, q, ()) = some y5 ∧ P y5) = fnW tab (look [(157, s_inverse), (156, s_compose)]) s_conjugate Try.f129 (p, q, ()) P := by kernel_rfl
theorem w_letterOf (g : List (List Int)) (l : Int) (P : List Int → Prop) : (Br (decide (l > (0 : Int))) (∃ (y3 : List Int), idx g (IntKind.i64.wrap (l - (1 : Int))) = some y3 ∧ P y3)
  (∃ (y3 : List Int), idx g (IntKind.i64.wrap (IntKind.i64.wrap ((0 : Int) - l) - (1 : Int))) = some y3 ∧ ∃ (y4 : List Int), s_inverse.fn (y3, ()) = some y4 ∧ P y4)) = fnW tab (look [(157, s_inverse)]) s_letterOf Try.f130 (g, l, ()) P := by kernel_rfl
theorem w_letters (n : Int) (P : List Int → Prop) : ((0 : Nat) = (0 : Nat) ∧
  (0 : Nat) = ([] : List Int).length ∧
    WLoop
      (fun (v2 : Int × List Int × PUnit) (k3 : Int × List Int × PUnit → Prop) =>
        Br (decide (v2.fst < n))
          ((0 : Nat) = (0 : Nat) ∧
            v2.2.fst.length = v2.2.fst.length ∧
              v2.2.fst.length + (List.take (2 : Nat) (List.drop (0 : Nat) [IntKind.i64.wrap (v2.fst + (1 : Int)), IntKind.i64.wrap ((0 : Int) - IntKind.i64.wrap (v2.fst + (1 : Int)))])).length ≤
                  maxRow ∧
                (0 : Nat) = (0 : Nat) ∧
                  (v2.2.fst ++ List.take (2 : Nat) (List.drop (0 : Nat) [IntKind.i64.wrap (v2.fst + (1 : Int)), IntKind.i64.wrap ((0 : Int) - IntKind.i64.wrap (v2.fst + (1 : Int)))])).length =
                      (v2.2.fst ++ List.take (2 : Nat) (List.drop (0 : Nat) [IntKind.i64.wrap (v2.fst + (1 : Int)), IntKind.i64.wrap ((0 : Int) - IntKind.i64.wrap (v2.fst + (1 : Int)))])).length ∧
                    k3
                      (IntKind.i64.wrap (v2.fst + (1 : Int)),
                        v2.2.fst ++ List.take (2 : Nat) (List.drop (0 : Nat) [IntKind.i64.wrap (v2.fst + (1 : Int)), IntKind.i64.wrap ((0 : Int) - IntKind.i64.wrap (v2.fst + (1 : Int)))]), ()))
          (P (List.take v2.2.fst.length (List.drop (0 : Nat) v2.2.fst))))
      ((0 : Int), [], PUnit.unit)) = fnW tab (look []) s_letters Try.f64 (n, ()) P := by kernel_rfl
theorem w_imageL (p : Int × ByteArray × List (List Int) × Unit) (q : List Int) (l : Int) (P : Int → Prop) : (∃ (y4 : List Int),
  s_letterOf.fn (p.snd.2.fst, l, ()) = some y4 ∧
    ∃ (y5 : List Int),
      s_conjugate.fn (y4, q, ()) = some y5 ∧
        ∃ (y6 : List Int),
          s_letters.fn ((↑p.snd.2.fst.length : Int), ()) = some y6 ∧
            WLoop
              (fun (v7 : Int × Int × ByteArray × List (List Int) × PUnit) (k8 : Int × Int × ByteArray × List (List Int) × PUnit → Prop) =>
                Br (decide (v7.fst < (↑y6.length : Int)))
                  (∃ (y9 : Int),
                    idx y6 v7.fst = some y9 ∧
                      ∃ (y10 : List Int),
                        s_letterOf.fn (v7.2.snd.2.fst, y9, ()) = some y10 ∧
                          ∃ (y11 : Bool), s_equalInts.fn (y10, y5, ()) = some y11 ∧ Br y11 (P y9) (k8 (IntKind.i64.wrap (v7.fst + (1 : Int)), v7.2.fst, v7.snd.2.fst, v7.2.snd.2.fst, ())))
                  (P (0 : Int)))
              ((0 : Int), p.fst, p.2.fst, p.snd.2.fst, PUnit.unit)) = fnW tab (look [(129, s_conjugate), (130, s_letterOf), (64, s_letters), (93, s_equalInts)]) s_imageL Try.f84 (p, q, l, ()) P := by kernel_rfl
theorem w_letterWith (p : Int × ByteArray × List (List Int) × Unit) (x : List Int) (P : Int → Prop) : (WLoop
  (fun (v3 : Int × Int × ByteArray × List (List Int) × PUnit) (k4 : Int × Int × ByteArray × List (List Int) × PUnit → Prop) =>
    Br (decide (v3.fst ≤ (↑v3.2.snd.2.fst.length : Int)))
      (∃ (y5 : List Int),
        idx v3.2.snd.2.fst (IntKind.i64.wrap (v3.fst - (1 : Int))) = some y5 ∧
          ∃ (y6 : Bool),
            s_equalInts.fn (y5, x, ()) = some y6 ∧
              Br y6 (P v3.fst)
                (∃ (y7 : List Int),
                  idx v3.2.snd.2.fst (IntKind.i64.wrap (v3.fst - (1 : Int))) = some y7 ∧
                    ∃ (y8 : List Int),
                      s_specInverse.fn (y7, ()) = some y8 ∧
                        ∃ (y9 : Bool),
                          s_equalInts.fn (y8, x, ()) = some y9 ∧
                            Br y9 (P (IntKind.i64.wrap ((0 : Int) - v3.fst))) (k4 (IntKind.i64.wrap (v3.fst + (1 : Int)), v3.2.fst, v3.snd.2.fst, v3.2.snd.2.fst, ()))))
      (P (0 : Int)))
  ((1 : Int), p.fst, p.2.fst, p.snd.2.fst, PUnit.unit)) = fnW tab (look [(90, s_equalInts), (154, s_specInverse)]) s_letterWith Try.f122 (p, x, ()) P := by kernel_rfl
theorem w_specIsSymP (p : Int × ByteArray × List (List Int) × Unit) (q : List Int) (P : Bool → Prop) : (WLoop
  (fun (v3 : Int × Int × ByteArray × List (List Int) × PUnit) (k4 : Int × Int × ByteArray × List (List Int) × PUnit → Prop) =>
    Br (decide (v3.fst < (↑v3.2.snd.2.fst.length : Int)))
      (∃ (y5 : List Int),
        idx v3.2.snd.2.fst v3.fst = some y5 ∧
          ∃ (y6 : List Int),
            s_imageUnder.fn (q, y5, ()) = some y6 ∧
              ∃ (y7 : Int),
                s_letterWith.fn ((v3.2.fst, v3.snd.2.fst, v3.2.snd.2.fst, ()), y6, ()) = some y7 ∧
                  Br (y7 == (0 : Int)) (P false) (k4 (IntKind.i64.wrap (v3.fst + (1 : Int)), v3.2.fst, v3.snd.2.fst, v3.2.snd.2.fst, ())))
      (P true))
  ((0 : Int), p.fst, p.2.fst, p.snd.2.fst, PUnit.unit)) = fnW tab (look [(122, s_letterWith), (123, s_imageUnder)]) s_isSymP Try.f120 (p, q, ()) P := by kernel_rfl
theorem w_implIsSymP (p : Int × ByteArray × List (List Int) × Unit) (q : List Int) (P : Bool → Prop) : (WLoop
  (fun (v3 : Int × Int × ByteArray × List (List Int) × PUnit) (k4 : Int × Int × ByteArray × List (List Int) × PUnit → Prop) =>
    Br (decide (v3.fst < (↑p.snd.2.fst.length : Int)))
      (∃ (y5 : Int),
        s_imageL.fn ((v3.2.fst, v3.snd.2.fst, v3.2.snd.2.fst, ()), q, IntKind.i64.wrap (v3.fst + (1 : Int)), ()) = some y5 ∧
          Br (y5 == (0 : Int)) (P false) (k4 (IntKind.i64.wrap (v3.fst + (1 : Int)), v3.2.fst, v3.snd.2.fst, v3.2.snd.2.fst, ())))
      (P true))
  ((0 : Int), p.fst, p.2.fst, p.snd.2.fst, PUnit.unit)) = fnW tab (look [(84, s_imageL)]) s_isSymP Try.f127 (p, q, ()) P := by kernel_rfl
theorem gets_nat {xs : List Int} {i : Nat} (h : i < xs.length) : gets xs (i : Int) = xs[i] := by
  unfold gets
  rw [Int.toNat_natCast, List.getD_eq_getElem?_getD, List.getElem?_eq_getElem h]; rfl
theorem idx_gets {xs : List Int} {y : Int} (h0 : 0 ≤ y) (h : y < xs.length) : idx xs y = some (gets xs y) := by
  have hy : y.toNat < xs.length := by omega
  have e : y = (y.toNat : Int) := by omega
  rw [e, idx_nat hy, gets_nat hy]
theorem foldSet_succ (f : Nat → Nat) (g : Nat → Int) (m : Nat) (init : List Int) : foldSet f g (m + 1) init = (foldSet f g m init).set (f m) (g m) := by simp [foldSet, List.range_succ]
theorem foldSet_len (f : Nat → Nat) (g : Nat → Int) (m : Nat) (init : List Int) : (foldSet f g m init).length = init.length := by
  induction m with
  | zero => rfl
  | succ m ih => rw [foldSet_succ, List.length_set, ih]
theorem foldSet_get (f : Nat → Nat) (g : Nat → Int) (init : List Int) : ∀ (m : Nat), (∀ i j, i < m → j < m → f i = f j → i = j) → ∀ i, i < m → f i < init.length → (foldSet f g m init)[f i]? = some (g i)
  | 0, _, i, h, _ => absurd h (Nat.not_lt_zero _)
  | m + 1, hf, i, hi, hl => by
    rw [foldSet_succ]
    by_cases e : i = m
    · subst e
      exact List.getElem?_set_self (by rw [foldSet_len]; exact hl)
    · rw [List.getElem?_set_ne (fun h => e (hf i m hi (by omega) h.symm))]
      exact foldSet_get f g init m (fun a b ha hb => hf a b (by omega) (by omega)) i (by omega) hl
structure PermOK (p : List Int) : Prop where
  pos : 1 ≤ p.length
  len : p.length ≤ 20
  row : inRow p.length p
  nodup : p.Nodup
theorem permOK {p : List Int} (h : m_isPerm p = true) : PermOK p := by
  obtain ⟨h1, h2, h3⟩ := dec_iff.1 h
  refine ⟨h1, h2, fun y hy => ?_, nodup_of_takes fun j hj => (h3 j hj hj).2.2⟩
  obtain ⟨j, hj, rfl⟩ := List.mem_iff_getElem.1 hy
  have := h3 j hj hj
  omega
theorem PermOK.inj {p : List Int} (h : PermOK p) (i j : Nat) (hi : i < p.length) (hj : j < p.length) (e : (gets p (i : Int)).toNat = (gets p (j : Int)).toNat) : i = j := by
  rw [gets_nat hi, gets_nat hj] at e
  have h1 := h.row _ (List.getElem_mem hi)
  have h2 := h.row _ (List.getElem_mem hj)
  have e : p[i] = p[j] := by omega
  refine Classical.byContradiction fun hne => ?_
  rcases Nat.lt_or_gt_of_ne hne with hl | hl
  · exact List.pairwise_iff_getElem.1 h.nodup i j hi hj hl e
  · exact List.pairwise_iff_getElem.1 h.nodup j i hj hi hl e.symm
theorem PermOK.onto {p : List Int} (h : PermOK p) (k : Nat) (hk : k < p.length) : ∃ i, i < p.length ∧ (gets p (i : Int)).toNat = k := by
  have hm := (all_iff_nodup (xs := p) h.row).2 (takes_of_nodup h.nodup) k hk
  obtain ⟨i, hi, e⟩ := List.mem_iff_getElem.1 hm
  exact ⟨i, hi, by rw [gets_nat hi, e]; exact Int.toNat_natCast k⟩
theorem PermOK.lt {p : List Int} (h : PermOK p) {i : Nat} (hi : i < p.length) : (gets p (i : Int)).toNat < p.length := by
  rw [gets_nat hi]
  have := h.row _ (List.getElem_mem hi)
  omega
theorem inv_len (p : List Int) : (m_inverse p).length = p.length := by unfold m_inverse; rw [foldSet_len, List.length_replicate]
theorem inv_at {p : List Int} (h : PermOK p) {i : Nat} (hi : i < p.length) : (m_inverse p)[(gets p (i : Int)).toNat]? = some (i : Int) :=
  foldSet_get (fun i => (gets p (i : Int)).toNat) (fun i => (i : Int)) _ p.length (fun i j hi hj => h.inj i j hi hj) i hi (by rw [List.length_replicate]; exact h.lt hi)
theorem inv_row {p : List Int} (h : PermOK p) : inRow p.length (m_inverse p) := by
  intro y hy
  obtain ⟨k, hk, rfl⟩ := List.mem_iff_getElem.1 hy
  have hk' : k < p.length := by rw [inv_len] at hk; exact hk
  obtain ⟨i, hi, rfl⟩ := h.onto k hk'
  have := inv_at h hi
  rw [List.getElem?_eq_getElem hk] at this
  rw [Option.some.inj this]
  omega
theorem compose_len (p q : List Int) : (m_compose p q).length = p.length := by simp [m_compose]
theorem compose_row {p q : List Int} {n : Nat} (hp : inRow q.length p) (hq : inRow n q) : inRow n (m_compose p q) := by
  intro y hy
  obtain ⟨x, hx, rfl⟩ := List.mem_map.1 hy
  have h1 := hp x hx
  rw [show x = (x.toNat : Int) by omega, gets_nat (by omega)]
  exact hq _ (List.getElem_mem _)
theorem image_len (q s : List Int) : (m_imageUnder q s).length = s.length := by unfold m_imageUnder; rw [foldSet_len, List.length_replicate]
/-- The image under a permutation is the conjugate. -/
theorem conj_image {q s : List Int} (hq : PermOK q) (hl : s.length = q.length) : m_conj s q = m_imageUnder q s := by
  have hcl : (m_conj s q).length = q.length := by simp only [m_conj, compose_len, inv_len]
  refine List.ext_getElem (by rw [hcl, image_len, hl]) fun k h1 h2 => ?_
  have hk : k < q.length := by rw [hcl] at h1; exact h1
  obtain ⟨i, hi, e⟩ := hq.onto k hk
  have e1 := foldSet_get (fun i => (gets q (i : Int)).toNat) (fun i => gets q (gets s (i : Int))) (List.replicate s.length 0) s.length (fun i j hi hj => hq.inj i j (by omega) (by omega)) i (by omega) (by rw [List.length_replicate, hl]; exact hq.lt hi)
  have e2 := inv_at hq hi
  rw [e] at e2
  simp only [e] at e1
  have e1 : (m_imageUnder q s)[k]? = some (gets q (gets s (i : Int))) := e1
  rw [List.getElem?_eq_getElem h2] at e1
  rw [Option.some.inj e1]
  rw [List.getElem?_eq_getElem (by rw [inv_len]; exact hk)] at e2
  simp only [m_conj, m_compose, List.getElem_map]
  rw [Option.some.inj e2]
theorem p_implCompose (p q : List Int) (h : p.length ≤ 20 ∧ inRow q.length p) : fnW tab (look []) s_compose Try.f156 (p, q, ()) (fun (z : List Int) => z = m_compose p q) := by
  obtain ⟨h, hr⟩ := h
  refine Eq.mp (w_implCompose p q _) ?_
  refine ⟨⟨by omega, by show (p.length : Int) < (4294967296 : Int) + 1; omega⟩, rfl, rfl, rfl, ?_⟩
  have hcl := compose_len p q
  refine loop_range p.length (fun v => v.1) (fun j v => v.2.1.length = (m_compose p q).length ∧ v.2.1.take j = (m_compose p q).take j) rfl ⟨by rw [hcl]; simp, by simp⟩ ?_
  rintro j ⟨i, ys, ⟨⟩⟩ K hj hi ⟨h1, h2⟩ hK
  dsimp only at hi h1 h2 ⊢
  subst hi
  refine Br.dec (fun hl => ?_) fun hl => ?_
  · have hl : j < p.length := by omega
    have hy := hr _ (List.getElem_mem hl)
    refine ⟨_, idx_nat hl, _, idx_gets hy.1 hy.2, ⟨by omega, by omega⟩, by rw [Int.toNat_natCast]; omega, rfl, by rw [List.length_set], ?_⟩
    rw [wrap_nat (by omega), Int.toNat_natCast, Nat.zero_add]
    have hl' : j < (m_compose p q).length := by rw [hcl]; exact hl
    have e : gets q p[j] = (m_compose p q)[j] := by simp [m_compose]
    rw [e]
    exact hK hl _ rfl ⟨by rw [List.length_set]; exact h1, take_set_succ hl' h1 h2⟩
  · have : j = p.length := by omega
    subst this
    rw [← hcl, List.take_length, ← h1, List.take_length] at h2
    rw [List.drop_zero, List.take_length]
    exact h2
theorem sound_implCompose : Sound Try.prog 156 s_compose :=
  Sound.mkS tabOK envNil mixed Try.func156 (by kernel_rfl) (by kernel_rfl) fun x h => p_implCompose x.1 x.2.1 h
theorem p_implInverse (p : List Int) (h : p.length ≤ 20 ∧ inRow p.length p) : fnW tab (look []) s_inverse Try.f157 (p, ()) (fun (z : List Int) => z = m_inverse p) := by
  obtain ⟨h, hr⟩ := h
  refine Eq.mp (w_implInverse p _) ?_
  refine ⟨⟨by omega, by show (p.length : Int) < (4294967296 : Int) + 1; omega⟩, rfl, rfl, rfl, ?_⟩
  refine loop_range p.length (fun v => v.1) (fun j v => v.2.1 = foldSet (fun i => (gets p (i : Int)).toNat) (fun i => (i : Int)) j (List.replicate p.length 0)) rfl rfl ?_
  rintro j ⟨i, ys, ⟨⟩⟩ K hj hi h1 hK
  dsimp only at hi h1 ⊢
  subst hi
  have hlen : ys.length = p.length := by rw [h1, foldSet_len, List.length_replicate]
  refine Br.dec (fun hl => ?_) fun hl => ?_
  · have hl : j < p.length := by omega
    have hy := hr _ (List.getElem_mem hl)
    refine ⟨_, idx_nat hl, ⟨by omega, by omega⟩, by omega, rfl, by rw [List.length_set], ?_⟩
    rw [wrap_nat (by omega), Nat.zero_add]
    refine hK hl _ rfl ?_
    rw [foldSet_succ, ← h1, gets_nat hl]
  · have : j = p.length := by omega
    subst this
    rw [List.drop_zero, List.take_length]
    exact h1
theorem sound_implInverse : Sound Try.prog 157 s_inverse :=
  Sound.mkS tabOK envNil mixed Try.func157 (by kernel_rfl) (by kernel_rfl) fun x h => p_implInverse x.1 h
theorem p_specInv (p : List Int) (h : p.length ≤ 20 ∧ inRow p.length p) : fnW tab (look []) s_inverse Try.f167 (p, ()) (fun (z : List Int) => z = m_inverse p) := by
  obtain ⟨h, hr⟩ := h
  refine Eq.mp (w_specInv p _) ?_
  refine ⟨⟨by omega, by show (p.length : Int) < (4294967296 : Int) + 1; omega⟩, rfl, rfl, rfl, ?_⟩
  refine loop_range p.length (fun v => v.1) (fun j v => v.2.1 = foldSet (fun i => (gets p (i : Int)).toNat) (fun i => (i : Int)) j (List.replicate p.length 0)) rfl rfl ?_
  rintro j ⟨i, ys, ⟨⟩⟩ K hj hi h1 hK
  dsimp only at hi h1 ⊢
  subst hi
  have hlen : ys.length = p.length := by rw [h1, foldSet_len, List.length_replicate]
  refine Br.dec (fun hl => ?_) fun hl => ?_
  · have hl : j < p.length := by omega
    have hy := hr _ (List.getElem_mem hl)
    refine ⟨_, idx_nat hl, ⟨by omega, by omega⟩, by omega, rfl, by rw [List.length_set], ?_⟩
    rw [wrap_nat (by omega), Nat.zero_add]
    refine hK hl _ rfl ?_
    rw [foldSet_succ, ← h1, gets_nat hl]
  · have : j = p.length := by omega
    subst this
    rw [List.drop_zero, List.take_length]
    exact h1
theorem sound_specInv : Sound Try.prog 167 s_inverse :=
  Sound.mkS tabOK envNil mixed Try.func167 (by kernel_rfl) (by kernel_rfl) fun x h => p_specInv x.1 h
theorem p_specInverse (p : List Int) (h : m_isPerm p = true) : fnW tab (look [(150, s_isPerm), (167, s_inverse)]) s_specInverse Try.f154 (p, ()) (fun (z : List Int) => z = m_inverse p) := by
  have hp := permOK h
  have hs : short p := by have := hp.len; unfold short; omega
  refine Eq.mp (w_specInverse p _) ⟨_, if_pos hs, ⟨fun he => ?_, fun _ => ⟨_, if_pos ⟨hp.len, hp.row⟩, rfl⟩⟩⟩
  exact absurd h (bnot_true he)
theorem sound_specInverse : Sound Try.prog 154 s_specInverse :=
  Sound.mkS tabOK (envCons sound_specIsPerm (envCons sound_specInv envNil)) mixed Try.func154 (by kernel_rfl) (by kernel_rfl) fun x h => p_specInverse x.1 h
theorem p_imageUnder (q s : List Int) (h : s.length ≤ 20 ∧ q.length = s.length ∧ inRow q.length q ∧ inRow q.length s) : fnW tab (look []) s_imageUnder Try.f123 (q, s, ()) (fun (z : List Int) => z = m_imageUnder q s) := by
  obtain ⟨h, hq, hr, hr2⟩ := h
  refine Eq.mp (w_imageUnder q s _) ?_
  refine ⟨⟨by omega, by show (s.length : Int) < (4294967296 : Int) + 1; omega⟩, rfl, rfl, rfl, ?_⟩
  refine loop_range s.length (fun v => v.1) (fun j v => v.2.1 = foldSet (fun i => (gets q (i : Int)).toNat) (fun i => gets q (gets s (i : Int))) j (List.replicate s.length 0)) rfl rfl ?_
  rintro j ⟨i, ys, ⟨⟩⟩ K hj hi h1 hK
  dsimp only at hi h1 ⊢
  subst hi
  have hlen : ys.length = s.length := by rw [h1, foldSet_len, List.length_replicate]
  refine Br.dec (fun hl => ?_) fun hl => ?_
  · have hl : j < s.length := by omega
    have hlq : j < q.length := by omega
    have hy := hr _ (List.getElem_mem hlq)
    have hy2 := hr2 _ (List.getElem_mem hl)
    refine ⟨_, idx_nat hlq, _, idx_nat hl, _, idx_gets hy2.1 hy2.2, ⟨by omega, by omega⟩, by omega, rfl, by rw [List.length_set], ?_⟩
    rw [wrap_nat (by omega), Nat.zero_add]
    refine hK hl _ rfl ?_
    rw [foldSet_succ, ← h1, gets_nat hlq, gets_nat hl]
  · have : j = s.length := by omega
    subst this
    rw [List.drop_zero, List.take_length]
    exact h1
theorem sound_imageUnder : Sound Try.prog 123 s_imageUnder :=
  Sound.mkS tabOK envNil mixed Try.func123 (by kernel_rfl) (by kernel_rfl) fun x h => p_imageUnder x.1 x.2.1 h
theorem p_conjugate (p q : List Int) (h : p.length = q.length ∧ inRow p.length p ∧ m_isPerm q = true) : fnW tab (look [(157, s_inverse), (156, s_compose)]) s_conjugate Try.f129 (p, q, ()) (fun (z : List Int) => z = m_conj p q) := by
  obtain ⟨hl, hr, hq⟩ := h
  have hq := permOK hq
  have h20 := hq.len
  refine Eq.mp (w_conjugate p q _) ⟨_, if_pos ⟨hq.len, hq.row⟩, _, if_pos ⟨by show (m_inverse q).length ≤ 20; rw [inv_len]; exact h20, ?_⟩, _, if_pos ⟨?_, ?_⟩, rfl⟩
  · show inRow p.length (m_inverse q)
    rw [hl]; exact inv_row hq
  · show (m_compose (m_inverse q) p).length ≤ 20
    rw [compose_len, inv_len]; exact h20
  · show inRow q.length (m_compose (m_inverse q) p)
    exact compose_row (by rw [hl]; exact inv_row hq) (by rw [← hl]; exact hr)
theorem sound_conjugate : Sound Try.prog 129 s_conjugate :=
  Sound.mkS tabOK (envCons sound_implInverse (envCons sound_implCompose envNil)) mixed Try.func129 (by kernel_rfl) (by kernel_rfl) fun x h => p_conjugate x.1 x.2.1 h
theorem upto_succ (j : Nat) : upto (j + 1) = upto j ++ [(j : Int)] := by simp [upto, List.range_succ]
theorem letter_pos {g : List (List Int)} {k : Nat} (h : k < g.length) : m_letterOf g ((k : Int) + 1) = g[k] := by
  unfold m_letterOf
  rw [if_pos (by omega), show ((k : Int) + 1 - 1).toNat = k by omega, List.getD_eq_getElem?_getD, List.getElem?_eq_getElem h]; rfl
theorem letter_neg {g : List (List Int)} {k : Nat} (h : k < g.length) : m_letterOf g (-((k : Int) + 1)) = m_inverse g[k] := by
  unfold m_letterOf
  rw [if_neg (by omega), show (-(-((k : Int) + 1)) - 1).toNat = k by omega, List.getD_eq_getElem?_getD, List.getElem?_eq_getElem h]; rfl
theorem letter_cases {n : Nat} {l : Int} (h : isLetter n l) : ∃ k : Nat, k < n ∧ (l = (k : Int) + 1 ∨ l = -((k : Int) + 1)) := by
  obtain ⟨h1, h2, h3⟩ := h
  by_cases h0 : 0 < l
  · exact ⟨(l - 1).toNat, by omega, .inl (by omega)⟩
  · exact ⟨(-l - 1).toNat, by omega, .inr (by omega)⟩
theorem p_letterOf (g : List (List Int)) (l : Int) (h : isLetter (List.length g) l ∧ List.length g ≤ 8 ∧ ∀ p ∈ g, m_isPerm p = true) : fnW tab (look [(157, s_inverse)]) s_letterOf Try.f130 (g, l, ()) (fun (z : List Int) => z = m_letterOf g l) := by
  obtain ⟨hl, h8, hp⟩ := h
  refine Eq.mp (w_letterOf g l _) ?_
  obtain ⟨k, hk, rfl | rfl⟩ := letter_cases hl
  · refine Br.dec (fun _ => ?_) fun hn => by omega
    rw [wrap_id (by omega) (by omega), show (k : Int) + 1 - 1 = (k : Int) by omega]
    exact ⟨_, idx_nat hk, (letter_pos hk).symm⟩
  · refine Br.dec (fun hn => by omega) fun _ => ?_
    rw [wrap_id (n := 0 - -((k : Int) + 1)) (by omega) (by omega), wrap_id (by omega) (by omega), show (0 : Int) - -((k : Int) + 1) - 1 = (k : Int) by omega]
    have := permOK (hp _ (List.getElem_mem hk))
    exact ⟨_, idx_nat hk, _, if_pos ⟨this.len, this.row⟩, (letter_neg hk).symm⟩
theorem sound_letterOf : Sound Try.prog 130 s_letterOf :=
  Sound.mkS tabOK (envCons sound_implInverse envNil) mixed Try.func130 (by kernel_rfl) (by kernel_rfl) fun x h => p_letterOf x.1 x.2.1 h
theorem m_letters_succ (j : Nat) : m_letters (j + 1) = m_letters j ++ [(j : Int) + 1, -((j : Int) + 1)] := by simp [m_letters, List.range_succ, List.flatMap_append]
theorem m_letters_len (j : Nat) : (m_letters j).length = 2 * j := by
  induction j with
  | zero => rfl
  | succ j ih => rw [m_letters_succ, List.length_append, ih]; simp only [List.length_cons, List.length_nil]; omega
theorem mem_letters {n : Nat} {l : Int} (h : l ∈ m_letters n) : isLetter n l := by
  unfold m_letters at h
  obtain ⟨k, hk, hl⟩ := List.mem_flatMap.1 h
  have hk := List.mem_range.1 hk
  simp only [List.mem_cons, List.not_mem_nil, or_false] at hl
  unfold isLetter
  omega
theorem p_letters (n : Int) (h : 0 ≤ n ∧ n ≤ 8) : fnW tab (look []) s_letters Try.f64 (n, ()) (fun (z : List Int) => z = m_letters n.toNat) := by
  refine Eq.mp (w_letters n _) ⟨rfl, rfl, ?_⟩
  refine loop_range n.toNat (fun v => v.1) (fun j v => v.2.1 = m_letters j) rfl rfl ?_
  rintro j ⟨i, ys, ⟨⟩⟩ K hj hi h1 hK
  dsimp only at hi h1 ⊢
  subst hi h1
  refine Br.dec (fun hl => ?_) fun hl => ?_
  · refine ⟨rfl, rfl, ?_, rfl, rfl, ?_⟩
    · show (m_letters j).length + 2 ≤ 4294967296
      rw [m_letters_len]; omega
    · have e1 : IntKind.i64.wrap ((j : Int) + 1) = (j : Int) + 1 := wrap_id (by omega) (by omega)
      have e2 : IntKind.i64.wrap ((0 : Int) - ((j : Int) + 1)) = -((j : Int) + 1) := by rw [wrap_id (by omega) (by omega)]; omega
      rw [e1, e2]
      exact hK (by omega) _ rfl (m_letters_succ j).symm
  · have : j = n.toNat := by omega
    subst this
    rw [List.drop_zero, List.take_length]
theorem sound_letters : Sound Try.prog 64 s_letters :=
  Sound.mkS tabOK envNil mixed Try.func64 (by kernel_rfl) (by kernel_rfl) fun x h => p_letters x.1 h
theorem first_go (g : List (List Int)) (x : List Int) : ∀ (c k : Nat), k + c = g.length → m_firstL g x ((List.range' k c).flatMap fun (k : Nat) => [(k : Int) + 1, -((k : Int) + 1)]) = m_go x (g.drop k) ((k : Int) + 1)
  | 0, k, h => by
    have : k = g.length := by omega
    subst this
    rw [List.drop_length]; rfl
  | c + 1, k, h => by
    have hk : k < g.length := by omega
    rw [List.range'_succ, List.flatMap_cons, List.drop_eq_getElem_cons hk]
    simp only [List.cons_append, List.nil_append, m_firstL, m_go]
    rw [letter_pos hk, letter_neg hk, first_go g x c (k + 1) (by omega)]
    rfl
theorem first_letters (g : List (List Int)) (x : List Int) : m_firstL g x (m_letters g.length) = m_letterWith g x := by
  unfold m_letters m_letterWith
  rw [List.range_eq_range', first_go g x g.length 0 (by omega)]
  rfl
structure Valid (p : PP) : Prop where
  n : 1 ≤ p.1 ∧ p.1 ≤ 20
  few : 1 ≤ p.2.2.1.length ∧ p.2.2.1.length ≤ 8
  perm : ∀ m ∈ p.2.2.1, m_isPerm m = true
  len : ∀ m ∈ p.2.2.1, (m.length : Int) = p.1
theorem valid {p : PP} (h : m_validP p = true) : Valid p := by
  have h0 := validP_len h
  obtain ⟨h1, _, _⟩ := dec_iff.1 h
  obtain ⟨_, _, h4⟩ := dec_iff.1 h1
  exact ⟨⟨h0.1, h0.2.1⟩, h0.2.2, fun m hm => (dec_iff.1 (h4 m hm)).2, fun m hm => (dec_iff.1 (h4 m hm)).1⟩
theorem letter_ok {p : PP} (h : Valid p) {l : Int} (hl : isLetter (List.length p.2.2.1) l) : ((m_letterOf p.2.2.1 l).length : Int) = p.1 ∧ inRow (m_letterOf p.2.2.1 l).length (m_letterOf p.2.2.1 l) := by
  obtain ⟨k, hk, rfl | rfl⟩ := letter_cases hl
  · rw [letter_pos hk]
    exact ⟨h.len _ (List.getElem_mem hk), (permOK (h.perm _ (List.getElem_mem hk))).row⟩
  · rw [letter_neg hk, inv_len]
    exact ⟨h.len _ (List.getElem_mem hk), inv_row (permOK (h.perm _ (List.getElem_mem hk)))⟩
theorem p_imageL (p : PP) (q : List Int) (l : Int) (h : m_validP p = true ∧ m_genOK p.1 q = true ∧ isLetter (List.length p.2.2.1) l) : fnW tab (look [(129, s_conjugate), (130, s_letterOf), (64, s_letters), (93, s_equalInts)]) s_imageL Try.f84 (p, q, l, ()) (fun (z : Int) => z = m_imageL p q l) := by
  obtain ⟨hv, hq, hl⟩ := h
  have hv := valid hv
  obtain ⟨hq1, hq2⟩ := dec_iff.1 hq
  obtain ⟨hl1, hl2⟩ := letter_ok hv hl
  have hf := hv.few
  have hn := hv.n
  refine Eq.mp (w_imageL p q l _) ⟨_, if_pos ⟨hl, hf.2, hv.perm⟩, _, if_pos ⟨by show (m_letterOf p.2.2.1 l).length = q.length; omega, hl2, hq2⟩, m_letters p.2.2.1.length, if_pos ⟨Int.natCast_nonneg _, by show ((p.2.2.1.length : Nat) : Int) ≤ 8; omega⟩, ?_⟩
  have hL := m_letters_len p.2.2.1.length
  have hF : m_firstL p.2.2.1 (m_conj (m_letterOf p.2.2.1 l) q) (m_letters p.2.2.1.length) = m_imageL p q l := first_letters _ _
  refine loop_range (m_letters p.2.2.1.length).length (fun v => v.1) (fun j v => v.2 = (p.1, p.2.1, p.2.2.1, ()) ∧ m_firstL p.2.2.1 (m_conj (m_letterOf p.2.2.1 l) q) ((m_letters p.2.2.1.length).drop j) = m_imageL p q l) rfl ⟨rfl, by rw [List.drop_zero]; exact hF⟩ ?_
  rintro j ⟨i, v⟩ K hj hi ⟨hv', hR⟩ hK
  dsimp only at hi hv' ⊢
  subst hi hv'
  dsimp only
  refine Br.dec (fun hlt => ?_) fun hlt => ?_
  · have hlt : j < (m_letters p.2.2.1.length).length := by omega
    have hlj := mem_letters (List.getElem_mem hlt)
    have hs := letter_ok hv hlj
    rw [List.drop_eq_getElem_cons hlt] at hR
    simp only [m_firstL] at hR
    refine ⟨_, idx_nat hlt, _, if_pos ⟨hlj, hf.2, hv.perm⟩, _, if_pos (by show short (m_letterOf p.2.2.1 (m_letters p.2.2.1.length)[j]); unfold short; have := hs.1; omega), ⟨fun he => ?_, fun he => ?_⟩⟩
    · have he : decide (m_letterOf p.2.2.1 (m_letters p.2.2.1.length)[j] = m_conj (m_letterOf p.2.2.1 l) q) = true := he
      rw [if_pos (of_decide_eq_true he)] at hR
      exact hR
    · have he : decide (m_letterOf p.2.2.1 (m_letters p.2.2.1.length)[j] = m_conj (m_letterOf p.2.2.1 l) q) = false := he
      rw [if_neg (of_decide_eq_false he)] at hR
      rw [wrap_nat (by omega)]
      exact hK hlt _ rfl ⟨rfl, hR⟩
  · have : j = (m_letters p.2.2.1.length).length := by omega
    subst this
    rw [List.drop_length] at hR
    exact hR
theorem sound_imageL : Sound Try.prog 84 s_imageL :=
  Sound.mkS tabOK (envCons sound_conjugate (envCons sound_letterOf (envCons sound_letters (envCons sound_slicesEqual envNil)))) mixed Try.func84 (by kernel_rfl) (by kernel_rfl) fun x h => p_imageL x.1 x.2.1 x.2.2.1 h
theorem p_letterWith (p : PP) (x : List Int) (h : m_validP p = true ∧ short x) : fnW tab (look [(90, s_equalInts), (154, s_specInverse)]) s_letterWith Try.f122 (p, x, ()) (fun (z : Int) => z = m_letterWith p.2.2.1 x) := by
  obtain ⟨hv, hx⟩ := h
  have hv := valid hv
  have hf := hv.few
  have hn := hv.n
  refine Eq.mp (w_letterWith p x _) ?_
  refine loop_range p.2.2.1.length (fun v => v.1 - 1) (fun j v => v.2 = (p.1, p.2.1, p.2.2.1, ()) ∧ m_go x (p.2.2.1.drop j) ((j : Int) + 1) = m_letterWith p.2.2.1 x) rfl ⟨rfl, rfl⟩ ?_
  rintro j ⟨i, v⟩ K hj hi ⟨hv', hR⟩ hK
  dsimp only at hi hv' ⊢
  subst hv'
  obtain rfl : i = (j : Int) + 1 := by omega
  dsimp only
  refine Br.dec (fun hl => ?_) fun hl => ?_
  · have hl : j < p.2.2.1.length := by omega
    have hm := hv.perm _ (List.getElem_mem hl)
    have hlen := hv.len _ (List.getElem_mem hl)
    rw [List.drop_eq_getElem_cons hl] at hR
    simp only [m_go] at hR
    rw [wrap_id (n := (j : Int) + 1 - 1) (by omega) (by omega), show (j : Int) + 1 - 1 = (j : Int) by omega]
    refine ⟨_, idx_nat hl, _, if_pos (by show short p.2.2.1[j]; unfold short; omega), ⟨fun he => ?_, fun he => ⟨_, idx_nat hl, _, if_pos hm, _, if_pos (by show short (m_inverse p.2.2.1[j]); unfold short; rw [inv_len]; omega), ⟨fun he2 => ?_, fun he2 => ?_⟩⟩⟩⟩
    · have he : decide (p.2.2.1[j] = x) = true := he
      rw [if_pos (of_decide_eq_true he)] at hR
      exact hR
    · have he : decide (p.2.2.1[j] = x) = false := he
      have he2 : decide (m_inverse p.2.2.1[j] = x) = true := he2
      rw [if_neg (of_decide_eq_false he), if_pos (of_decide_eq_true he2)] at hR
      rw [wrap_id (by omega) (by omega), ← hR]
      omega
    · have he : decide (p.2.2.1[j] = x) = false := he
      have he2 : decide (m_inverse p.2.2.1[j] = x) = false := he2
      rw [if_neg (of_decide_eq_false he), if_neg (of_decide_eq_false he2)] at hR
      rw [wrap_id (by omega) (by omega)]
      exact hK hl _ (by dsimp only; omega) ⟨rfl, by push_cast; exact hR⟩
  · have : j = p.2.2.1.length := by omega
    subst this
    rw [List.drop_length] at hR
    exact hR
theorem sound_letterWith : Sound Try.prog 122 s_letterWith :=
  Sound.mkS tabOK (envCons sound_equalInts (envCons sound_specInverse envNil)) mixed Try.func122 (by kernel_rfl) (by kernel_rfl) fun x h => p_letterWith x.1 x.2.1 h
theorem p_implIsSymP (p : PP) (q : List Int) (h : m_validP p = true ∧ m_genOK p.1 q = true) : fnW tab (look [(84, s_imageL)]) s_isSymP Try.f127 (p, q, ()) (fun (z : Bool) => z = m_isSym p q) := by
  have hv := valid h.1
  have hf := hv.few
  refine Eq.mp (w_implIsSymP p q _) ?_
  refine loop_range p.2.2.1.length (fun v => v.1) (fun j v => v.2 = (p.1, p.2.1, p.2.2.1, ()) ∧ ∀ k : Nat, k < j → m_imageL p q ((k : Int) + 1) ≠ 0) rfl ⟨rfl, fun k hk => absurd hk (Nat.not_lt_zero _)⟩ ?_
  rintro j ⟨i, v⟩ K hj hi ⟨hv', hR⟩ hK
  dsimp only at hi hv' ⊢
  subst hi hv'
  dsimp only
  refine Br.dec (fun hl => ?_) fun hl => ?_
  · have hl : j < p.2.2.1.length := by omega
    have e1 : IntKind.i64.wrap ((j : Int) + 1) = (j : Int) + 1 := wrap_id (by omega) (by omega)
    rw [e1]
    refine ⟨_, if_pos ⟨h.1, h.2, by dsimp only; omega, by dsimp only; omega, by dsimp only; omega⟩, ⟨fun he => ?_, fun he => ?_⟩⟩
    · have he : (m_imageL p q ((j : Int) + 1) == 0) = true := he
      exact dec_false fun hh => hh j hl (beq_iff_eq.1 he)
    · have he : (m_imageL p q ((j : Int) + 1) == 0) = false := he
      refine hK hl _ rfl ⟨rfl, fun k hk => ?_⟩
      by_cases e : k = j
      · subst e; exact beq_eq_false_iff_ne.1 he
      · exact hR k (by omega)
  · have : j = p.2.2.1.length := by omega
    subst this
    exact dec_true hR
theorem sound_implIsSymP : Sound Try.prog 127 s_isSymP :=
  Sound.mkS tabOK (envCons sound_imageL envNil) mixed Try.func127 (by kernel_rfl) (by kernel_rfl) fun x h => p_implIsSymP x.1 x.2.1 h
theorem p_specIsSymP (p : PP) (q : List Int) (h : m_validP p = true ∧ m_genOK p.1 q = true) : fnW tab (look [(122, s_letterWith), (123, s_imageUnder)]) s_isSymP Try.f120 (p, q, ()) (fun (z : Bool) => z = m_isSym p q) := by
  have hv := valid h.1
  have hf := hv.few
  have hn := hv.n
  obtain ⟨hq1, hq2⟩ := dec_iff.1 h.2
  have hq := permOK hq2
  refine Eq.mp (w_specIsSymP p q _) ?_
  refine loop_range p.2.2.1.length (fun v => v.1) (fun j v => v.2 = (p.1, p.2.1, p.2.2.1, ()) ∧ ∀ k : Nat, k < j → m_imageL p q ((k : Int) + 1) ≠ 0) rfl ⟨rfl, fun k hk => absurd hk (Nat.not_lt_zero _)⟩ ?_
  rintro j ⟨i, v⟩ K hj hi ⟨hv', hR⟩ hK
  dsimp only at hi hv' ⊢
  subst hi hv'
  dsimp only
  refine Br.dec (fun hl => ?_) fun hl => ?_
  · have hl : j < p.2.2.1.length := by omega
    have hm := permOK (hv.perm _ (List.getElem_mem hl))
    have hlen := hv.len _ (List.getElem_mem hl)
    have e : p.2.2.1[j].length = q.length := by omega
    have hI : m_letterWith p.2.2.1 (m_imageUnder q p.2.2.1[j]) = m_imageL p q ((j : Int) + 1) := by
      unfold m_imageL
      rw [letter_pos hl, conj_image hq e]
    refine ⟨_, idx_nat hl, _, if_pos ⟨hm.len, e.symm, hq.row, by rw [← e]; exact hm.row⟩, _, if_pos ⟨h.1, by show short (m_imageUnder q p.2.2.1[j]); unfold short; rw [image_len]; omega⟩, ⟨fun he => ?_, fun he => ?_⟩⟩
    · have he : (m_letterWith p.2.2.1 (m_imageUnder q p.2.2.1[j]) == 0) = true := he
      rw [hI] at he
      exact dec_false fun hh => hh j hl (beq_iff_eq.1 he)
    · have he : (m_letterWith p.2.2.1 (m_imageUnder q p.2.2.1[j]) == 0) = false := he
      rw [hI] at he
      rw [wrap_nat (by omega)]
      refine hK hl _ rfl ⟨rfl, fun k hk => ?_⟩
      by_cases e : k = j
      · subst e; exact beq_eq_false_iff_ne.1 he
      · exact hR k (by omega)
  · have : j = p.2.2.1.length := by omega
    subst this
    exact dec_true hR
theorem sound_specIsSymP : Sound Try.prog 120 s_isSymP :=
  Sound.mkS tabOK (envCons sound_letterWith (envCons sound_imageUnder envNil)) mixed Try.func120 (by kernel_rfl) (by kernel_rfl) fun x h => p_specIsSymP x.1 x.2.1 h
end Go.Proofs.Ytfghmbpogmcboaa

namespace Go.Proofs.Ytfghmbpogmcboaa
open Go.RowKit

abbrev rL : CK := .row tI 2
abbrev xLL : CK := .xrow tL 26
def low (k : Int) : Prop := 0 ≤ k ∧ k ≤ 1099511627776
theorem whole_row {α : Type} (xs : List α) : List.take xs.length (List.drop 0 xs) = xs := by rw [List.drop_zero, List.take_length]
end Go.Proofs.Ytfghmbpogmcboaa

namespace Go.Proofs.Ytfghmbpogmcboaa
open Go.RowKit

noncomputable abbrev s_cloneO : MSpec := mkM [none] [(false, .dat (.oslice tI))] false [none] [rL] (fun x => short (x.1.getD [])) (fun x => ((x.1.getD [], ()), ()))
noncomputable abbrev s_cloneM : MSpec := mkM [none] [(false, .dat tL)] false [none] [rL] (fun x => short x.1) (fun x => ((x.1, ()), ()))
noncomputable abbrev s_copyInts : Spec := mkS (.pair tL .unit) tL false true (fun x => short x.1) (fun x => x.1)
theorem w_cloneO (xs : Option (List Int)) (P : ((List Int × Unit) × Unit) → Prop) : (Br xs.isNone (P ((List.take (0 : Nat) (List.drop (0 : Nat) []), ()), ()))
  ((0 : Nat) = (0 : Nat) ∧ (0 : Nat) = ([] : List Int).length ∧ (0 : Nat) + (xs.getD []).length ≤ maxRow ∧ P ((List.take ([] ++ xs.getD []).length (List.drop (0 : Nat) ([] ++ xs.getD [])), ()), ()))) = fnMW tabT (look []) s_cloneO Try.f76 (xs, ()) P := by kernel_rfl
theorem w_copyInts (xs : List Int) (P : List Int → Prop) : ((0 : Nat) = (0 : Nat) ∧ (0 : Nat) = ([] : List Int).length ∧ (0 : Nat) + xs.length ≤ maxRow ∧ P (List.take ([] ++ xs).length (List.drop (0 : Nat) ([] ++ xs)))) = fnW tab (look []) s_copyInts Try.f70 (xs, ()) P := by kernel_rfl
theorem p_cloneO (xs : Option (List Int)) (h : short (xs.getD [])) : fnMW tabT (look []) s_cloneO Try.f76 (xs, ()) (fun (z : (List Int × Unit) × Unit) => z = ((xs.getD [], ()), ())) := by
  unfold short at h
  refine Eq.mp (w_cloneO xs _) ⟨fun hn => ?_, fun _ => ⟨rfl, rfl, by show 0 + (xs.getD []).length ≤ 4294967296; omega, ?_⟩⟩
  · cases xs with
    | none => rfl
    | some y => cases hn
  · simp only [whole_row, List.nil_append]
theorem sound_cloneO : MSound Try.prog 76 s_cloneO :=
  MSound.mkM tabTOK envNil mixed Try.func76 (by kernel_rfl) (by kernel_rfl) fun x h => p_cloneO x.1 h
theorem sound_cloneM : MSound Try.prog 76 s_cloneM := MSound.ofO sound_cloneO fun _ _ h => ⟨h, rfl⟩
theorem p_copyInts (xs : List Int) (h : short xs) : fnW tab (look []) s_copyInts Try.f70 (xs, ()) (fun (z : List Int) => z = xs) := by
  unfold short at h
  refine Eq.mp (w_copyInts xs _) ⟨rfl, rfl, by show 0 + xs.length ≤ 4294967296; omega, ?_⟩
  simp only [whole_row, List.nil_append]
theorem sound_copyInts : Sound Try.prog 70 s_copyInts :=
  Sound.mkS tabOK envNil mixed Try.func70 (by kernel_rfl) (by kernel_rfl) fun x h => p_copyInts x.1 h
end Go.Proofs.Ytfghmbpogmcboaa

namespace Go.Proofs.Ytfghmbpogmcboaa
open Go.RowKit

def m_key (xs : List Int) : ByteArray := bytesOf (xs.map fun x => IntKind.u8.wrap x)
def posIn (ps : List (List Int)) (p : List Int) : Int := m_indexF (fun q => decide (q = p)) ps 0
theorem m_indexF_append {α : Type} (P : α → Bool) (y : α) : ∀ (l : List α) (i : Int), 0 ≤ i → m_indexF P (l ++ [y]) i = if m_indexF P l i < 0 then (if P y = true then i + l.length else -1) else m_indexF P l i
  | [], i, _ => by simp [m_indexF]
  | x :: r, i, h => by
    simp only [List.cons_append, m_indexF, List.length_cons]
    split
    · rw [if_neg (by omega)]
    · rw [m_indexF_append P y r (i + 1) (by omega), show i + 1 + (r.length : Int) = i + ((r.length + 1 : Nat) : Int) by push_cast; omega]
theorem posIn_append (ps : List (List Int)) (q p : List Int) : posIn (ps ++ [q]) p = if posIn ps p < 0 then (if q = p then (ps.length : Int) else -1) else posIn ps p := by
  unfold posIn
  rw [m_indexF_append _ _ _ _ (Int.le_refl 0)]
  simp only [decide_eq_true_eq, Int.zero_add]
/-- Entries that fit a byte. -/
def byteL (p : List Int) : Prop := ∀ x ∈ p, 0 ≤ x ∧ x < 256
theorem byte_inj {x y : Int} (hx : 0 ≤ x ∧ x < 256) (hy : 0 ≤ y ∧ y < 256) (h : UInt8.ofNat (IntKind.u8.wrap x).toNat = UInt8.ofNat (IntKind.u8.wrap y).toNat) : x = y := by
  have h := congrArg UInt8.toNat h
  simp only [IntKind.wrap_u8, UInt8.toNat_ofNat'] at h
  omega
theorem bytes_inj : ∀ (p q : List Int), byteL p → byteL q → (p.map fun x => UInt8.ofNat (IntKind.u8.wrap x).toNat) = (q.map fun x => UInt8.ofNat (IntKind.u8.wrap x).toNat) → p = q
  | [], [], _, _, _ => rfl
  | [], _ :: _, _, _, h => by simp at h
  | _ :: _, [], _, _, h => by simp at h
  | x :: p, y :: q, hp, hq, h => by
    simp only [List.map_cons, List.cons.injEq] at h
    rw [byte_inj (hp x (by simp)) (hq y (by simp)) h.1, bytes_inj p q (fun z hz => hp z (by simp [hz])) (fun z hz => hq z (by simp [hz])) h.2]
theorem key_inj {p q : List Int} (hp : byteL p) (hq : byteL q) (h : m_key p = m_key q) : p = q := by
  refine bytes_inj p q hp hq ?_
  simp only [m_key, bytesOf, ByteArray.mk.injEq, List.map_map] at h
  have h := congrArg Array.toList h
  simpa [Function.comp_def] using h
/-- The index holds each pattern's place. -/
def KM (m : ByteArray → Option Int) (ps : List (List Int)) : Prop := ∀ p, byteL p → m (m_key p) = if posIn ps p < 0 then none else some (posIn ps p)
theorem KM.nil : KM (fun _ => none) [] := fun p _ => by
  rw [if_pos (by unfold posIn; simp [m_indexF])]
theorem KM.add {m : ByteArray → Option Int} {ps : List (List Int)} {q : List Int} (h : KM m ps) (hq : byteL q) (hn : posIn ps q < 0) : KM (upd1 m (m_key q) (ps.length : Int)) (ps ++ [q]) := by
  intro p hp
  rw [posIn_append]
  unfold upd1
  by_cases e : p = q
  · subst e
    rw [if_pos rfl, if_pos hn, if_pos rfl, if_neg (by omega)]
  · rw [if_neg (fun hk => e (key_inj hp hq hk)), h p hp]
    have e' : ¬ q = p := fun h => e h.symm
    rw [if_neg e']
    by_cases hpn : posIn ps p < 0
    · rw [if_pos hpn, if_pos hpn, if_pos (by decide)]
    · rw [if_neg hpn, if_neg hpn, if_neg hpn]
end Go.Proofs.Ytfghmbpogmcboaa

namespace Go.Proofs.Ytfghmbpogmcboaa
open Go.RowKit

abbrev rLL : CK := .row tL 26
/-- The next permutation in order, if there is one. -/
def lastGt (v : Int) : List Int → Nat
  | [] => 0
  | x :: r => if x > v then lastGt v r + 1 else 0
def m_pivot (v : Int) (t : List Int) : Option (List Int) := if lastGt v t = 0 then none else some (gets t ((lastGt v t - 1 : Nat) : Int) :: (t.set (lastGt v t - 1) v).reverse)
def m_next : List Int → Option (List Int)
  | [] => none
  | v :: t => match m_next t with
    | some t' => some (v :: t')
    | none => m_pivot v t
/-- A row of which a part is turned round, i places from either end. -/
def revAt (xs : List Int) (o n i k : Nat) : Option Int := if o ≤ k ∧ k < o + n ∧ (k < o + i ∨ o + n ≤ k + i) then xs[o + n - 1 - (k - o)]? else xs[k]?
def m_rev (xs : List Int) (o n : Nat) : List Int := List.take o xs ++ (List.take n (List.drop o xs)).reverse ++ List.drop (o + n) xs
noncomputable abbrev s_reverse : MSpec := mkM [none] [(true, .part tI 2)] false [] [] (fun x => short x.1.1 ∧ x.1.2.1 + x.1.2.2 ≤ List.length x.1.1) (fun x => ((), (m_rev x.1.1 x.1.2.1 x.1.2.2, ())))
noncomputable abbrev s_nextPerm : MSpec := mkM [none] [(true, rL)] false [none] [.dat .bool] (fun x => 1 ≤ List.length x.1 ∧ List.length x.1 ≤ 20 ∧ List.Nodup (x.1 : List Int)) (fun x => (((m_next x.1).isSome, ()), ((m_next x.1).getD x.1, ())))
noncomputable abbrev s_identityM : MSpec := mkM [none] [(false, .dat tI)] false [none] [rL] (fun x => 0 ≤ x.1 ∧ x.1 ≤ 20) (fun x => ((upto x.1.toNat, ()), ()))
/-- The arrangements of k of the numbers of a list, in lexicographic order of the list. -/
def lex : Nat → List Int → List (List Int)
  | 0, _ => [[]]
  | k + 1, R => R.flatMap fun v => (lex k (R.erase v)).map (v :: ·)
def restOf (n : Nat) (l : List Int) : List Int := (upto n).filter fun v => !l.contains v
noncomputable def m_syms (p : PP) : List (List Int) := (lex p.1.toNat (upto p.1.toNat)).filter (m_isSym p)
def extsOf (n : Nat) (l : List Int) : List (List Int) := (lex (n - l.length) (restOf n l)).map (l ++ ·)
noncomputable def m_ext (p : PP) (l : List Int) (out : List (List Int)) : List (List Int) := out ++ (extsOf p.1.toNat l).filter (m_isSym p)
noncomputable abbrev s_symListI : MSpec := mkM [some 3] [(false, .dat tI), (false, .dat .str), (false, .dat tLL)] false [none] [xLL] (fun x => m_validP (x.1, x.2.1, x.2.2.1, ()) = true ∧ x.1 ≤ 7) (fun x => ((m_syms (x.1, x.2.1, x.2.2.1, ()), ()), ()))
noncomputable abbrev s_extN (m : Nat) : MSpec := mkM [some 3, none, none] [(false, .dat tI), (false, .dat .str), (false, .dat tLL), (false, .dat tL), (false, rLL)] false [none] [rLL]
  (fun x => (m_validP (x.1, x.2.1, x.2.2.1, ()) = true ∧ x.1 ≤ 7 ∧ List.Nodup (x.2.2.2.1 : List Int) ∧ inRow x.1.toNat x.2.2.2.1 ∧ List.length x.2.2.2.1 ≤ x.1.toNat ∧ List.length x.2.2.2.2.1 + (extsOf x.1.toNat x.2.2.2.1).length ≤ 6000) ∧ x.1.toNat - List.length x.2.2.2.1 < m)
  (fun x => ((m_ext (x.1, x.2.1, x.2.2.1, ()) x.2.2.2.1 x.2.2.2.2.1, ()), ()))
noncomputable abbrev s_copyIntsM : MSpec := mkM [none] [(false, .dat tL)] false [none] [rL] (fun x => short x.1) (fun x => ((x.1, ()), ()))
theorem w_copyIntsM (xs : List Int) (P : ((List Int × Unit) × Unit) → Prop) : ((0 : Nat) = (0 : Nat) ∧ (0 : Nat) = ([] : List Int).length ∧ (0 : Nat) + xs.length ≤ maxRow ∧ P ((List.take ([] ++ xs).length (List.drop (0 : Nat) ([] ++ xs)), ()), ())) = fnMW tabT (look []) s_copyIntsM Try.f70 (xs, ()) P := by kernel_rfl
theorem w_reverse (a : List Int × Nat × Nat) (P : (Unit × List Int × Unit) → Prop) : (a.2.fst = a.snd.1 ∧
  a.2.snd = a.snd.2 ∧
    WLoop
      (fun (v2 : Int × Int × List Int × PUnit) (k3 : Int × Int × List Int × PUnit → Prop) =>
        Br (decide (v2.fst < v2.2.fst))
          (((0 : Int) ≤ v2.2.fst ∧ v2.2.fst < (↑a.snd.2 : Int)) ∧
            ∃ (y4 : Int),
              v2.snd.2.fst[a.snd.1 + v2.2.fst.toNat]? = some y4 ∧
                ((0 : Int) ≤ v2.fst ∧ v2.fst < (↑a.snd.2 : Int)) ∧
                  ∃ (y5 : Int),
                    v2.snd.2.fst[a.snd.1 + v2.fst.toNat]? = some y5 ∧
                      ((0 : Int) ≤ v2.fst ∧ v2.fst < (↑a.snd.2 : Int)) ∧
                        a.snd.1 + v2.fst.toNat < v2.snd.2.fst.length ∧
                          ((0 : Int) ≤ v2.2.fst ∧ v2.2.fst < (↑a.snd.2 : Int)) ∧
                            a.snd.1 + v2.2.fst.toNat < (v2.snd.2.fst.set (a.snd.1 + v2.fst.toNat) y4).length ∧
                              a.snd.1 = a.snd.1 ∧
                                a.snd.2 = a.snd.2 ∧
                                  k3
                                    (IntKind.i64.wrap (v2.fst + (1 : Int)), IntKind.i64.wrap (v2.2.fst - (1 : Int)), (v2.snd.2.fst.set (a.snd.1 + v2.fst.toNat) y4).set (a.snd.1 + v2.2.fst.toNat) y5,
                                      ()))
          (P ((), v2.snd.2.fst, ())))
      ((0 : Int), IntKind.i64.wrap ((↑a.2.snd : Int) - (1 : Int)), a.fst, PUnit.unit)) = fnMW tabR (look []) s_reverse Try.f158 (a, ()) P := by kernel_rfl
theorem w_nextPerm (xs : List Int) (P : ((Bool × Unit) × List Int × Unit) → Prop) : ((0 : Nat) = (0 : Nat) ∧
  xs.length = xs.length ∧
    WLoop
      (fun (v2 : Int × List Int × PUnit) (k3 : Int × List Int × PUnit → Prop) =>
        Br (decide (v2.fst ≥ (0 : Int)))
          (((0 : Int) ≤ v2.fst ∧ v2.fst < (↑v2.2.fst.length : Int)) ∧
            ∃ (y4 : Int),
              v2.2.fst[(0 : Nat) + v2.fst.toNat]? = some y4 ∧
                ((0 : Int) ≤ IntKind.i64.wrap (v2.fst + (1 : Int)) ∧ IntKind.i64.wrap (v2.fst + (1 : Int)) < (↑v2.2.fst.length : Int)) ∧
                  ∃ (y5 : Int),
                    v2.2.fst[(0 : Nat) + (IntKind.i64.wrap (v2.fst + (1 : Int))).toNat]? = some y5 ∧
                      Br (decide (y4 > y5)) ((0 : Nat) = (0 : Nat) ∧ v2.2.fst.length = v2.2.fst.length ∧ k3 (IntKind.i64.wrap (v2.fst - (1 : Int)), v2.2.fst, ()))
                        (Br (decide (v2.fst < (0 : Int))) (P ((false, ()), v2.2.fst, ()))
                          ((0 : Nat) = (0 : Nat) ∧
                            v2.2.fst.length = v2.2.fst.length ∧
                              WLoop
                                (fun (v6 : Int × List Int × PUnit) (k7 : Int × List Int × PUnit → Prop) =>
                                  ((0 : Int) ≤ v6.fst ∧ v6.fst < (↑v6.2.fst.length : Int)) ∧
                                    ∃ (y8 : Int),
                                      v6.2.fst[(0 : Nat) + v6.fst.toNat]? = some y8 ∧
                                        ((0 : Int) ≤ v2.fst ∧ v2.fst < (↑v6.2.fst.length : Int)) ∧
                                          ∃ (y9 : Int),
                                            v6.2.fst[(0 : Nat) + v2.fst.toNat]? = some y9 ∧
                                              Br (decide (y8 < y9)) ((0 : Nat) = (0 : Nat) ∧ v6.2.fst.length = v6.2.fst.length ∧ k7 (IntKind.i64.wrap (v6.fst - (1 : Int)), v6.2.fst, ()))
                                                (((0 : Int) ≤ v6.fst ∧ v6.fst < (↑v6.2.fst.length : Int)) ∧
                                                  ∃ (y10 : Int),
                                                    v6.2.fst[(0 : Nat) + v6.fst.toNat]? = some y10 ∧
                                                      ((0 : Int) ≤ v2.fst ∧ v2.fst < (↑v6.2.fst.length : Int)) ∧
                                                        ∃ (y11 : Int),
                                                          v6.2.fst[(0 : Nat) + v2.fst.toNat]? = some y11 ∧
                                                            ((0 : Int) ≤ v2.fst ∧ v2.fst < (↑v6.2.fst.length : Int)) ∧
                                                              (0 : Nat) + v2.fst.toNat < v6.2.fst.length ∧
                                                                ((0 : Int) ≤ v6.fst ∧ v6.fst < (↑v6.2.fst.length : Int)) ∧
                                                                  (0 : Nat) + v6.fst.toNat < (v6.2.fst.set ((0 : Nat) + v2.fst.toNat) y10).length ∧
                                                                    ((0 : Int) ≤ IntKind.i64.wrap (v2.fst + (1 : Int)) ∧
                                                                        IntKind.i64.wrap (v2.fst + (1 : Int)) ≤ (↑v6.2.fst.length : Int) ∧ (↑v6.2.fst.length : Int) ≤ (↑v6.2.fst.length : Int)) ∧
                                                                      ∃ (y12 : PUnit × List Int × PUnit),
                                                                        s_reverse.fn
                                                                              (((v6.2.fst.set ((0 : Nat) + v2.fst.toNat) y10).set ((0 : Nat) + v6.fst.toNat) y11,
                                                                                  (0 : Nat) + (IntKind.i64.wrap (v2.fst + (1 : Int))).toNat,
                                                                                  (↑v6.2.fst.length : Int).toNat - (IntKind.i64.wrap (v2.fst + (1 : Int))).toNat),
                                                                                ()) =
                                                                            some y12 ∧
                                                                          y12.2.fst.length = ((v6.2.fst.set ((0 : Nat) + v2.fst.toNat) y10).set ((0 : Nat) + v6.fst.toNat) y11).length ∧
                                                                            P ((true, ()), y12.2.fst, ())))
                                (IntKind.i64.wrap ((↑v2.2.fst.length : Int) - (1 : Int)), v2.2.fst, PUnit.unit))))
          (Br (decide (v2.fst < (0 : Int))) (P ((false, ()), v2.2.fst, ()))
            ((0 : Nat) = (0 : Nat) ∧
              v2.2.fst.length = v2.2.fst.length ∧
                WLoop
                  (fun (v4 : Int × List Int × PUnit) (k5 : Int × List Int × PUnit → Prop) =>
                    ((0 : Int) ≤ v4.fst ∧ v4.fst < (↑v4.2.fst.length : Int)) ∧
                      ∃ (y6 : Int),
                        v4.2.fst[(0 : Nat) + v4.fst.toNat]? = some y6 ∧
                          ((0 : Int) ≤ v2.fst ∧ v2.fst < (↑v4.2.fst.length : Int)) ∧
                            ∃ (y7 : Int),
                              v4.2.fst[(0 : Nat) + v2.fst.toNat]? = some y7 ∧
                                Br (decide (y6 < y7)) ((0 : Nat) = (0 : Nat) ∧ v4.2.fst.length = v4.2.fst.length ∧ k5 (IntKind.i64.wrap (v4.fst - (1 : Int)), v4.2.fst, ()))
                                  (((0 : Int) ≤ v4.fst ∧ v4.fst < (↑v4.2.fst.length : Int)) ∧
                                    ∃ (y8 : Int),
                                      v4.2.fst[(0 : Nat) + v4.fst.toNat]? = some y8 ∧
                                        ((0 : Int) ≤ v2.fst ∧ v2.fst < (↑v4.2.fst.length : Int)) ∧
                                          ∃ (y9 : Int),
                                            v4.2.fst[(0 : Nat) + v2.fst.toNat]? = some y9 ∧
                                              ((0 : Int) ≤ v2.fst ∧ v2.fst < (↑v4.2.fst.length : Int)) ∧
                                                (0 : Nat) + v2.fst.toNat < v4.2.fst.length ∧
                                                  ((0 : Int) ≤ v4.fst ∧ v4.fst < (↑v4.2.fst.length : Int)) ∧
                                                    (0 : Nat) + v4.fst.toNat < (v4.2.fst.set ((0 : Nat) + v2.fst.toNat) y8).length ∧
                                                      ((0 : Int) ≤ IntKind.i64.wrap (v2.fst + (1 : Int)) ∧
                                                          IntKind.i64.wrap (v2.fst + (1 : Int)) ≤ (↑v4.2.fst.length : Int) ∧ (↑v4.2.fst.length : Int) ≤ (↑v4.2.fst.length : Int)) ∧
                                                        ∃ (y10 : PUnit × List Int × PUnit),
                                                          s_reverse.fn
                                                                (((v4.2.fst.set ((0 : Nat) + v2.fst.toNat) y8).set ((0 : Nat) + v4.fst.toNat) y9,
                                                                    (0 : Nat) + (IntKind.i64.wrap (v2.fst + (1 : Int))).toNat,
                                                                    (↑v4.2.fst.length : Int).toNat - (IntKind.i64.wrap (v2.fst + (1 : Int))).toNat),
                                                                  ()) =
                                                              some y10 ∧
                                                            y10.2.fst.length = ((v4.2.fst.set ((0 : Nat) + v2.fst.toNat) y8).set ((0 : Nat) + v4.fst.toNat) y9).length ∧ P ((true, ()), y10.2.fst, ())))
                  (IntKind.i64.wrap ((↑v2.2.fst.length : Int) - (1 : Int)), v2.2.fst, PUnit.unit))))
      (IntKind.i64.wrap ((↑xs.length : Int) - (2 : Int)), xs, PUnit.unit)) = fnMW tabT (look [(158, s_reverse)]) s_nextPerm Try.f133 (xs, ()) P := by kernel_rfl
theorem w_identityM (n : Int) (P : ((List Int × Unit) × Unit) → Prop) : (((0 : Int) ≤ n ∧ n < (↑maxRow : Int) + (1 : Int)) ∧
  n = n ∧
    (0 : Nat) = (0 : Nat) ∧
      (List.replicate n.toNat (Int.ofNat (nat_lit 0))).length = (List.replicate n.toNat (Int.ofNat (nat_lit 0))).length ∧
        WLoop
          (fun (v2 : Int × List Int × PUnit) (k3 : Int × List Int × PUnit → Prop) =>
            Br (decide (v2.fst < (↑(List.replicate n.toNat (Int.ofNat (nat_lit 0))).length : Int)))
              (((0 : Int) ≤ v2.fst ∧ v2.fst < (↑v2.2.fst.length : Int)) ∧
                (0 : Nat) + v2.fst.toNat < v2.2.fst.length ∧
                  (0 : Nat) = (0 : Nat) ∧
                    v2.2.fst.length = (v2.2.fst.set ((0 : Nat) + v2.fst.toNat) v2.fst).length ∧ k3 (IntKind.i64.wrap (v2.fst + (1 : Int)), v2.2.fst.set ((0 : Nat) + v2.fst.toNat) v2.fst, ()))
              (P ((List.take v2.2.fst.length (List.drop ((0 : Nat)) v2.2.fst), ()), ())))
          ((0 : Int), List.replicate n.toNat (Int.ofNat (nat_lit 0)), PUnit.unit)) = fnMW tabT (look []) s_identityM Try.f132 (n, ()) P := by kernel_rfl
theorem w_symListI (n : Int) (str : ByteArray) (g : List (List Int)) (P : ((List (List Int) × Unit) × Unit) → Prop) : (∃ (y4 : (List Int × PUnit) × PUnit),
  s_identityM.fn (n, ()) = some y4 ∧
    (0 : Nat) = (0 : Nat) ∧
      (0 : Nat) = ([] : List Int).length ∧
        (0 : Nat) = (0 : Nat) ∧
          y4.1.fst.length = y4.1.fst.length ∧
            WLoop
              (fun (v5 : Int × ByteArray × List (List Int) × List (List Int) × List Int × PUnit) (k6 : Int × ByteArray × List (List Int) × List (List Int) × List Int × PUnit → Prop) =>
                ∃ (y7 : Bool),
                  s_isSymP.fn ((v5.fst, v5.2.fst, v5.snd.2.fst, ()), List.take v5.snd.2.snd.2.fst.length (List.drop ((0 : Nat)) v5.snd.2.snd.2.fst), ()) = some y7 ∧
                    Br y7
                      (∃ (y8 : (List Int × PUnit) × PUnit),
                        s_cloneM.fn (List.take v5.snd.2.snd.2.fst.length (List.drop ((0 : Nat)) v5.snd.2.snd.2.fst), ()) = some y8 ∧
                          (0 : Nat) = (0 : Nat) ∧
                            v5.2.snd.2.fst.length = v5.2.snd.2.fst.length ∧
                              v5.2.snd.2.fst.length + (List.take (1 : Nat) (List.drop (0 : Nat) [List.take y8.1.fst.length (List.drop (0 : Nat) y8.1.fst)])).length ≤ maxRow ∧
                                (0 : Nat) = (0 : Nat) ∧
                                  v5.snd.2.snd.2.fst.length = v5.snd.2.snd.2.fst.length ∧
                                    ∃ (y9 : (Bool × PUnit) × List Int × PUnit),
                                      s_nextPerm.fn (v5.snd.2.snd.2.fst, ()) = some y9 ∧
                                        (y9.2.fst.length = v5.snd.2.snd.2.fst.length ∧ v5.snd.2.snd.2.fst.length = v5.snd.2.snd.2.fst.length) ∧
                                          Br (!y9.1.fst)
                                            (P
                                              ((List.take (v5.2.snd.2.fst ++ List.take (1 : Nat) (List.drop (0 : Nat) [List.take y8.1.fst.length (List.drop (0 : Nat) y8.1.fst)])).length
                                                    (List.drop (0 : Nat) (v5.2.snd.2.fst ++ List.take (1 : Nat) (List.drop (0 : Nat) [List.take y8.1.fst.length (List.drop (0 : Nat) y8.1.fst)]))),
                                                  ()),
                                                ()))
                                            ((0 : Nat) = (0 : Nat) ∧
                                              (v5.2.snd.2.fst ++ List.take (1 : Nat) (List.drop (0 : Nat) [List.take y8.1.fst.length (List.drop (0 : Nat) y8.1.fst)])).length =
                                                  (v5.2.snd.2.fst ++ List.take (1 : Nat) (List.drop (0 : Nat) [List.take y8.1.fst.length (List.drop (0 : Nat) y8.1.fst)])).length ∧
                                                (0 : Nat) = (0 : Nat) ∧
                                                  v5.snd.2.snd.2.fst.length = y9.2.fst.length ∧
                                                    k6
                                                      (v5.fst, v5.2.fst, v5.snd.2.fst,
                                                        v5.2.snd.2.fst ++ List.take (1 : Nat) (List.drop (0 : Nat) [List.take y8.1.fst.length (List.drop (0 : Nat) y8.1.fst)]), y9.2.fst, ())))
                      ((0 : Nat) = (0 : Nat) ∧
                        v5.snd.2.snd.2.fst.length = v5.snd.2.snd.2.fst.length ∧
                          ∃ (y8 : (Bool × PUnit) × List Int × PUnit),
                            s_nextPerm.fn (v5.snd.2.snd.2.fst, ()) = some y8 ∧
                              (y8.2.fst.length = v5.snd.2.snd.2.fst.length ∧ v5.snd.2.snd.2.fst.length = v5.snd.2.snd.2.fst.length) ∧
                                Br (!y8.1.fst) (P ((List.take v5.2.snd.2.fst.length (List.drop ((0 : Nat)) v5.2.snd.2.fst), ()), ()))
                                  ((0 : Nat) = (0 : Nat) ∧
                                    v5.2.snd.2.fst.length = v5.2.snd.2.fst.length ∧
                                      (0 : Nat) = (0 : Nat) ∧ v5.snd.2.snd.2.fst.length = y8.2.fst.length ∧ k6 (v5.fst, v5.2.fst, v5.snd.2.fst, v5.2.snd.2.fst, y8.2.fst, ()))))
              (n, str, g, [], y4.1.fst, PUnit.unit)) = fnMW tabT (look [(132, s_identityM), (127, s_isSymP), (76, s_cloneM), (133, s_nextPerm)]) s_symListI Try.f87 (n, str, g, ()) P := by kernel_rfl
theorem w_extN {m : Nat} (n : Int) (str : ByteArray) (g : List (List Int)) (l : List Int) (out : List (List Int)) (P : ((List (List Int) × Unit) × Unit) → Prop) : (Br ((↑l.length : Int) == n)
  (∃ (y7 : Bool),
    s_isSymP.fn ((n, str, g, ()), l, ()) = some y7 ∧
      Br y7
        (∃ (y8 : (List Int × PUnit) × PUnit),
          s_copyIntsM.fn (l, ()) = some y8 ∧
            (0 : Nat) = (0 : Nat) ∧
              out.length = out.length ∧
                out.length + (List.take (1 : Nat) (List.drop (0 : Nat) [List.take y8.1.fst.length (List.drop (0 : Nat) y8.1.fst)])).length ≤ maxRow ∧
                  P
                    ((List.take (out ++ List.take (1 : Nat) (List.drop (0 : Nat) [List.take y8.1.fst.length (List.drop (0 : Nat) y8.1.fst)])).length
                          (List.drop (0 : Nat) (out ++ List.take (1 : Nat) (List.drop (0 : Nat) [List.take y8.1.fst.length (List.drop (0 : Nat) y8.1.fst)]))),
                        ()),
                      ()))
        (P ((List.take out.length (List.drop (0 : Nat) out), ()), ())))
  ((0 : Nat) = (0 : Nat) ∧
    out.length = out.length ∧
      WLoop
        (fun (v7 : Int × Int × ByteArray × List (List Int) × List (List Int) × PUnit) (k8 : Int × Int × ByteArray × List (List Int) × List (List Int) × PUnit → Prop) =>
          Br (decide (v7.fst < v7.2.fst))
            (∃ (y9 : Bool),
              s_containsInt.fn (l, v7.fst, ()) = some y9 ∧
                Br (!y9)
                  (((∃ (y10 : (List Int × PUnit) × PUnit),
                        s_copyIntsM.fn (l, ()) = some y10 ∧
                          (0 : Nat) = (0 : Nat) ∧
                            y10.1.fst.length = y10.1.fst.length ∧
                              y10.1.fst.length + (List.take (1 : Nat) (List.drop (0 : Nat) [v7.fst])).length ≤ maxRow ∧
                                (0 : Nat) = (0 : Nat) ∧
                                  v7.snd.2.snd.2.fst.length = v7.snd.2.snd.2.fst.length ∧
                                    ∃ (y11 : (List (List Int) × PUnit) × PUnit),
                                      (s_extN m).fn
                                            (v7.2.fst, v7.snd.2.fst, v7.2.snd.2.fst,
                                              List.take (y10.1.fst ++ List.take (1 : Nat) (List.drop (0 : Nat) [v7.fst])).length
                                                (List.drop (0 : Nat) (y10.1.fst ++ List.take (1 : Nat) (List.drop (0 : Nat) [v7.fst]))),
                                              v7.snd.2.snd.2.fst, ()) =
                                          some y11 ∧
                                        (0 : Nat) = (0 : Nat) ∧
                                          y11.1.fst.length = y11.1.fst.length ∧ k8 (IntKind.i64.wrap (v7.fst + (1 : Int)), v7.2.fst, v7.snd.2.fst, v7.2.snd.2.fst, y11.1.fst, ())) ∧
                      ∃ (y10 : (List Int × PUnit) × PUnit),
                        s_copyIntsM.fn (l, ()) = some y10 ∧
                          (0 : Nat) = (0 : Nat) ∧
                            y10.1.fst.length = y10.1.fst.length ∧
                              y10.1.fst.length + (List.take (1 : Nat) (List.drop (0 : Nat) [v7.fst])).length ≤ maxRow ∧
                                (0 : Nat) = (0 : Nat) ∧
                                  v7.snd.2.snd.2.fst.length = v7.snd.2.snd.2.fst.length ∧
                                    ∃ (y11 : (List (List Int) × PUnit) × PUnit),
                                      (s_extN m).fn
                                            (v7.2.fst, v7.snd.2.fst, v7.2.snd.2.fst,
                                              List.take (y10.1.fst ++ List.take (1 : Nat) (List.drop (0 : Nat) [v7.fst])).length
                                                (List.drop (0 : Nat) (y10.1.fst ++ List.take (1 : Nat) (List.drop (0 : Nat) [v7.fst]))),
                                              v7.snd.2.snd.2.fst, ()) =
                                          some y11 ∧
                                        (0 : Nat) = (0 : Nat) ∧
                                          y11.1.fst.length = y11.1.fst.length ∧ k8 (IntKind.i64.wrap (v7.fst + (1 : Int)), v7.2.fst, v7.snd.2.fst, v7.2.snd.2.fst, y11.1.fst, ())) ∧
                    (∃ (y10 : (List Int × PUnit) × PUnit),
                        s_copyIntsM.fn (l, ()) = some y10 ∧
                          ((0 : Nat) = (0 : Nat) ∧
                              y10.1.fst.length = y10.1.fst.length ∧
                                y10.1.fst.length + (List.take (1 : Nat) (List.drop (0 : Nat) [v7.fst])).length ≤ maxRow ∧
                                  (0 : Nat) = (0 : Nat) ∧
                                    v7.snd.2.snd.2.fst.length = v7.snd.2.snd.2.fst.length ∧
                                      ∃ (y11 : (List (List Int) × PUnit) × PUnit),
                                        (s_extN m).fn
                                              (v7.2.fst, v7.snd.2.fst, v7.2.snd.2.fst,
                                                List.take (y10.1.fst ++ List.take (1 : Nat) (List.drop (0 : Nat) [v7.fst])).length
                                                  (List.drop (0 : Nat) (y10.1.fst ++ List.take (1 : Nat) (List.drop (0 : Nat) [v7.fst]))),
                                                v7.snd.2.snd.2.fst, ()) =
                                            some y11 ∧
                                          (0 : Nat) = (0 : Nat) ∧
                                            y11.1.fst.length = y11.1.fst.length ∧ k8 (IntKind.i64.wrap (v7.fst + (1 : Int)), v7.2.fst, v7.snd.2.fst, v7.2.snd.2.fst, y11.1.fst, ())) ∧
                            ((0 : Nat) = (0 : Nat) ∧
                                y10.1.fst.length = y10.1.fst.length ∧
                                  y10.1.fst.length + (List.take (1 : Nat) (List.drop (0 : Nat) [v7.fst])).length ≤ maxRow ∧
                                    (0 : Nat) = (0 : Nat) ∧
                                      v7.snd.2.snd.2.fst.length = v7.snd.2.snd.2.fst.length ∧
                                        ∃ (y11 : (List (List Int) × PUnit) × PUnit),
                                          (s_extN m).fn
                                                (v7.2.fst, v7.snd.2.fst, v7.2.snd.2.fst,
                                                  List.take (y10.1.fst ++ List.take (1 : Nat) (List.drop (0 : Nat) [v7.fst])).length
                                                    (List.drop (0 : Nat) (y10.1.fst ++ List.take (1 : Nat) (List.drop (0 : Nat) [v7.fst]))),
                                                  v7.snd.2.snd.2.fst, ()) =
                                              some y11 ∧
                                            (0 : Nat) = (0 : Nat) ∧
                                              y11.1.fst.length = y11.1.fst.length ∧ k8 (IntKind.i64.wrap (v7.fst + (1 : Int)), v7.2.fst, v7.snd.2.fst, v7.2.snd.2.fst, y11.1.fst, ())) ∧
                              (0 : Nat) = (0 : Nat) ∧
                                y10.1.fst.length = y10.1.fst.length ∧
                                  y10.1.fst.length + (List.take (1 : Nat) (List.drop (0 : Nat) [v7.fst])).length ≤ maxRow ∧
                                    (0 : Nat) = (0 : Nat) ∧
                                      v7.snd.2.snd.2.fst.length = v7.snd.2.snd.2.fst.length ∧
                                        ∃ (y11 : (List (List Int) × PUnit) × PUnit),
                                          (s_extN m).fn
                                                (v7.2.fst, v7.snd.2.fst, v7.2.snd.2.fst,
                                                  List.take (y10.1.fst ++ List.take (1 : Nat) (List.drop (0 : Nat) [v7.fst])).length
                                                    (List.drop (0 : Nat) (y10.1.fst ++ List.take (1 : Nat) (List.drop (0 : Nat) [v7.fst]))),
                                                  v7.snd.2.snd.2.fst, ()) =
                                              some y11 ∧
                                            (0 : Nat) = (0 : Nat) ∧
                                              y11.1.fst.length = y11.1.fst.length ∧ k8 (IntKind.i64.wrap (v7.fst + (1 : Int)), v7.2.fst, v7.snd.2.fst, v7.2.snd.2.fst, y11.1.fst, ())) ∧
                      (∃ (y10 : (List Int × PUnit) × PUnit),
                          s_copyIntsM.fn (l, ()) = some y10 ∧
                            (0 : Nat) = (0 : Nat) ∧
                              y10.1.fst.length = y10.1.fst.length ∧
                                y10.1.fst.length + (List.take (1 : Nat) (List.drop (0 : Nat) [v7.fst])).length ≤ maxRow ∧
                                  (0 : Nat) = (0 : Nat) ∧
                                    v7.snd.2.snd.2.fst.length = v7.snd.2.snd.2.fst.length ∧
                                      ∃ (y11 : (List (List Int) × PUnit) × PUnit),
                                        (s_extN m).fn
                                              (v7.2.fst, v7.snd.2.fst, v7.2.snd.2.fst,
                                                List.take (y10.1.fst ++ List.take (1 : Nat) (List.drop (0 : Nat) [v7.fst])).length
                                                  (List.drop (0 : Nat) (y10.1.fst ++ List.take (1 : Nat) (List.drop (0 : Nat) [v7.fst]))),
                                                v7.snd.2.snd.2.fst, ()) =
                                            some y11 ∧
                                          (0 : Nat) = (0 : Nat) ∧
                                            y11.1.fst.length = y11.1.fst.length ∧ k8 (IntKind.i64.wrap (v7.fst + (1 : Int)), v7.2.fst, v7.snd.2.fst, v7.2.snd.2.fst, y11.1.fst, ())) ∧
                        ∃ (y10 : (List Int × PUnit) × PUnit),
                          s_copyIntsM.fn (l, ()) = some y10 ∧
                            ((0 : Nat) = (0 : Nat) ∧
                                y10.1.fst.length = y10.1.fst.length ∧
                                  y10.1.fst.length + (List.take (1 : Nat) (List.drop (0 : Nat) [v7.fst])).length ≤ maxRow ∧
                                    (0 : Nat) = (0 : Nat) ∧
                                      v7.snd.2.snd.2.fst.length = v7.snd.2.snd.2.fst.length ∧
                                        ∃ (y11 : (List (List Int) × PUnit) × PUnit),
                                          (s_extN m).fn
                                                (v7.2.fst, v7.snd.2.fst, v7.2.snd.2.fst,
                                                  List.take (y10.1.fst ++ List.take (1 : Nat) (List.drop (0 : Nat) [v7.fst])).length
                                                    (List.drop (0 : Nat) (y10.1.fst ++ List.take (1 : Nat) (List.drop (0 : Nat) [v7.fst]))),
                                                  v7.snd.2.snd.2.fst, ()) =
                                              some y11 ∧
                                            (0 : Nat) = (0 : Nat) ∧
                                              y11.1.fst.length = y11.1.fst.length ∧ k8 (IntKind.i64.wrap (v7.fst + (1 : Int)), v7.2.fst, v7.snd.2.fst, v7.2.snd.2.fst, y11.1.fst, ())) ∧
                              (0 : Nat) = (0 : Nat) ∧
                                y10.1.fst.length = y10.1.fst.length ∧
                                  y10.1.fst.length + (List.take (1 : Nat) (List.drop (0 : Nat) [v7.fst])).length ≤ maxRow ∧
                                    (0 : Nat) = (0 : Nat) ∧
                                      v7.snd.2.snd.2.fst.length = v7.snd.2.snd.2.fst.length ∧
                                        ∃ (y11 : (List (List Int) × PUnit) × PUnit),
                                          (s_extN m).fn
                                                (v7.2.fst, v7.snd.2.fst, v7.2.snd.2.fst,
                                                  List.take (y10.1.fst ++ List.take (1 : Nat) (List.drop (0 : Nat) [v7.fst])).length
                                                    (List.drop (0 : Nat) (y10.1.fst ++ List.take (1 : Nat) (List.drop (0 : Nat) [v7.fst]))),
                                                  v7.snd.2.snd.2.fst, ()) =
                                              some y11 ∧
                                            (0 : Nat) = (0 : Nat) ∧
                                              y11.1.fst.length = y11.1.fst.length ∧ k8 (IntKind.i64.wrap (v7.fst + (1 : Int)), v7.2.fst, v7.snd.2.fst, v7.2.snd.2.fst, y11.1.fst, ()))
                  ((0 : Nat) = (0 : Nat) ∧
                    v7.snd.2.snd.2.fst.length = v7.snd.2.snd.2.fst.length ∧ k8 (IntKind.i64.wrap (v7.fst + (1 : Int)), v7.2.fst, v7.snd.2.fst, v7.2.snd.2.fst, v7.snd.2.snd.2.fst, ())))
            (P ((List.take v7.snd.2.snd.2.fst.length (List.drop ((0 : Nat)) v7.snd.2.snd.2.fst), ()), ())))
        ((0 : Int), n, str, g, out, PUnit.unit))) = fnMW tabT (look [(120, s_isSymP), (70, s_copyIntsM), (131, s_containsInt), (85, ASpec.m (s_extN m))]) (s_extN (m+1)) Try.f85 (n, str, g, l, out, ()) P := by kernel_rfl
theorem m_rev_get {xs : List Int} {o n : Nat} (h : o + n ≤ xs.length) (k : Nat) : (m_rev xs o n)[k]? = if o ≤ k ∧ k < o + n then xs[o + n - 1 - (k - o)]? else xs[k]? := by
  unfold m_rev
  have l1 : (List.take o xs).length = o := by rw [List.length_take]; omega
  have l2 : (List.take n (List.drop o xs)).reverse.length = n := by rw [List.length_reverse, List.length_take, List.length_drop]; omega
  rw [List.append_assoc]
  by_cases h1 : k < o
  · rw [List.getElem?_append_left (by omega), if_neg (by omega), List.getElem?_take_of_lt h1]
  · rw [List.getElem?_append_right (by omega), l1]
    by_cases h2 : k < o + n
    · rw [List.getElem?_append_left (by omega), if_pos ⟨by omega, h2⟩, List.getElem?_reverse (by rw [List.length_take, List.length_drop]; omega)]
      rw [List.length_take, List.length_drop, List.getElem?_take_of_lt (by omega), List.getElem?_drop]
      congr 1
      omega
    · rw [List.getElem?_append_right (by omega), l2, if_neg (by omega), List.getElem?_drop]
      congr 1
      omega
theorem p_reverse (a : List Int × Nat × Nat) (h : short a.1 ∧ a.2.1 + a.2.2 ≤ a.1.length) : fnMW tabR (look []) s_reverse Try.f158 (a, ()) (fun (z : Unit × List Int × Unit) => z = ((), (m_rev a.1 a.2.1 a.2.2, ()))) := by
  obtain ⟨xs, o, n⟩ := a
  obtain ⟨hs, hn⟩ := h
  dsimp only at hs hn
  unfold short at hs
  refine Eq.mp (w_reverse (xs, o, n) _) ⟨rfl, rfl, ?_⟩
  dsimp only
  refine WLoop.mk (fun v => ∃ i : Nat, v.1 = i ∧ v.2.1 = (n : Int) - 1 - i ∧ 2 * i ≤ n ∧ v.2.2.1.length = xs.length ∧ ∀ k, v.2.2.1[k]? = revAt xs o n i k) (fun v => n - v.1.toNat)
    ⟨0, rfl, by rw [wrap_id (by omega) (by omega)]; simp, by omega, rfl, fun k => by unfold revAt; rw [if_neg (by omega)]⟩ ?_
  rintro ⟨i', j', ys, ⟨⟩⟩ ⟨i, h1, h2, h3, h4, h5⟩
  dsimp only at h1 h2 h4 h5 ⊢
  subst h1 h2
  refine Br.dec (fun hl => ?_) fun hl => ?_
  · have hij : i < n - 1 - i := by omega
    have hj : ((n : Int) - 1 - i).toNat = n - 1 - i := by omega
    have g1 : ys[o + (n - 1 - i)]? = xs[o + (n - 1 - i)]? := by rw [h5]; unfold revAt; rw [if_neg (by omega)]
    have g2 : ys[o + i]? = xs[o + i]? := by rw [h5]; unfold revAt; rw [if_neg (by omega)]
    have k1 : o + (n - 1 - i) < xs.length := by omega
    have k2 : o + i < xs.length := by omega
    rw [hj, Int.toNat_natCast]
    refine ⟨⟨by omega, by omega⟩, _, g1.trans (List.getElem?_eq_getElem k1), ⟨by omega, by omega⟩, _, g2.trans (List.getElem?_eq_getElem k2), ⟨by omega, by omega⟩, by omega, ⟨by omega, by omega⟩, by rw [List.length_set]; omega, rfl, rfl, ?_⟩
    rw [wrap_id (by omega) (by omega), wrap_id (by omega) (by omega)]
    refine ⟨⟨i + 1, by push_cast; omega, by push_cast; omega, by omega, by rw [List.length_set, List.length_set]; exact h4, fun k => ?_⟩, by omega⟩
    by_cases e1 : k = o + (n - 1 - i)
    · subst e1
      rw [List.getElem?_set_self (by rw [List.length_set]; omega)]
      unfold revAt
      rw [if_pos (by omega), ← List.getElem?_eq_getElem k2]
      congr 1; omega
    · rw [List.getElem?_set_ne (Ne.symm e1)]
      by_cases e2 : k = o + i
      · subst e2
        rw [List.getElem?_set_self (by omega)]
        unfold revAt
        rw [if_pos (by omega), ← List.getElem?_eq_getElem k1]
        congr 1; omega
      · rw [List.getElem?_set_ne (Ne.symm e2), h5]
        unfold revAt
        by_cases e3 : o ≤ k ∧ k < o + n ∧ (k < o + i ∨ o + n ≤ k + i)
        · rw [if_pos e3, if_pos (by omega)]
        · rw [if_neg e3, if_neg (by omega)]
  · have : ys = m_rev xs o n := by
      refine List.ext_getElem? fun k => ?_
      rw [h5, m_rev_get hn]
      unfold revAt
      by_cases e : o ≤ k ∧ k < o + n
      · rw [if_pos e]
        split
        · rfl
        · have : k = o + n - 1 - (k - o) := by omega
          rw [← this]
      · rw [if_neg e, if_neg (by omega)]
    rw [this]
theorem sound_reverse : MSound Try.prog 158 s_reverse :=
  MSound.mkM tabROK envNil mixed Try.func158 (by kernel_rfl) (by kernel_rfl) fun x h => p_reverse x.1 h
abbrev Dec' (l : List Int) : Prop := List.Pairwise (fun a b => b < a) l
theorem next_none : ∀ (t : List Int), Dec' t → m_next t = none
  | [], _ => rfl
  | [v], _ => rfl
  | v :: y :: r, h => by
    obtain ⟨h1, h2⟩ := List.pairwise_cons.1 h
    have hy := h1 y (by simp)
    rw [m_next, next_none (y :: r) h2]
    show m_pivot v (y :: r) = none
    unfold m_pivot lastGt
    rw [if_neg (show ¬ y > v by omega), if_pos rfl]
theorem next_pre {s s' : List Int} (h : m_next s = some s') : ∀ pre : List Int, m_next (pre ++ s) = some (pre ++ s')
  | [] => h
  | v :: p => by rw [List.cons_append, m_next, next_pre h p]; rfl
theorem lastGt_iff (v : Int) : ∀ (t : List Int), Dec' t → ∀ k (hk : k < t.length), k < lastGt v t ↔ v < t[k]
  | [], _, k, hk => absurd hk (Nat.not_lt_zero _)
  | x :: r, h, k, hk => by
    obtain ⟨h1, h2⟩ := List.pairwise_cons.1 h
    unfold lastGt
    by_cases hx : x > v
    · rw [if_pos hx]
      rcases k with _ | k
      · simpa using hx
      · have := lastGt_iff v r h2 k (by simpa using hk)
        simp only [List.getElem_cons_succ]
        rw [← this]; omega
    · rw [if_neg hx]
      refine ⟨fun h => absurd h (Nat.not_lt_zero _), fun h3 => ?_⟩
      rcases k with _ | k
      · exact absurd h3 (by simpa using hx)
      · simp only [List.getElem_cons_succ] at h3
        have := h1 _ (List.getElem_mem (by simpa using hk : k < r.length))
        omega
theorem lastGt_le (v : Int) : ∀ t : List Int, lastGt v t ≤ t.length
  | [] => Nat.le_refl _
  | x :: r => by unfold lastGt; split <;> simp [lastGt_le v r]
theorem lastGt_eq {v : Int} {t : List Int} (h : Dec' t) {j : Nat} (hj : j < t.length) (h1 : v < t[j]) (h2 : ∀ k (hk : k < t.length), j < k → t[k] < v) : lastGt v t = j + 1 := by
  have h3 := (lastGt_iff v t h j hj).2 h1
  have h4 := lastGt_le v t
  by_cases e : j + 1 < t.length
  · have h5 := h2 (j + 1) e (by omega)
    have h6 := lastGt_iff v t h (j + 1) e
    have : ¬ (j + 1 < lastGt v t) := fun hh => by have := h6.1 hh; omega
    omega
  · omega
theorem next_at {pre t : List Int} {v : Int} (h : Dec' t) {j : Nat} (hj : j < t.length) (h1 : v < t[j]) (h2 : ∀ k (hk : k < t.length), j < k → t[k] < v) :
    m_next (pre ++ v :: t) = some (pre ++ t[j] :: (t.set j v).reverse) := by
  refine next_pre ?_ pre
  rw [m_next, next_none t h]
  show m_pivot v t = _
  unfold m_pivot
  rw [lastGt_eq h hj h1 h2, if_neg (by omega), Nat.add_sub_cancel, gets_nat hj]
theorem rev_tail {pre t : List Int} {y : Int} : m_rev (pre ++ y :: t) (pre.length + 1) t.length = pre ++ y :: t.reverse := by
  unfold m_rev
  have e1 : List.take (pre.length + 1) (pre ++ y :: t) = pre ++ [y] := by
    rw [List.take_append, List.take_of_length_le (by omega)]; simp
  have e2 : List.drop (pre.length + 1) (pre ++ y :: t) = t := by
    rw [List.drop_append, List.drop_eq_nil_of_le (by omega)]; simp
  have e3 : List.drop (pre.length + 1 + t.length) (pre ++ y :: t) = [] := List.drop_eq_nil_of_le (by simp; omega)
  rw [e1, e2, e3, List.take_length]
  simp
theorem set_mid {α : Type} (pre : List α) (v a : α) (t : List α) : (pre ++ v :: t).set pre.length a = pre ++ a :: t := by
  rw [List.set_append, if_neg (by omega)]; simp
theorem set_past {α : Type} (pre : List α) (v a : α) (t : List α) (j : Nat) : (pre ++ v :: t).set (pre.length + 1 + j) a = pre ++ v :: t.set j a := by
  rw [List.set_append, if_neg (by omega), show pre.length + 1 + j - pre.length = j + 1 by omega]; rfl
theorem split_at' {α : Type} {xs : List α} {i : Nat} (h : i < xs.length) : ∃ pre v t, xs = pre ++ v :: t ∧ pre.length = i := by
  refine ⟨xs.take i, xs[i], xs.drop (i + 1), ?_, by rw [List.length_take]; omega⟩
  rw [← List.drop_eq_getElem_cons h, List.take_append_drop]
theorem dec_next {xs : List Int} (h : Dec' xs) : m_next xs = none := next_none xs h
/-- What the second loop and the swap come to. -/
theorem swap_next {pre t : List Int} {v : Int} (h : Dec' t) {j : Nat} (hj : j < t.length) (h1 : v < t[j]) (h2 : ∀ k (hk : k < t.length), j < k → t[k] < v) :
    m_rev (((pre ++ v :: t).set pre.length t[j]).set (pre.length + 1 + j) v) (pre.length + 1) t.length = (m_next (pre ++ v :: t)).getD [] ∧ (m_next (pre ++ v :: t)).isSome = true := by
  rw [next_at h hj h1 h2, set_mid, set_past]
  have := @rev_tail pre (t.set j v) t[j]
  rw [List.length_set] at this
  exact ⟨this, rfl⟩
theorem p_nextPerm (xs : List Int) (h : 1 ≤ xs.length ∧ xs.length ≤ 20 ∧ xs.Nodup) : fnMW tabT (look [(158, s_reverse)]) s_nextPerm Try.f133 (xs, ()) (fun (z : (Bool × Unit) × List Int × Unit) => z = (((m_next xs).isSome, ()), ((m_next xs).getD xs, ()))) := by
  obtain ⟨hl1, hl2, hnd⟩ := h
  have hne : ∀ i j (hi : i < xs.length) (hj : j < xs.length), i < j → xs[i] ≠ xs[j] := fun i j hi hj hij => List.pairwise_iff_getElem.1 hnd i j hi hj hij
  refine Eq.mp (w_nextPerm xs _) ⟨rfl, rfl, ?_⟩
  refine WLoop.mk (fun v => v.2.1 = xs ∧ ∃ i : Nat, i + 1 ≤ xs.length ∧ v.1 = (i : Int) - 1 ∧ Dec' (xs.drop i)) (fun v => (v.1 + 1).toNat)
    ⟨rfl, xs.length - 1, by omega, by rw [wrap_id (by omega) (by omega)]; omega, ?_⟩ ?_
  · rw [List.drop_eq_getElem_cons (by omega), List.drop_eq_nil_of_le (by omega)]
    exact List.pairwise_singleton _ _
  · rintro ⟨a, ys, ⟨⟩⟩ ⟨h1, i, h2, h3, h4⟩
    dsimp only at h1 h3 ⊢
    subst h1 h3
    refine Br.dec (fun hp => ?_) fun hp => ?_
    · obtain ⟨i, rfl⟩ : ∃ k, i = k + 1 := ⟨i - 1, by omega⟩
      have e0 : ((i + 1 : Nat) : Int) - 1 = (i : Int) := by omega
      rw [e0]
      have e1 : IntKind.i64.wrap ((i : Int) + 1) = ((i + 1 : Nat) : Int) := wrap_nat (by omega)
      rw [e1]
      simp only [Int.toNat_natCast, Nat.zero_add]
      refine ⟨⟨by omega, by omega⟩, _, List.getElem?_eq_getElem (by omega), ⟨by omega, by omega⟩, _, List.getElem?_eq_getElem (by omega), ?_⟩
      have hsp : ys.drop i = ys[i] :: ys.drop (i + 1) := List.drop_eq_getElem_cons (by omega)
      refine Br.dec (fun hg => ⟨trivial, trivial, ⟨⟨trivial, i, by omega, by rw [wrap_id (by omega) (by omega)], ?_⟩, by rw [wrap_id (by omega) (by omega)]; omega⟩⟩) fun hg => ?_
      · rw [hsp]
        refine List.pairwise_cons.2 ⟨fun b hb => ?_, h4⟩
        have hsp2 : ys.drop (i + 1) = ys[i + 1] :: ys.drop (i + 1 + 1) := List.drop_eq_getElem_cons (by omega)
        rw [hsp2] at hb h4
        rcases List.mem_cons.1 hb with rfl | hb
        · exact hg
        · exact Int.lt_trans ((List.pairwise_cons.1 h4).1 b hb) hg
      · refine Br.dec (fun hn => by omega) fun _ => ⟨trivial, trivial, ?_⟩
        have hlt : ys[i] < ys[i + 1] := by
          have := hne i (i + 1) (by omega) (by omega) (by omega)
          omega
        obtain ⟨pre, v, t, hx, hpl⟩ := split_at' (show i < ys.length by omega)
        have hlen : ys.length = pre.length + 1 + t.length := by rw [hx]; simp; omega
        have hv : ys[i] = v := by simp [hx, ← hpl]
        have ht : ∀ k (hk : k < t.length), ys[i + 1 + k]'(by omega) = t[k] := fun k hk => by
          subst hpl
          simp only [hx]
          rw [List.getElem_append_right (by omega)]
          simp only [show pre.length + 1 + k - pre.length = k + 1 by omega, List.getElem_cons_succ]
        have hd : Dec' t := by
          have : ys.drop (i + 1) = t := by rw [hx, ← hpl, List.drop_append, List.drop_eq_nil_of_le (by omega)]; simp
          rw [← this]; exact h4
        refine WLoop.mk (fun w => w.2.1 = ys ∧ ∃ k : Nat, k < t.length ∧ w.1 = ((i + 1 + k : Nat) : Int) ∧ ∀ k' (hk : k' < t.length), k < k' → t[k'] < v) (fun w => w.1.toNat)
          ⟨rfl, t.length - 1, by omega, by rw [wrap_id (by omega) (by omega)]; omega, fun k' hk hh => by omega⟩ ?_
        rintro ⟨b, zs, ⟨⟩⟩ ⟨g1, k, g2, g3, g4⟩
        dsimp only at g1 g3 ⊢
        subst g1 g3
        simp only [Int.toNat_natCast]
        refine ⟨⟨by omega, by omega⟩, _, List.getElem?_eq_getElem (by omega), ⟨by omega, by omega⟩, _, List.getElem?_eq_getElem (by omega), ?_⟩
        rw [ht k g2, hv]
        refine Br.dec (fun hg => ?_) fun hg => ?_
        · have hk0 : 0 < k := by
            refine Nat.pos_of_ne_zero fun e => ?_
            subst e
            have := ht 0 g2
            simp only [Nat.add_zero] at this
            omega
          refine ⟨trivial, trivial, ⟨⟨trivial, k - 1, by omega, by rw [wrap_id (by omega) (by omega)]; omega, fun k' hk hh => ?_⟩, by rw [wrap_id (by omega) (by omega)]; omega⟩⟩
          by_cases e : k' = k
          · subst e; exact hg
          · exact g4 k' hk (by omega)
        · have hgt : v < t[k] := by
            have := hne i (i + 1 + k) (by omega) (by omega) (by omega)
            rw [hv, ht k g2] at this
            omega
          have hsw := @swap_next pre t v hd k g2 hgt g4
          have hrm : List.length (m_rev ((zs.set i zs[i + 1 + k]).set (i + 1 + k) zs[i]) (i + 1) (zs.length - (i + 1))) = ((zs.set i zs[i + 1 + k]).set (i + 1 + k) zs[i]).length := by
            unfold m_rev
            simp only [List.length_append, List.length_reverse, List.length_take, List.length_drop, List.length_set]
            omega
          have et : zs.length - (i + 1) = t.length := by omega
          refine ⟨⟨by omega, by omega⟩, _, List.getElem?_eq_getElem (by omega), ⟨by omega, by omega⟩, _, List.getElem?_eq_getElem (by omega), ⟨by omega, by omega⟩, by omega, ⟨by omega, by omega⟩, by rw [List.length_set]; omega, ⟨by omega, by omega, by omega⟩, _, if_pos (And.intro (show short ((zs.set i zs[i + 1 + k]).set (i + 1 + k) zs[i]) by unfold short; rw [List.length_set, List.length_set]; omega) (show i + 1 + (zs.length - (i + 1)) ≤ ((zs.set i zs[i + 1 + k]).set (i + 1 + k) zs[i]).length by rw [List.length_set, List.length_set]; omega)), hrm, ?_⟩
          · show ((true, ()), m_rev ((zs.set i zs[i + 1 + k]).set (i + 1 + k) zs[i]) (i + 1) (zs.length - (i + 1)), ()) = _
            rw [et, ht k g2, hv]
            have e3 : m_rev ((zs.set i t[k]).set (i + 1 + k) v) (i + 1) t.length = (m_next zs).getD [] ∧ (m_next zs).isSome = true := by
              have := hsw
              rw [← hx, hpl] at this
              exact this
            rw [e3.1, e3.2]
            cases hm : m_next zs with
            | none => rw [hm] at e3; exact absurd e3.2 (by decide)
            | some y => rfl
    · have : i = 0 := by omega
      subst this
      refine Br.dec (fun _ => ?_) fun hn => by omega
      rw [List.drop_zero] at h4
      rw [dec_next h4]
      rfl
theorem sound_nextPerm : MSound Try.prog 133 s_nextPerm :=
  MSound.mkM tabTOK (envConsM sound_reverse envNil) mixed Try.func133 (by kernel_rfl) (by kernel_rfl) fun x h => p_nextPerm x.1 h
theorem p_identityM (n : Int) (h : 0 ≤ n ∧ n ≤ 20) : fnMW tabT (look []) s_identityM Try.f132 (n, ()) (fun (z : (List Int × Unit) × Unit) => z = ((upto n.toNat, ()), ())) := by
  refine Eq.mp (w_identityM n _) ⟨⟨by omega, by show n < (4294967296 : Int) + 1; omega⟩, rfl, rfl, rfl, ?_⟩
  refine loop_range n.toNat (fun v => v.1) (fun j v => v.2.1.length = n.toNat ∧ v.2.1.take j = upto j) rfl ⟨by simp, by simp [upto]⟩ ?_
  rintro j ⟨i, ys, ⟨⟩⟩ K hj hi ⟨h1, h2⟩ hK
  dsimp only at hi h1 h2 ⊢
  subst hi
  rw [List.length_replicate]
  simp only [Int.toNat_natCast, Nat.zero_add]
  refine Br.dec (fun hl => ⟨⟨by omega, by omega⟩, by omega, trivial, by rw [List.length_set], ?_⟩) fun hl => ?_
  · rw [wrap_nat (by omega)]
    refine hK (by omega) _ rfl ⟨by rw [List.length_set]; exact h1, ?_⟩
    rw [List.take_add_one, List.take_set_of_le (by omega), h2, List.getElem?_set_self (by omega), upto_succ]
    rfl
  · have : j = ys.length := by omega
    subst this
    rw [List.take_length] at h2
    rw [List.drop_zero, List.take_length, h2, h1]
theorem sound_identityM : MSound Try.prog 132 s_identityM :=
  MSound.mkM tabTOK envNil mixed Try.func132 (by kernel_rfl) (by kernel_rfl) fun x h => p_identityM x.1 h
theorem p_copyIntsM (xs : List Int) (h : short xs) : fnMW tabT (look []) s_copyIntsM Try.f70 (xs, ()) (fun (z : (List Int × Unit) × Unit) => z = ((xs, ()), ())) := by
  unfold short at h
  refine Eq.mp (w_copyIntsM xs _) ⟨rfl, rfl, by show 0 + xs.length ≤ 4294967296; omega, ?_⟩
  simp only [whole_row, List.nil_append]
theorem sound_copyIntsM : MSound Try.prog 70 s_copyIntsM :=
  MSound.mkM tabTOK envNil mixed Try.func70 (by kernel_rfl) (by kernel_rfl) fun x h => p_copyIntsM x.1 h
/-- From a on, each the next of the one before it, up to b. -/
inductive Run : List Int → List (List Int) → List Int → Prop where
  | one (a : List Int) : Run a [a] a
  | more {a c b : List Int} {L : List (List Int)} : m_next a = some c → Run c L b → Run a (a :: L) b
theorem Run.glue {a b c d : List Int} {L M : List (List Int)} (h : Run a L b) (hn : m_next b = some c) (h2 : Run c M d) : Run a (L ++ M) d := by
  induction h with
  | one a => exact .more hn h2
  | more h3 _ ih => exact .more h3 (ih hn)
theorem Run.cons {a b : List Int} {L : List (List Int)} (h : Run a L b) (v : Int) : Run (v :: a) (L.map (v :: ·)) (v :: b) := by
  induction h with
  | one a => exact .one _
  | more h3 _ ih => exact .more (next_pre h3 [v]) ih
abbrev Inc (l : List Int) : Prop := List.Pairwise (fun a b => a < b) l
theorem lex_run : ∀ (k : Nat) (R : List Int), Inc R → R.length = k → Run R (lex k R) R.reverse
  | 0, R, _, hl => by
    have : R = [] := List.length_eq_zero_iff.1 hl
    subst this
    exact .one []
  | k + 1, R, hR, hl => by
    have key : ∀ (B A : List Int) (v : Int), R = A ++ v :: B → Run (v :: (A ++ B)) ((v :: B).flatMap fun u => (lex k (R.erase u)).map (u :: ·)) R.reverse := by
      intro B
      induction B with
      | nil =>
        intro A v hA
        have he : R.erase v = A := by
          rw [hA, List.erase_append_right _ (fun hm => by
            have := (List.pairwise_append.1 (hA ▸ hR)).2.2 v hm v (by simp)
            omega)]
          simp
        have h1 := lex_run k A ((List.pairwise_append.1 (hA ▸ hR)).1) (by rw [hA] at hl; simp at hl; omega)
        simp only [List.flatMap_cons, List.flatMap_nil, List.append_nil]
        rw [he, hA]
        have h2 := h1.cons v
        simpa using h2
      | cons v' B ih =>
        intro A v hA
        have hp := List.pairwise_append.1 (hA ▸ hR)
        have hp2 := List.pairwise_cons.1 hp.2.1
        have hp3 := List.pairwise_cons.1 hp2.2
        have he : R.erase v = A ++ v' :: B := by
          rw [hA, List.erase_append_right _ (fun hm => by
            have := hp.2.2 v hm v (by simp)
            omega)]
          simp
        have hinc : Inc (A ++ v' :: B) := List.pairwise_append.2 ⟨hp.1, hp2.2, fun a ha b hb => hp.2.2 a ha b (List.mem_cons_of_mem _ hb)⟩
        have h1 := (lex_run k (A ++ v' :: B) hinc (by rw [hA] at hl; simp at hl ⊢; omega)).cons v
        have h2 := ih (A ++ [v]) v' (by rw [hA]; simp)
        rw [List.flatMap_cons, he]
        refine h1.glue ?_ h2
        have hrev : (A ++ v' :: B).reverse = B.reverse ++ v' :: A.reverse := by simp
        have hdec : Dec' (B.reverse ++ v' :: A.reverse) := by
          rw [← hrev]
          exact List.pairwise_reverse.2 hinc
        rw [hrev]
        have hj : B.reverse.length < (B.reverse ++ v' :: A.reverse).length := by simp
        have hg : (B.reverse ++ v' :: A.reverse)[B.reverse.length] = v' := by simp
        have := @next_at [] (B.reverse ++ v' :: A.reverse) v hdec B.reverse.length hj (by rw [hg]; exact hp2.1 v' (by simp)) (fun q hq hlt => by
          rw [List.getElem_append_right (by omega)]
          obtain ⟨q', hq'⟩ : ∃ q', q - B.reverse.length = q' + 1 := ⟨q - B.reverse.length - 1, by omega⟩
          have hq2 : q' < A.reverse.length := by simp at hq hq' ⊢; omega
          have hm : A.reverse[q'] ∈ A := List.mem_reverse.1 (List.getElem_mem _)
          have e : (v' :: A.reverse)[q - B.reverse.length]'(by rw [hq']; simpa using hq2) = A.reverse[q'] := by simp only [hq', List.getElem_cons_succ]
          rw [e]
          exact hp.2.2 _ hm v (by simp))
        rw [List.nil_append] at this
        rw [this, hg, set_mid]
        simp only [List.nil_append, List.reverse_append, List.reverse_cons, List.reverse_reverse, List.append_assoc, List.cons_append]
    cases R with
    | nil => simp at hl
    | cons v B =>
      have := key B [] v rfl
      rw [lex]
      exact this
theorem lex_perm : ∀ (k : Nat) (R x : List Int), R.length = k → x ∈ lex k R → x.Perm R
  | 0, R, x, hl, hx => by
    have : R = [] := List.length_eq_zero_iff.1 hl
    subst this
    rw [lex, List.mem_singleton] at hx
    subst hx
    exact .nil
  | k + 1, R, x, hl, hx => by
    rw [lex, List.mem_flatMap] at hx
    obtain ⟨v, hv, hx⟩ := hx
    obtain ⟨y, hy, rfl⟩ := List.mem_map.1 hx
    have h1 := lex_perm k (R.erase v) y (by rw [List.length_erase_of_mem hv]; omega) hy
    exact (h1.cons v).trans (List.perm_cons_erase hv).symm
def factl : Nat → Nat
  | 0 => 1
  | k + 1 => (k + 1) * factl k
theorem flat_len {α β : Type} {n : Nat} (f : α → List β) : ∀ (l : List α), (∀ a ∈ l, (f a).length = n) → (l.flatMap f).length = l.length * n
  | [], _ => by simp
  | a :: r, h => by
    rw [List.flatMap_cons, List.length_append, flat_len f r (fun b hb => h b (List.mem_cons_of_mem _ hb)), h a (by simp), List.length_cons, Nat.succ_mul]
    omega
theorem lex_len : ∀ (k : Nat) (R : List Int), R.length = k → (lex k R).length = factl k
  | 0, _, _ => rfl
  | k + 1, R, hl => by
    rw [lex, flat_len (n := factl k) _ _ (fun v hv => by rw [List.length_map]; exact lex_len k _ (by rw [List.length_erase_of_mem hv]; omega)), hl]
    rfl
theorem factl_le : ∀ k, k ≤ 7 → factl k ≤ 5040 := by decide
theorem upto_inc (n : Nat) : Inc (upto n) := by
  unfold upto
  refine List.pairwise_map.2 (List.Pairwise.imp ?_ List.pairwise_lt_range)
  intro a b h
  exact Int.ofNat_lt.2 h
theorem lexU_len {n : Nat} (h : n ≤ 7) : (lex n (upto n)).length ≤ 5040 := by rw [lex_len n _ (upto_len n)]; exact factl_le n h
theorem perm_genOK {n : Int} {x : List Int} (h1 : 1 ≤ n) (h2 : n ≤ 20) (h : x.Perm (upto n.toNat)) : m_genOK n x = true := by
  have hl : x.length = n.toNat := by rw [h.length_eq, upto_len]
  refine dec_iff.2 ⟨by omega, dec_iff.2 ⟨by omega, by omega, fun j hj _ => ?_⟩⟩
  have hm := mem_upto.1 (h.mem_iff.1 (List.getElem_mem hj))
  refine ⟨hm.1, by omega, fun hc => ?_⟩
  have hnd : x.Nodup := h.nodup_iff.2 (upto_nodup _)
  rw [← List.take_append_drop j x, List.drop_eq_getElem_cons hj] at hnd
  exact (List.pairwise_append.1 hnd).2.2 _ hc _ (List.mem_cons_self ..) rfl
/-- A list run through from one to the next. -/
theorem Run.head {a b : List Int} {L : List (List Int)} (h : Run a L b) : ∃ M, L = a :: M := by
  cases h with
  | one => exact ⟨_, rfl⟩
  | more _ _ => exact ⟨_, rfl⟩
theorem Run.at {a b : List Int} {L : List (List Int)} (h : Run a L b) : ∀ j (hj : j < L.length), (∀ h2 : j + 1 < L.length, m_next L[j] = some L[j + 1]) ∧ (j + 1 = L.length → L[j] = b) := by
  induction h with
  | one a =>
    intro j hj
    simp only [List.length_singleton] at hj
    have : j = 0 := by omega
    subst this
    exact ⟨fun h2 => by simp at h2, fun _ => rfl⟩
  | more h3 h4 ih =>
    intro j hj
    rcases j with _ | j
    · obtain ⟨M, hM⟩ := h4.head
      refine ⟨fun h2 => ?_, fun h2 => ?_⟩
      · simp only [List.getElem_cons_zero, List.getElem_cons_succ]
        subst hM
        exact h3
      · subst hM; simp at h2
    · have := ih j (by simpa using hj)
      refine ⟨fun h2 => ?_, fun h2 => ?_⟩
      · simp only [List.getElem_cons_succ]
        exact this.1 (by simpa using h2)
      · simp only [List.getElem_cons_succ]
        exact this.2 (by simpa using h2)
theorem Run.distinct {a b : List Int} {L : List (List Int)} (h : Run a L b) (hb : m_next b = none) : ∀ k i j (hi : i < L.length) (hj : j < L.length), L.length - j = k → i < j → L[i] ≠ L[j] := by
  intro k
  induction k with
  | zero => intro i j hi hj hk; omega
  | succ k ih =>
    intro i j hi hj hk hij he
    by_cases e : j + 1 < L.length
    · have h1 := (h.at i hi).1 (by omega)
      have h2 := (h.at j hj).1 e
      rw [he, h2] at h1
      exact ih (i + 1) (j + 1) (by omega) e (by omega) (by omega) (Option.some.inj h1).symm
    · have h1 := (h.at i hi).1 (by omega)
      have h2 := (h.at j hj).2 (by omega)
      rw [he, h2, hb] at h1
      cases h1
theorem Run.idx {a b : List Int} {L : List (List Int)} (h : Run a L b) (hb : m_next b = none) {j : Nat} (hj : j < L.length) : L.idxOf L[j] = j := by
  have h1 : L.idxOf L[j] < L.length := List.idxOf_lt_length_of_mem (List.getElem_mem _)
  have h2 : L[L.idxOf L[j]] = L[j] := List.getElem_idxOf h1
  rcases Nat.lt_trichotomy (L.idxOf L[j]) j with h3 | h3 | h3
  · exact absurd h2 (h.distinct hb _ _ _ h1 hj rfl h3)
  · exact h3
  · exact absurd h2.symm (h.distinct hb _ _ _ hj h1 rfl h3)
theorem upto_run (n : Nat) : Run (upto n) (lex n (upto n)) (upto n).reverse := lex_run n _ (upto_inc n) (upto_len n)
theorem last_none (n : Nat) : m_next (upto n).reverse = none := next_none _ (List.pairwise_reverse.2 (upto_inc n))
theorem filter_take {α : Type} (f : α → Bool) (L : List α) {j : Nat} (h : j < L.length) : (L.take (j + 1)).filter f = (L.take j).filter f ++ if f L[j] = true then [L[j]] else [] := by
  rw [List.take_add_one, List.getElem?_eq_getElem h, List.filter_append]
  congr 1
  simp only [Option.toList]
  by_cases e : f L[j] = true
  · rw [if_pos e, List.filter_cons_of_pos e]; rfl
  · rw [if_neg e, List.filter_cons_of_neg e]; rfl
theorem p_symListI (n : Int) (str : ByteArray) (g : List (List Int)) (h : m_validP (n, str, g, ()) = true ∧ n ≤ 7) : fnMW tabT (look [(132, s_identityM), (127, s_isSymP), (76, s_cloneM), (133, s_nextPerm)]) s_symListI Try.f87 (n, str, g, ()) (fun (z : (List (List Int) × Unit) × Unit) => z = ((m_syms (n, str, g, ()), ()), ())) := by
  obtain ⟨hv, h7⟩ := h
  have hvl := validP_len hv
  dsimp only at hvl
  refine Eq.mp (w_symListI n str g _) ⟨_, if_pos ⟨by show 0 ≤ n; omega, by show n ≤ 20; omega⟩, rfl, rfl, rfl, rfl, ?_⟩
  show WLoop _ (n, str, g, [], upto n.toNat, PUnit.unit)
  generalize hL : lex n.toNat (upto n.toNat) = L
  have hrun := upto_run n.toNat
  have hperm : ∀ x ∈ L, x.Perm (upto n.toNat) := fun x hx => lex_perm _ _ x (upto_len _) (hL ▸ hx)
  have hlen := lexU_len (n := n.toNat) (by omega)
  rw [hL] at hrun hlen
  have hat := hrun.at
  have hfin : ∀ j (hj : j < L.length) (o : Option (List Int)), m_next L[j] = o → (o = none ∧ j + 1 = L.length) ∨ (∃ h2 : j + 1 < L.length, o = some L[j + 1]) := fun j hj o ho => by
    by_cases e : j + 1 < L.length
    · exact .inr ⟨e, by rw [← ho]; exact (hat j hj).1 e⟩
    · refine .inl ⟨?_, by omega⟩
      rw [← ho, (hat j hj).2 (by omega)]
      exact last_none _
  have hsy : m_syms (n, str, g, ()) = L.filter (m_isSym (n, str, g, ())) := by unfold m_syms; rw [hL]
  have hix : ∀ j (hj : j < L.length), L.idxOf L[j] = j := fun j hj => hrun.idx (last_none _) hj
  obtain ⟨M, hM⟩ := hrun.head
  have h0 : 0 < L.length := by rw [hM]; simp
  have hgen : ∀ j (hj : j < L.length), m_genOK n L[j] = true := fun j hj => perm_genOK hvl.1 (by omega) (hperm _ (List.getElem_mem _))
  have hlen2 : ∀ j (hj : j < L.length), L[j].length = n.toNat := fun j hj => by rw [(hperm _ (List.getElem_mem _)).length_eq, upto_len]
  have hnd : ∀ j (hj : j < L.length), L[j].Nodup := fun j hj => (hperm _ (List.getElem_mem _)).nodup_iff.2 (upto_nodup _)
  have hfl : ∀ j, ((L.take j).filter (m_isSym (n, str, g, ()))).length ≤ 5040 := fun j => Nat.le_trans (List.length_filter_le _ _) (by rw [List.length_take]; omega)
  refine WLoop.mk (fun v => v.1 = n ∧ v.2.1 = str ∧ v.2.2.1 = g ∧ ∃ j, ∃ h : j < L.length, v.2.2.2.1 = (L.take j).filter (m_isSym (n, str, g, ())) ∧ v.2.2.2.2.1 = L[j])
    (fun v => L.length - L.idxOf v.2.2.2.2.1) ⟨rfl, rfl, rfl, 0, h0, by simp, by simp [hM]⟩ ?_
  rintro ⟨n', str', g', out, q, ⟨⟩⟩ ⟨h1, h2, h3, j, hj, h4, h5⟩
  dsimp only at h1 h2 h3 h4 h5
  subst h1 h2 h3 h4 h5
  dsimp only
  have hshort : short L[j] := by unfold short; rw [hlen2]; omega
  rw [whole_row L[j]]
  have hft := filter_take (m_isSym (n', str', g', ())) L hj
  have step : ∀ out', out' = (L.take (j + 1)).filter (m_isSym (n', str', g', ())) →
      ∃ (y9 : (Bool × PUnit) × List Int × PUnit), s_nextPerm.fn (L[j], ()) = some y9 ∧ (y9.2.fst.length = L[j].length ∧ L[j].length = L[j].length) ∧
        Br (!y9.1.fst) (((List.take out'.length (List.drop 0 out'), ()), ()) = ((m_syms (n', str', g', ()), ()), ()))
          ((0 : Nat) = (0 : Nat) ∧ out'.length = out'.length ∧ (0 : Nat) = (0 : Nat) ∧ L[j].length = y9.2.fst.length ∧
            ((n' = n' ∧ str' = str' ∧ g' = g' ∧ ∃ j1, ∃ _ : j1 < L.length, out' = (L.take j1).filter (m_isSym (n', str', g', ())) ∧ y9.2.fst = L[j1]) ∧ L.length - L.idxOf y9.2.fst < L.length - L.idxOf L[j])) := by
    intro out' ho
    refine ⟨_, if_pos ⟨by show 1 ≤ L[j].length; rw [hlen2]; omega, by show L[j].length ≤ 20; rw [hlen2]; omega, hnd j hj⟩, ?_⟩
    rw [whole_row]
    rcases hfin j hj _ rfl with ⟨e1, e2⟩ | ⟨e1, e2⟩
    · simp only [e1, Option.isSome, Option.getD, Bool.not_false]
      refine ⟨⟨trivial, trivial⟩, ⟨fun _ => ?_, fun he => (by cases he)⟩⟩
      rw [ho, hsy, e2, List.take_length]
    · simp only [e2, Option.isSome, Option.getD, Bool.not_true]
      have hll : L[j + 1].length = L[j].length := by rw [hlen2, hlen2]
      exact ⟨⟨hll, trivial⟩, ⟨fun he => (by cases he), fun _ => ⟨trivial, trivial, trivial, hll.symm, ⟨trivial, trivial, trivial, j + 1, e1, ho, rfl⟩, by rw [hix, hix]; omega⟩⟩⟩
  refine ⟨_, if_pos ⟨hv, hgen j hj⟩, ⟨fun hs => ?_, fun hs => ?_⟩⟩
  · have hs : m_isSym (n', str', g', ()) L[j] = true := hs
    rw [if_pos hs] at hft
    refine ⟨_, if_pos hshort, rfl, rfl, ?_, rfl, rfl, ?_⟩
    · show _ + 1 ≤ 4294967296
      have := hfl j
      omega
    · exact step _ (show _ ++ List.take 1 (List.drop 0 [List.take L[j].length (List.drop 0 L[j])]) = _ by rw [whole_row L[j]]; exact hft.symm)
  · have hs : m_isSym (n', str', g', ()) L[j] = false := hs
    rw [if_neg (by rw [hs]; decide), List.append_nil] at hft
    exact ⟨rfl, rfl, step _ hft.symm⟩
theorem sound_symListI : MSound Try.prog 87 s_symListI :=
  MSound.mkM tabTOK (envConsM sound_identityM (envCons sound_implIsSymP (envConsM sound_cloneM (envConsM sound_nextPerm envNil)))) mixed Try.func87 (by kernel_rfl) (by kernel_rfl) fun x h => p_symListI x.1 x.2.1 x.2.2.1 h
theorem row_genOK {n : Int} {x : List Int} (h1 : 1 ≤ n) (h2 : n ≤ 20) (hl : x.length = n.toNat) (hnd : x.Nodup) (hr : inRow n.toNat x) : m_genOK n x = true := by
  refine dec_iff.2 ⟨by omega, dec_iff.2 ⟨by omega, by omega, fun j hj _ => ?_⟩⟩
  have hm := hr _ (List.getElem_mem hj)
  refine ⟨hm.1, by omega, fun hc => ?_⟩
  rw [← List.take_append_drop j x, List.drop_eq_getElem_cons hj] at hnd
  exact (List.pairwise_append.1 hnd).2.2 _ hc _ (List.mem_cons_self ..) rfl
def exUpto (n : Nat) (l : List Int) (j : Nat) : List (List Int) := ((upto j).filter fun v => !l.contains v).flatMap fun v => (lex (n - l.length - 1) ((restOf n l).erase v)).map fun x => l ++ v :: x
theorem exts_all {n : Nat} {l : List Int} (h : l.length < n) : extsOf n l = exUpto n l n := by
  unfold extsOf exUpto
  obtain ⟨k, hk⟩ : ∃ k, n - l.length = k + 1 := ⟨n - l.length - 1, by omega⟩
  rw [hk, lex, List.map_flatMap, Nat.add_sub_cancel]
  simp only [List.map_map]
  rfl
theorem rest_snoc {n : Nat} {l : List Int} {v : Int} : restOf n (l ++ [v]) = (restOf n l).erase v := by
  unfold restOf
  have hn : ((upto n).filter fun u => !l.contains u).Nodup := (upto_nodup n).sublist List.filter_sublist
  rw [hn.erase_eq_filter, List.filter_filter]
  refine List.filter_congr fun u _ => ?_
  simp only [List.contains_append, List.contains_cons, List.contains_nil, Bool.or_false, Bool.not_or]
  rw [Bool.and_comm]
  rfl
theorem exts_snoc {n : Nat} {l : List Int} {v : Int} : extsOf n (l ++ [v]) = (lex (n - l.length - 1) ((restOf n l).erase v)).map fun x => l ++ v :: x := by
  unfold extsOf
  rw [rest_snoc, List.length_append, List.length_singleton, ← Nat.sub_sub]
  congr 1
  funext x
  simp
theorem exUpto_succ (n : Nat) (l : List Int) (j : Nat) : exUpto n l (j + 1) = exUpto n l j ++ if l.contains (j : Int) = true then [] else extsOf n (l ++ [(j : Int)]) := by
  unfold exUpto
  rw [upto_succ, List.filter_append, List.flatMap_append]
  congr 1
  by_cases e : l.contains (j : Int) = true
  · rw [if_pos e, List.filter_cons_of_neg (by rw [e]; decide)]; rfl
  · rw [if_neg e, List.filter_cons_of_pos (by rw [Bool.eq_false_iff.2 e]; rfl), exts_snoc]; simp
theorem exUpto_le (n : Nat) (l : List Int) {j m : Nat} (h : j ≤ m) : (exUpto n l j).length ≤ (exUpto n l m).length := by
  induction m with
  | zero => have : j = 0 := by omega
            subst this; exact Nat.le_refl _
  | succ m ih =>
    rcases Nat.lt_or_ge j (m + 1) with h1 | h1
    · have := ih (by omega)
      rw [exUpto_succ, List.length_append]; omega
    · have : j = m + 1 := by omega
      subst this; exact Nat.le_refl _
theorem m_contains_eq {xs : List Int} {x : Int} : m_containsInt xs x = xs.contains x := by
  rw [Bool.eq_iff_iff]
  simp [m_containsInt]
theorem p_extN {m : Nat} (n : Int) (str : ByteArray) (g : List (List Int)) (l : List Int) (out : List (List Int))
    (h : (m_validP (n, str, g, ()) = true ∧ n ≤ 7 ∧ l.Nodup ∧ inRow n.toNat l ∧ l.length ≤ n.toNat ∧ out.length + (extsOf n.toNat l).length ≤ 6000) ∧ n.toNat - l.length < m + 1) :
    fnMW tabT (look [(120, s_isSymP), (70, s_copyIntsM), (131, s_containsInt), (85, ASpec.m (s_extN m))]) (s_extN (m+1)) Try.f85 (n, str, g, l, out, ()) (fun (z : (List (List Int) × Unit) × Unit) => z = ((m_ext (n, str, g, ()) l out, ()), ())) := by
  obtain ⟨⟨hv, h7, hnd, hrow, hll, hroom⟩, hm⟩ := h
  have hvl := validP_len hv
  dsimp only at hvl
  refine Eq.mp (w_extN n str g l out _) ?_
  have hsl : short l := by unfold short; omega
  refine ⟨fun he => ?_, fun he => ?_⟩
  · have he : (l.length : Int) = n := by simpa using he
    have hex : extsOf n.toNat l = [l] := by
      unfold extsOf
      rw [show n.toNat - l.length = 0 by omega, lex]
      simp
    rw [hex] at hroom
    simp only [List.length_singleton] at hroom
    have hg : m_genOK n l = true := row_genOK hvl.1 (by omega) (by omega) hnd hrow
    refine ⟨_, if_pos ⟨hv, hg⟩, ⟨fun hs => ?_, fun hs => ?_⟩⟩
    · have hs : m_isSym (n, str, g, ()) l = true := hs
      refine ⟨_, if_pos hsl, rfl, rfl, ?_, ?_⟩
      · show out.length + 1 ≤ 4294967296
        omega
      · rw [whole_row]
        show ((out ++ List.take 1 (List.drop 0 [List.take l.length (List.drop 0 l)]), ()), ()) = _
        rw [whole_row]
        unfold m_ext
        rw [hex, List.filter_cons_of_pos hs]
        rfl
    · have hs : m_isSym (n, str, g, ()) l = false := hs
      rw [whole_row]
      unfold m_ext
      rw [hex, List.filter_cons_of_neg (by rw [hs]; decide)]
      simp
  · have he : (l.length : Int) ≠ n := by simpa using he
    have hlt : l.length < n.toNat := by omega
    rw [exts_all hlt] at hroom
    refine ⟨rfl, rfl, ?_⟩
    refine loop_range n.toNat (fun v => v.1) (fun j v => v.2.1 = n ∧ v.2.2.1 = str ∧ v.2.2.2.1 = g ∧ v.2.2.2.2.1 = out ++ (exUpto n.toNat l j).filter (m_isSym (n, str, g, ()))) rfl ⟨rfl, rfl, rfl, by simp [exUpto, upto]⟩ ?_
    rintro j ⟨i, n', str', g', out', ⟨⟩⟩ K hj hi ⟨h1, h2, h3, h4⟩ hK
    dsimp only at hi h1 h2 h3 h4
    subst hi h1 h2 h3
    dsimp only
    refine Br.dec (fun hl => ?_) fun hl => ?_
    · have hl : j < n'.toNat := by omega
      have hsu := exUpto_succ n'.toNat l j
      have hle := exUpto_le n'.toNat l (show j + 1 ≤ n'.toNat by omega)
      have hfo := List.length_filter_le (m_isSym (n', str', g', ())) (exUpto n'.toNat l j)
      refine ⟨_, if_pos hsl, ⟨fun hc => ?_, fun hc => ?_⟩⟩
      · simp only [and_self]
        have hc : l.contains (j : Int) = false := by
          have hc : (!m_containsInt l (j : Int)) = true := hc
          exact m_contains_eq ▸ (by simpa using hc)
        rw [if_neg (by rw [hc]; decide)] at hsu
        have hnm : (j : Int) ∉ l := fun hm' => by rw [List.contains_iff_mem.2 hm'] at hc; cases hc
        rw [hsu, List.length_append] at hle
        refine ⟨_, if_pos hsl, trivial, trivial, by show l.length + 1 ≤ 4294967296; omega, trivial, trivial, ?_⟩
        dsimp only
        rw [whole_row]
        have hpre : (m_validP (n', str', g', ()) = true ∧ n' ≤ 7 ∧ (l ++ [(j : Int)]).Nodup ∧ inRow n'.toNat (l ++ [(j : Int)]) ∧ (l ++ [(j : Int)]).length ≤ n'.toNat ∧ out'.length + (extsOf n'.toNat (l ++ [(j : Int)])).length ≤ 6000) ∧ n'.toNat - (l ++ [(j : Int)]).length < m := by
          refine ⟨⟨hv, h7, ?_, ?_, ?_, ?_⟩, ?_⟩
          · show (l ++ [(j : Int)]).Nodup
            exact List.nodup_append.2 ⟨hnd, by simp, fun a ha b hb => by
              simp only [List.mem_singleton] at hb
              subst hb
              exact fun e => hnm (e ▸ ha)⟩
          · show inRow n'.toNat (l ++ [(j : Int)])
            intro y hy
            rcases List.mem_append.1 hy with hy | hy
            · exact hrow y hy
            · simp only [List.mem_singleton] at hy
              subst hy
              omega
          · show (l ++ [(j : Int)]).length ≤ n'.toNat
            rw [List.length_append, List.length_singleton]; omega
          · show out'.length + (extsOf n'.toNat (l ++ [(j : Int)])).length ≤ 6000
            rw [h4, List.length_append]
            omega
          · show n'.toNat - (l ++ [(j : Int)]).length < m
            rw [List.length_append, List.length_singleton]; omega
        refine ⟨_, if_pos hpre, trivial, trivial, ?_⟩
        rw [wrap_nat (by omega)]
        refine hK hl _ rfl ⟨rfl, rfl, rfl, ?_⟩
        show m_ext (n', str', g', ()) (l ++ [(j : Int)]) out' = _
        unfold m_ext
        rw [h4, hsu, List.filter_append, List.append_assoc]
      · have hc : l.contains (j : Int) = true := by
          have hc : (!m_containsInt l (j : Int)) = false := hc
          exact m_contains_eq ▸ (by simpa using hc)
        rw [if_pos hc, List.append_nil] at hsu
        refine ⟨rfl, rfl, ?_⟩
        rw [wrap_nat (by omega)]
        refine hK hl _ rfl ⟨rfl, rfl, rfl, ?_⟩
        rw [hsu]
        exact h4
    · have : j = n'.toNat := by omega
      subst this
      rw [whole_row, h4]
      unfold m_ext
      rw [exts_all hlt]
theorem step_extN {m : Nat} (ih_extN : MSound Try.prog 85 (s_extN m)) : MSound Try.prog 85 (s_extN (m+1)) :=
  MSound.mkM tabTOK (envCons sound_specIsSymP (envConsM sound_copyIntsM (envCons sound_containsInt (envConsM ih_extN envNil)))) mixed Try.func85 (by kernel_rfl) (by kernel_rfl) fun x h => p_extN x.1 x.2.1 x.2.2.1 x.2.2.2.1 x.2.2.2.2.1 h
noncomputable abbrev s_ext : MSpec := mkM [some 3, none, none] [(false, .dat tI), (false, .dat .str), (false, .dat tLL), (false, .dat tL), (false, rLL)] false [none] [rLL]
  (fun x => m_validP (x.1, x.2.1, x.2.2.1, ()) = true ∧ x.1 ≤ 7 ∧ List.Nodup (x.2.2.2.1 : List Int) ∧ inRow x.1.toNat x.2.2.2.1 ∧ List.length x.2.2.2.1 ≤ x.1.toNat ∧ List.length x.2.2.2.2.1 + (extsOf x.1.toNat x.2.2.2.1).length ≤ 6000)
  (fun x => ((m_ext (x.1, x.2.1, x.2.2.1, ()) x.2.2.2.1 x.2.2.2.2.1, ()), ()))
theorem sound_extN0 : MSound Try.prog 85 (s_extN 0) :=
  MSound.mkM tabTOK envNil mixed Try.func85 (by kernel_rfl) (by kernel_rfl) fun _ h => absurd h.2 (Nat.not_lt_zero _)
theorem sound_extNs : ∀ m, MSound Try.prog 85 (s_extN m)
  | 0 => sound_extN0
  | m + 1 => step_extN (sound_extNs m)
theorem sound_ext : MSound Try.prog 85 s_ext := MSound.ofLt (fun x => x.1.toNat - List.length x.2.2.2.1) sound_extNs
end Go.Proofs.Ytfghmbpogmcboaa
