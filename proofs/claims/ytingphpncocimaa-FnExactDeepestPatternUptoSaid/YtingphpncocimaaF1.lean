/-
  Contracts: small helpers.
-/
import Derived.Test.YtingphpncocimaaAx22
import Derived.Test.YtingphpncocimaaTab
import Derived.KernelRfl
namespace Go.Proofs.Ytingphpncocimaa
open Go.RowKit

def m_inRange (x a b : Int) : Bool := decide (a ≤ x ∧ x ≤ b)
def m_isPoint (n x : Int) : Bool := decide (0 ≤ x ∧ x ≤ IntKind.i64.wrap (n - 1))
def m_equalInts (a b : List Int) : Bool := decide (a = b)
def m_containsInt (xs : List Int) (x : Int) : Bool := decide (x ∈ xs)
def short (xs : List Int) : Prop := xs.length ≤ 4294967296
noncomputable abbrev s_inRange : Spec := mkS (.pair tI (.pair tI (.pair tI .unit))) .bool false true (fun _ => True) (fun x => m_inRange x.1 x.2.1 x.2.2.1)
noncomputable abbrev s_isPoint : Spec := mkS (.pair tI (.pair tI .unit)) .bool false true (fun _ => True) (fun x => m_isPoint x.1 x.2.1)
noncomputable abbrev s_equalInts : Spec := mkS (.pair tL (.pair tL .unit)) .bool false true (fun x => short x.1) (fun x => m_equalInts x.1 x.2.1)
noncomputable abbrev s_containsInt : Spec := mkS (.pair tL (.pair tI .unit)) .bool false true (fun x => short x.1) (fun x => m_containsInt x.1 x.2.1)
theorem w_inRange (x a b : Int) (P : Bool → Prop) : (Br (decide (x ≥ a)) (P (decide (x ≤ b))) (P false)) = fnW tab (look []) s_inRange Try.f60 (x, a, b, ()) P := by kernel_rfl
theorem w_within (x a b : Int) (P : Bool → Prop) : (Br (decide (x ≥ a)) (P (decide (x ≤ b))) (P false)) = fnW tab (look []) s_inRange Try.f63 (x, a, b, ()) P := by kernel_rfl
theorem w_isPoint (n x : Int) (P : Bool → Prop) : (∃ (y3 : Bool), s_inRange.fn (x, 0, IntKind.i64.wrap (n - 1), ()) = some y3 ∧ P y3) = fnW tab (look [(63, s_inRange)]) s_isPoint Try.f103 (n, x, ()) P := by kernel_rfl
theorem w_equalInts (a b : List Int) (P : Bool → Prop) : (Br ((↑a.length : Int) != (↑b.length : Int)) (P false)
  (WLoop
    (fun (v3 : Int × PUnit) (k4 : Int × PUnit → Prop) =>
      Br (decide (v3.fst < (↑a.length : Int))) (∃ (y5 : Int), idx a v3.fst = some y5 ∧ ∃ (y6 : Int), idx b v3.fst = some y6 ∧ Br (y5 != y6) (P false) (k4 (IntKind.i64.wrap (v3.fst + 1), ())))
        (P true))
    (0, PUnit.unit))) = fnW tab (look []) s_equalInts Try.f56 (a, b, ()) P := by kernel_rfl
theorem w_slicesEqual (a b : List Int) (P : Bool → Prop) : (Br ((↑a.length : Int) != (↑b.length : Int)) (P false)
  (WLoop
    (fun (v3 : Int × PUnit) (k4 : Int × PUnit → Prop) =>
      Br (decide (v3.fst < (↑a.length : Int))) (∃ (y5 : Int), idx a v3.fst = some y5 ∧ ∃ (y6 : Int), idx b v3.fst = some y6 ∧ Br (y5 != y6) (P false) (k4 (IntKind.i64.wrap (v3.fst + 1), ())))
        (P true))
    (0, PUnit.unit))) = fnW tab (look []) s_equalInts Try.f57 (a, b, ()) P := by kernel_rfl
theorem w_containsInt (xs : List Int) (x : Int) (P : Bool → Prop) : (WLoop
  (fun (v3 : Int × PUnit) (k4 : Int × PUnit → Prop) =>
    Br (decide (v3.fst < (↑xs.length : Int))) (∃ (y5 : Int), idx xs v3.fst = some y5 ∧ Br (y5 == x) (P true) (k4 (IntKind.i64.wrap (v3.fst + 1), ()))) (P false))
  (0, PUnit.unit)) = fnW tab (look []) s_containsInt Try.f102 (xs, x, ()) P := by kernel_rfl
theorem p_inRange (x a b : Int) (_ : True) : fnW tab (look []) s_inRange Try.f60 (x, a, b, ()) (fun (z : Bool) => z = m_inRange x a b) := by
  refine Eq.mp (w_inRange x a b _) ?_
  refine Br.dec (fun h => ?_) fun h => ?_
  · have h : a ≤ x := h
    simp [m_inRange, h]
  · exact (decide_eq_false fun hh => h hh.1).symm
theorem sound_inRange : Sound Try.prog 60 s_inRange :=
  Sound.mkS tabOK envNil mixed Try.func60 (by kernel_rfl) (by kernel_rfl) fun x h => p_inRange x.1 x.2.1 x.2.2.1 h
theorem p_within (x a b : Int) (_ : True) : fnW tab (look []) s_inRange Try.f63 (x, a, b, ()) (fun (z : Bool) => z = m_inRange x a b) := by
  refine Eq.mp (w_within x a b _) ?_
  refine Br.dec (fun h => ?_) fun h => ?_
  · have h : a ≤ x := h
    simp [m_inRange, h]
  · exact (decide_eq_false fun hh => h hh.1).symm
theorem sound_within : Sound Try.prog 63 s_inRange :=
  Sound.mkS tabOK envNil mixed Try.func63 (by kernel_rfl) (by kernel_rfl) fun x h => p_within x.1 x.2.1 x.2.2.1 h
theorem p_isPoint (n x : Int) (_ : True) : fnW tab (look [(63, s_inRange)]) s_isPoint Try.f103 (n, x, ()) (fun (z : Bool) => z = m_isPoint n x) :=
  Eq.mp (w_isPoint n x _) ⟨_, if_pos trivial, rfl⟩
theorem sound_isPoint : Sound Try.prog 103 s_isPoint :=
  Sound.mkS tabOK (envCons sound_within envNil) mixed Try.func103 (by kernel_rfl) (by kernel_rfl) fun x h => p_isPoint x.1 x.2.1 h
theorem p_containsInt (xs : List Int) (x : Int) (h : short xs) : fnW tab (look []) s_containsInt Try.f102 (xs, x, ()) (fun (z : Bool) => z = m_containsInt xs x) := by
  refine Eq.mp (w_containsInt xs x _) ?_
  unfold short at h
  refine loop_range xs.length (fun v => v.1) (fun j _ => x ∉ xs.take j) rfl (by simp) ?_
  rintro j ⟨i, ⟨⟩⟩ K hj hi hR hK
  dsimp only at hi ⊢
  subst hi
  refine Br.dec (fun hl => ?_) fun hl => ?_
  · have hl : j < xs.length := by omega
    refine ⟨_, idx_nat hl, ⟨fun he => ?_, fun he => ?_⟩⟩
    · have hm := List.getElem_mem hl
      simp only [beq_iff_eq] at he
      rw [he] at hm
      exact (decide_eq_true hm).symm
    · rw [wrap_nat (by omega)]
      refine hK hl _ rfl ?_
      simp only [beq_eq_false_iff_ne, ne_eq] at he
      rw [List.take_succ_eq_append_getElem hl]
      simp only [List.mem_append, List.mem_singleton, not_or]
      exact ⟨hR, fun hx => he hx.symm⟩
  · have : j = xs.length := by omega
    subst this
    rw [List.take_length] at hR
    exact (decide_eq_false hR).symm
theorem sound_containsInt : Sound Try.prog 102 s_containsInt :=
  Sound.mkS tabOK envNil mixed Try.func102 (by kernel_rfl) (by kernel_rfl) fun x h => p_containsInt x.1 x.2.1 h
theorem eq_loop (a b : List Int) (hlen : a.length = b.length) (h : short a) :
    WLoop (fun (v3 : Int × PUnit) (k4 : Int × PUnit → Prop) =>
      Br (decide (v3.fst < (↑a.length : Int))) (∃ (y5 : Int), idx a v3.fst = some y5 ∧ ∃ (y6 : Int), idx b v3.fst = some y6 ∧ Br (y5 != y6) (false = m_equalInts a b) (k4 (IntKind.i64.wrap (v3.fst + 1), ())))
        (true = m_equalInts a b))
    (0, PUnit.unit) := by
  unfold short at h
  refine loop_range a.length (fun v => v.1) (fun j _ => a.take j = b.take j) rfl (by simp) ?_
  rintro j ⟨i, ⟨⟩⟩ K hj hi hR hK
  dsimp only at hi ⊢
  subst hi
  refine Br.dec (fun hl => ?_) fun hl => ?_
  · have hl1 : j < a.length := by omega
    have hl2 : j < b.length := by omega
    refine ⟨_, idx_nat hl1, _, idx_nat hl2, ⟨fun he => ?_, fun he => ?_⟩⟩
    · simp only [bne_iff_ne, ne_eq] at he
      refine (decide_eq_false fun hab => he ?_).symm
      subst hab
      rfl
    · rw [wrap_nat (by omega)]
      refine hK hl1 _ rfl ?_
      simp only [bne_eq_false_iff_eq] at he
      rw [List.take_succ_eq_append_getElem hl1, List.take_succ_eq_append_getElem hl2, hR, he]
  · have hj' : j = a.length := by omega
    subst hj'
    rw [List.take_length, hlen, List.take_length] at hR
    exact (decide_eq_true hR).symm
theorem p_equalInts (a b : List Int) (h : short a) : fnW tab (look []) s_equalInts Try.f56 (a, b, ()) (fun (z : Bool) => z = m_equalInts a b) := by
  refine Eq.mp (w_equalInts a b _) ⟨fun hl => ?_, fun hl => ?_⟩
  · simp only [bne_iff_ne, ne_eq, Int.natCast_inj] at hl
    exact (decide_eq_false fun hab => hl (by rw [hab])).symm
  · simp only [bne_eq_false_iff_eq, Int.natCast_inj] at hl
    exact eq_loop a b hl h
theorem sound_equalInts : Sound Try.prog 56 s_equalInts :=
  Sound.mkS tabOK envNil mixed Try.func56 (by kernel_rfl) (by kernel_rfl) fun x h => p_equalInts x.1 x.2.1 h
theorem p_slicesEqual (a b : List Int) (h : short a) : fnW tab (look []) s_equalInts Try.f57 (a, b, ()) (fun (z : Bool) => z = m_equalInts a b) := by
  refine Eq.mp (w_slicesEqual a b _) ⟨fun hl => ?_, fun hl => ?_⟩
  · simp only [bne_iff_ne, ne_eq, Int.natCast_inj] at hl
    exact (decide_eq_false fun hab => hl (by rw [hab])).symm
  · simp only [bne_eq_false_iff_eq, Int.natCast_inj] at hl
    exact eq_loop a b hl h
theorem sound_slicesEqual : Sound Try.prog 57 s_equalInts :=
  Sound.mkS tabOK envNil mixed Try.func57 (by kernel_rfl) (by kernel_rfl) fun x h => p_slicesEqual x.1 x.2.1 h
end Go.Proofs.Ytingphpncocimaa
