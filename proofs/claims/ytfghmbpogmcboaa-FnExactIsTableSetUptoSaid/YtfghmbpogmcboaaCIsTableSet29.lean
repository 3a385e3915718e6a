/-
  Part 30 of the proof that the statement FnExactIsTableSet holds.
-/
import Derived.Test.YtfghmbpogmcboaaCIsTableSet28
import Derived.KernelRfl
namespace Go.Proofs.Ytfghmbpogmcboaa
open Go.RowKit

def m_inRange (x a b : Int) : Bool := decide (a ≤ x ∧ x ≤ b)
def m_isPoint (n x : Int) : Bool := decide (0 ≤ x ∧ x ≤ IntKind.i64.wrap (n - 1))
def m_equalInts (a b : List Int) : Bool := decide (a = b)
def m_containsInt (xs : List Int) (x : Int) : Bool := decide (x ∈ xs)
def short (xs : List Int) : Prop := xs.length ≤ 4294967296
noncomputable abbrev s_inRange : Spec := mkS (.pair tI (.pair tI (.pair tI .unit))) .bool false true (fun _ => True) (fun x => m_inRange x.1 x.2.1 x.2.2.1)
noncomputable abbrev s_isPoint : Spec := mkS (.pair tI (.pair tI .unit)) .bool false true (fun _ => True) (fun x => m_isPoint x.1 x.2.1)
noncomputable abbrev s_equalInts : Spec := mkS (.pair tL (.pair tL .unit)) .bool false true (fun x => short x.1) (fun x => m_equalInts x.1 x.2.1)
noncomputable abbrev s_containsInt : Spec := mkS (.pair tL (.pair tI .unit)) .bool false true (fun x => short x.1) (fun x => m_containsInt x.1 x.2.1)
theorem w_inRange (x a b : Int) (P : Bool → Prop) : (Br (decide (x ≥ a)) (P (decide (x ≤ b))) (P false)) = fnW tab (look []) s_inRange Try.f57 (x, a, b, ()) P := by kernel_rfl
theorem w_within (x a b : Int) (P : Bool → Prop) : (Br (decide (x ≥ a)) (P (decide (x ≤ b))) (P false)) = fnW tab (look []) s_inRange Try.f61 (x, a, b, ()) P := by kernel_rfl
theorem w_isPoint (n x : Int) (P : Bool → Prop) : (∃ (y3 : Bool), s_inRange.fn (x, 0, IntKind.i64.wrap (n - 1), ()) = some y3 ∧ P y3) = fnW tab (look [(61, s_inRange)]) s_isPoint Try.f119 (n, x, ()) P := by kernel_rfl
theorem w_equalInts (a b : List Int) (P : Bool → Prop) : (Br ((↑a.length : Int) != (↑b.length : Int)) (P false)
  (WLoop
    (fun (v3 : Int × PUnit) (k4 : Int × PUnit → Prop) =>
      Br (decide (v3.fst < (↑a.length : Int))) (∃ (y5 : Int), idx a v3.fst = some y5 ∧ ∃ (y6 : Int), idx b v3.fst = some y6 ∧ Br (y5 != y6) (P false) (k4 (IntKind.i64.wrap (v3.fst + 1), ())))
        (P true))
    (0, PUnit.unit))) = fnW tab (look []) s_equalInts Try.f90 (a, b, ()) P := by kernel_rfl
theorem w_slicesEqual (a b : List Int) (P : Bool → Prop) : (Br ((↑a.length : Int) != (↑b.length : Int)) (P false)
  (WLoop
    (fun (v3 : Int × PUnit) (k4 : Int × PUnit → Prop) =>
      Br (decide (v3.fst < (↑a.length : Int))) (∃ (y5 : Int), idx a v3.fst = some y5 ∧ ∃ (y6 : Int), idx b v3.fst = some y6 ∧ Br (y5 != y6) (P false) (k4 (IntKind.i64.wrap (v3.fst + 1), ())))
        (P true))
    (0, PUnit.unit))) = fnW tab (look []) s_equalInts Try.f93 (a, b, ()) P := by kernel_rfl
theorem w_containsInt (xs : List Int) (x : Int) (P : Bool → Prop) : (WLoop
  (fun (v3 : Int × PUnit) (k4 : Int × PUnit → Prop) =>
    Br (decide (v3.fst < (↑xs.length : Int))) (∃ (y5 : Int), idx xs v3.fst = some y5 ∧ Br (y5 == x) (P true) (k4 (IntKind.i64.wrap (v3.fst + 1), ()))) (P false))
  (0, PUnit.unit)) = fnW tab (look []) s_containsInt Try.f131 (xs, x, ()) P := by kernel_rfl
theorem p_inRange (x a b : Int) (_ : True) : fnW tab (look []) s_inRange Try.f57 (x, a, b, ()) (fun (z : Bool) => z = m_inRange x a b) := by
  refine Eq.mp (w_inRange x a b _) ?_
  refine Br.dec (fun h => ?_) fun h => ?_
  · have h : a ≤ x := h
    simp [m_inRange, h]
  · exact (decide_eq_false fun hh => h hh.1).symm
theorem sound_inRange : Sound Try.prog 57 s_inRange :=
  Sound.mkS tabOK envNil mixed Try.func57 (by kernel_rfl) (by kernel_rfl) fun x h => p_inRange x.1 x.2.1 x.2.2.1 h
theorem p_within (x a b : Int) (_ : True) : fnW tab (look []) s_inRange Try.f61 (x, a, b, ()) (fun (z : Bool) => z = m_inRange x a b) := by
  refine Eq.mp (w_within x a b _) ?_
  refine Br.dec (fun h => ?_) fun h => ?_
  · have h : a ≤ x := h
    simp [m_inRange, h]
  · exact (decide_eq_false fun hh => h hh.1).symm
theorem sound_within : Sound Try.prog 61 s_inRange :=
  Sound.mkS tabOK envNil mixed Try.func61 (by kernel_rfl) (by kernel_rfl) fun x h => p_within x.1 x.2.1 x.2.2.1 h
theorem p_isPoint (n x : Int) (_ : True) : fnW tab (look [(61, s_inRange)]) s_isPoint Try.f119 (n, x, ()) (fun (z : Bool) => z = m_isPoint n x) :=
  Eq.mp (w_isPoint n x _) ⟨_, if_pos trivial, rfl⟩
theorem sound_isPoint : Sound Try.prog 119 s_isPoint :=
  Sound.mkS tabOK (envCons sound_within envNil) mixed Try.func119 (by kernel_rfl) (by kernel_rfl) fun x h => p_isPoint x.1 x.2.1 h
theorem p_containsInt (xs : List Int) (x : Int) (h : short xs) : fnW tab (look []) s_containsInt Try.f131 (xs, x, ()) (fun (z : Bool) => z = m_containsInt xs x) := by
  refine Eq.mp (w_containsInt xs x _) ?_
  unfold short at h
  refine loop_range xs.length (fun v => v.1) (fun j _ => x ∉ xs.take j) rfl (by simp) ?_
  rintro j ⟨i, ⟨⟩⟩ K hj hi hR hK
  dsimp only at hi ⊢
  subst hi
  refine Br.dec (fun hl => ?_) fun hl => ?_
  · have hl : j < xs.length := by omega
    refine ⟨_, idx_nat hl, ⟨fun he => ?_, fun he => ?_⟩⟩
    · have hm := List.getElem_mem hl
      simp only [beq_iff_eq] at he
      rw [he] at hm
      exact (decide_eq_true hm).symm
    · rw [wrap_nat (by omega)]
      refine hK hl _ rfl ?_
      simp only [beq_eq_false_iff_ne, ne_eq] at he
      rw [List.take_succ_eq_append_getElem hl]
      simp only [List.mem_append, List.mem_singleton, not_or]
      exact ⟨hR, fun hx => he hx.symm⟩
  · have : j = xs.length := by omega
    subst this
    rw [List.take_length] at hR
    exact (decide_eq_false hR).symm
theorem sound_containsInt : Sound Try.prog 131 s_containsInt :=
  Sound.mkS tabOK envNil mixed Try.func131 (by kernel_rfl) (by kernel_rfl) fun x h => p_containsInt x.1 x.2.1 h
theorem eq_loop (a b : List Int) (hlen : a.length = b.length) (h : short a) :
    WLoop (fun (v3 : Int × PUnit) (k4 : Int × PUnit → Prop) =>
      Br (decide (v3.fst < (↑a.length : Int))) (∃ (y5 : Int), idx a v3.fst = some y5 ∧ ∃ (y6 : Int), idx b v3.fst = some y6 ∧ Br (y5 != y6) (false = m_equalInts a b) (k4 (IntKind.i64.wrap (v3.fst + 1), ())))
        (true = m_equalInts a b))
    (0, PUnit.unit) := by
  unfold short at h
  refine loop_range a.length (fun v => v.1) (fun j _ => a.take j = b.take j) rfl (by simp) ?_
  rintro j ⟨i, ⟨⟩⟩ K hj hi hR hK
  dsimp only at hi ⊢
  subst hi
  refine Br.dec (fun hl => ?_) fun hl => ?_
  · have hl1 : j < a.length := by omega
    have hl2 : j < b.length := by omega
    refine ⟨_, idx_nat hl1, _, idx_nat hl2, ⟨fun he => ?_, fun he => ?_⟩⟩
    · simp only [bne_iff_ne, ne_eq] at he
      refine (decide_eq_false fun hab => he ?_).symm
      subst hab
      rfl
    · rw [wrap_nat (by omega)]
      refine hK hl1 _ rfl ?_
      simp only [bne_eq_false_iff_eq] at he
      rw [List.take_succ_eq_append_getElem hl1, List.take_succ_eq_append_getElem hl2, hR, he]
  · have hj' : j = a.length := by omega
    subst hj'
    rw [List.take_length, hlen, List.take_length] at hR
    exact (decide_eq_true hR).symm
theorem p_equalInts (a b : List Int) (h : short a) : fnW tab (look []) s_equalInts Try.f90 (a, b, ()) (fun (z : Bool) => z = m_equalInts a b) := by
  refine Eq.mp (w_equalInts a b _) ⟨fun hl => ?_, fun hl => ?_⟩
  · simp only [bne_iff_ne, ne_eq, Int.natCast_inj] at hl
    exact (decide_eq_false fun hab => hl (by rw [hab])).symm
  · simp only [bne_eq_false_iff_eq, Int.natCast_inj] at hl
    exact eq_loop a b hl h
theorem sound_equalInts : Sound Try.prog 90 s_equalInts :=
  Sound.mkS tabOK envNil mixed Try.func90 (by kernel_rfl) (by kernel_rfl) fun x h => p_equalInts x.1 x.2.1 h
theorem p_slicesEqual (a b : List Int) (h : short a) : fnW tab (look []) s_equalInts Try.f93 (a, b, ()) (fun (z : Bool) => z = m_equalInts a b) := by
  refine Eq.mp (w_slicesEqual a b _) ⟨fun hl => ?_, fun hl => ?_⟩
  · simp only [bne_iff_ne, ne_eq, Int.natCast_inj] at hl
    exact (decide_eq_false fun hab => hl (by rw [hab])).symm
  · simp only [bne_eq_false_iff_eq, Int.natCast_inj] at hl
    exact eq_loop a b hl h
theorem sound_slicesEqual : Sound Try.prog 93 s_equalInts :=
  Sound.mkS tabOK envNil mixed Try.func93 (by kernel_rfl) (by kernel_rfl) fun x h => p_slicesEqual x.1 x.2.1 h
end Go.Proofs.Ytfghmbpogmcboaa

namespace Go.Proofs.Ytfghmbpogmcboaa
open Go.RowKit

abbrev TT : Type := List Int × List (List Int) × List Int × Unit
def shortLL (xs : List (List Int)) : Prop := xs.length ≤ 4294967296 ∧ ∀ r ∈ xs, short r
def shortT (t : TT) : Prop := short t.1 ∧ shortLL t.2.1 ∧ short t.2.2.1
def roomy (room : Int) : Prop := 0 ≤ room ∧ room ≤ 4294967296
def m_sz (n : Nat) (room : Int) : Int := if room - n < 0 then -1 else room - n
def m_szL (xs : List Int) (room : Int) : Int := m_sz xs.length room
def szGo : List (List Int) → Int → Int
  | [], room => room
  | r :: rs, room => if m_szL r room < 0 then -1 else szGo rs (m_szL r room)
def m_szLL (xs : List (List Int)) (room : Int) : Int := if m_sz xs.length room < 0 then -1 else szGo xs (m_sz xs.length room)
def m_szTable (t : TT) (room : Int) : Int :=
  if m_szL t.1 room < 0 then -1 else if m_szLL t.2.1 (m_szL t.1 room) < 0 then -1 else
  if m_szL t.2.2.1 (m_szLL t.2.1 (m_szL t.1 room)) < 0 then -1 else m_szL t.2.2.1 (m_szLL t.2.1 (m_szL t.1 room))
def m_eqLL (a b : List (List Int)) : Bool := decide (a = b)
def m_eqT (a b : TT) : Bool := decide (a.1 = b.1) && (decide (a.2.1 = b.2.1) && decide (a.2.2.1 = b.2.2.1))
noncomputable abbrev s_szL : Spec := mkS (.pair tL (.pair tI .unit)) tI false true (fun x => short x.1 ∧ roomy x.2.1) (fun x => m_szL x.1 x.2.1)
noncomputable abbrev s_szLL : Spec := mkS (.pair tLL (.pair tI .unit)) tI false true (fun x => shortLL x.1 ∧ roomy x.2.1) (fun x => m_szLL x.1 x.2.1)
noncomputable abbrev s_szTable : Spec := mkS (.pair tTable (.pair tI .unit)) tI false true (fun x => shortT x.1 ∧ roomy x.2.1) (fun x => m_szTable x.1 x.2.1)
noncomputable abbrev s_toL : Spec := mkS (.pair tL .unit) tL false true (fun x => short x.1) (fun x => x.1)
noncomputable abbrev s_toLL : Spec := mkS (.pair tLL .unit) tLL false true (fun x => shortLL x.1) (fun x => x.1)
noncomputable abbrev s_toTable : Spec := mkS (.pair tTable .unit) tTable false true (fun x => shortT x.1) (fun x => x.1)
noncomputable abbrev s_eqLL : Spec := mkS (.pair tLL (.pair tLL .unit)) .bool false true (fun x => shortLL x.1) (fun x => m_eqLL x.1 x.2.1)
noncomputable abbrev s_eqTable : Spec := mkS (.pair tTable (.pair tTable .unit)) .bool false true (fun x => shortT x.1) (fun x => m_eqT x.1 x.2.1)
theorem w_szL (xs : List Int) (room : Int) (P : Int → Prop) : (Br (decide (IntKind.i64.wrap (room - (↑xs.length : Int)) < 0)) (P (-1)) (P (IntKind.i64.wrap (room - (↑xs.length : Int))))) = fnW tab (look []) s_szL Try.f66 (xs, room, ()) P := by kernel_rfl
theorem w_szLL (xs : List (List Int)) (room : Int) (P : Int → Prop) : (Br (decide (IntKind.i64.wrap (room - (↑xs.length : Int)) < 0)) (P (-1))
  (WLoop
    (fun (v3 : Int × Int × PUnit) (k4 : Int × Int × PUnit → Prop) =>
      Br (decide (v3.2.fst < (↑xs.length : Int)))
        (∃ (y5 : List Int), idx xs v3.2.fst = some y5 ∧ ∃ (y6 : Int), s_szL.fn (y5, v3.fst, ()) = some y6 ∧ Br (decide (y6 < 0)) (P (-1)) (k4 (y6, IntKind.i64.wrap (v3.2.fst + 1), ()))) (P v3.fst))
    (IntKind.i64.wrap (room - (↑xs.length : Int)), 0, PUnit.unit))) = fnW tab (look [(66, s_szL)]) s_szLL Try.f55 (xs, room, ()) P := by kernel_rfl
theorem w_szTable (t : List Int × List (List Int) × List Int × Unit) (room : Int) (P : Int → Prop) : (∃ (y3 : Int),
  s_szL.fn (t.fst, room, ()) = some y3 ∧
    Br (decide (y3 < 0)) (P (-1))
      (∃ (y4 : Int), s_szLL.fn (t.2.fst, y3, ()) = some y4 ∧ Br (decide (y4 < 0)) (P (-1)) (∃ (y5 : Int), s_szL.fn (t.snd.2.fst, y4, ()) = some y5 ∧ Br (decide (y5 < 0)) (P (-1)) (P y5)))) = fnW tab (look [(66, s_szL), (55, s_szLL)]) s_szTable Try.f23 (t, room, ()) P := by kernel_rfl
theorem w_toL (xs : List Int) (P : List Int → Prop) : ((0 ≤ (↑xs.length : Int) ∧ (↑xs.length : Int) < (↑maxRow : Int) + 1) ∧
  (↑xs.length : Int) = (↑xs.length : Int) ∧
    0 = 0 ∧
      (List.replicate (↑xs.length : Int).toNat (Int.ofNat 0)).length = (List.replicate (↑xs.length : Int).toNat (Int.ofNat 0)).length ∧
        WLoop
          (fun (v2 : Int × List Int × PUnit) (k3 : Int × List Int × PUnit → Prop) =>
            Br (decide (v2.fst < (↑xs.length : Int)))
              (∃ (y4 : Int),
                idx xs v2.fst = some y4 ∧
                  (0 ≤ v2.fst ∧ v2.fst < (↑v2.2.fst.length : Int)) ∧
                    0 + v2.fst.toNat < v2.2.fst.length ∧
                      0 = 0 ∧ v2.2.fst.length = (v2.2.fst.set (0 + v2.fst.toNat) y4).length ∧ k3 (IntKind.i64.wrap (v2.fst + 1), v2.2.fst.set (0 + v2.fst.toNat) y4, ()))
              (P (List.take v2.2.fst.length (List.drop 0 v2.2.fst))))
          (0, List.replicate (↑xs.length : Int).toNat (Int.ofNat 0), PUnit.unit)) = fnW tab (look []) s_toL Try.f26 (xs, ()) P := by kernel_rfl
theorem w_toLL (xs : List (List Int)) (P : List (List Int) → Prop) : ((0 ≤ (↑xs.length : Int) ∧ (↑xs.length : Int) < (↑maxRow : Int) + 1) ∧
  (↑xs.length : Int) = (↑xs.length : Int) ∧
    0 = 0 ∧
      (List.replicate (↑xs.length : Int).toNat ([] : List Int)).length = (List.replicate (↑xs.length : Int).toNat ([] : List Int)).length ∧
        WLoop
          (fun (v2 : Int × List (List Int) × PUnit) (k3 : Int × List (List Int) × PUnit → Prop) =>
            Br (decide (v2.fst < (↑xs.length : Int)))
              (∃ (y4 : List Int),
                idx xs v2.fst = some y4 ∧
                  ∃ (y5 : List Int),
                    s_toL.fn (y4, ()) = some y5 ∧
                      (0 ≤ v2.fst ∧ v2.fst < (↑v2.2.fst.length : Int)) ∧
                        0 + v2.fst.toNat < v2.2.fst.length ∧
                          0 = 0 ∧ v2.2.fst.length = (v2.2.fst.set (0 + v2.fst.toNat) y5).length ∧ k3 (IntKind.i64.wrap (v2.fst + 1), v2.2.fst.set (0 + v2.fst.toNat) y5, ()))
              (P (List.take v2.2.fst.length (List.drop 0 v2.2.fst))))
          (0, List.replicate (↑xs.length : Int).toNat ([] : List Int), PUnit.unit)) = fnW tab (look [(26, s_toL)]) s_toLL Try.f59 (xs, ()) P := by kernel_rfl
theorem w_toTable (t : List Int × List (List Int) × List Int × Unit) (P : (List Int × List (List Int) × List Int × Unit) → Prop) : (∃ (y2 : List Int), s_toL.fn (t.fst, ()) = some y2 ∧ ∃ (y3 : List (List Int)), s_toLL.fn (t.2.fst, ()) = some y3 ∧ ∃ (y4 : List Int), s_toL.fn (t.snd.2.fst, ()) = some y4 ∧ P (y2, y3, y4, ())) = fnW tab (look [(26, s_toL), (59, s_toLL)]) s_toTable Try.f25 (t, ()) P := by kernel_rfl
theorem w_eqL (a b : List Int) (P : Bool → Prop) : (Br ((↑a.length : Int) != (↑b.length : Int)) (P false)
  (WLoop
    (fun (v3 : Int × PUnit) (k4 : Int × PUnit → Prop) =>
      Br (decide (v3.fst < (↑a.length : Int))) (∃ (y5 : Int), idx a v3.fst = some y5 ∧ ∃ (y6 : Int), idx b v3.fst = some y6 ∧ Br (y5 != y6) (P false) (k4 (IntKind.i64.wrap (v3.fst + 1), ())))
        (P true))
    (0, PUnit.unit))) = fnW tab (look []) s_equalInts Try.f18 (a, b, ()) P := by kernel_rfl
theorem w_eqLL (a b : List (List Int)) (P : Bool → Prop) : (Br ((↑a.length : Int) != (↑b.length : Int)) (P false)
  (WLoop
    (fun (v3 : Int × PUnit) (k4 : Int × PUnit → Prop) =>
      Br (decide (v3.fst < (↑a.length : Int)))
        (∃ (y5 : List Int),
          idx a v3.fst = some y5 ∧ ∃ (y6 : List Int), idx b v3.fst = some y6 ∧ ∃ (y7 : Bool), s_equalInts.fn (y5, y6, ()) = some y7 ∧ Br (!y7) (P false) (k4 (IntKind.i64.wrap (v3.fst + 1), ())))
        (P true))
    (0, PUnit.unit))) = fnW tab (look [(18, s_equalInts)]) s_eqLL Try.f35 (a, b, ()) P := by kernel_rfl
theorem w_eqTable (a b : List Int × List (List Int) × List Int × Unit) (P : Bool → Prop) : (∃ (y3 : Bool),
  s_equalInts.fn (a.fst, b.fst, ()) = some y3 ∧
    Br (!y3) (P false)
      (∃ (y4 : Bool), s_eqLL.fn (a.2.fst, b.2.fst, ()) = some y4 ∧ Br (!y4) (P false) (∃ (y5 : Bool), s_equalInts.fn (a.snd.2.fst, b.snd.2.fst, ()) = some y5 ∧ Br (!y5) (P false) (P true)))) = fnW tab (look [(18, s_equalInts), (35, s_eqLL)]) s_eqTable Try.f28 (a, b, ()) P := by kernel_rfl
theorem m_sz_room {n : Nat} {room : Int} (h : roomy room) (h2 : ¬ m_sz n room < 0) : roomy (m_sz n room) := by
  unfold m_sz roomy at *
  split at h2 <;> simp_all
  omega
theorem p_szL (xs : List Int) (room : Int) (h : short xs ∧ roomy room) : fnW tab (look []) s_szL Try.f66 (xs, room, ()) (fun (z : Int) => z = m_szL xs room) := by
  obtain ⟨h1, h2, h3⟩ := h
  unfold short at h1
  refine Eq.mp (w_szL xs room _) ?_
  rw [wrap_id (by omega) (by omega)]
  refine Br.dec (fun h => ?_) fun h => ?_
  · simp only [m_szL, m_sz, if_pos h]
  · simp only [m_szL, m_sz, if_neg h]
theorem sound_szL : Sound Try.prog 66 s_szL :=
  Sound.mkS tabOK envNil mixed Try.func66 (by kernel_rfl) (by kernel_rfl) fun x h => p_szL x.1 x.2.1 h
theorem p_szLL (xs : List (List Int)) (room : Int) (h : shortLL xs ∧ roomy room) : fnW tab (look [(66, s_szL)]) s_szLL Try.f55 (xs, room, ()) (fun (z : Int) => z = m_szLL xs room) := by
  obtain ⟨⟨h1, h4⟩, h2, h3⟩ := h
  refine Eq.mp (w_szLL xs room _) ?_
  rw [wrap_id (by omega) (by omega)]
  refine Br.dec (fun h => ?_) fun h => ?_
  · simp only [m_szLL, m_sz, if_pos h]; rfl
  · refine loop_range xs.length (fun v => v.2.1) (fun j v => roomy v.1 ∧ szGo (xs.drop j) v.1 = m_szLL xs room) rfl ?_ ?_
    · refine ⟨by unfold roomy; omega, ?_⟩
      simp only [m_szLL, m_sz, if_neg h, List.drop_zero]
    · rintro j ⟨r, i, ⟨⟩⟩ K hj hi ⟨hr, hR⟩ hK
      dsimp only at hi hr hR ⊢
      subst hi
      refine Br.dec (fun hl => ?_) fun hl => ?_
      · have hl : j < xs.length := by omega
        have hd : xs.drop j = xs[j] :: xs.drop (j + 1) := List.drop_eq_getElem_cons hl
        refine ⟨_, idx_nat hl, _, if_pos ⟨h4 _ (List.getElem_mem hl), hr⟩, ?_⟩
        rw [hd] at hR
        simp only [szGo] at hR
        refine Br.dec (fun hn => ?_) fun hn => ?_
        · have hn : m_szL xs[j] r < 0 := hn
          rw [if_pos hn] at hR
          exact hR
        · have hn : ¬ m_szL xs[j] r < 0 := hn
          rw [if_neg hn] at hR
          rw [wrap_nat (by omega)]
          exact hK hl _ rfl ⟨m_sz_room hr hn, hR⟩
      · have : j = xs.length := by omega
        subst this
        rw [List.drop_length] at hR
        exact hR
theorem sound_szLL : Sound Try.prog 55 s_szLL :=
  Sound.mkS tabOK (envCons sound_szL envNil) mixed Try.func55 (by kernel_rfl) (by kernel_rfl) fun x h => p_szLL x.1 x.2.1 h
theorem szGo_room : ∀ (xs : List (List Int)) (room : Int), roomy room → ¬ szGo xs room < 0 → roomy (szGo xs room)
  | [], room, h, _ => h
  | r :: rs, room, h, h2 => by
    simp only [szGo] at h2 ⊢
    split
    · rename_i hn; rw [if_pos hn] at h2; exact absurd (show (-1 : Int) < 0 by decide) h2
    · rename_i hn; rw [if_neg hn] at h2; exact szGo_room rs _ (m_sz_room h hn) h2
theorem m_szLL_room {xs : List (List Int)} {room : Int} (h : roomy room) (h2 : ¬ m_szLL xs room < 0) : roomy (m_szLL xs room) := by
  unfold m_szLL at *
  split
  · rename_i hn; rw [if_pos hn] at h2; exact absurd (show (-1 : Int) < 0 by decide) h2
  · rename_i hn; rw [if_neg hn] at h2; exact szGo_room _ _ (m_sz_room h hn) h2
theorem p_szTable (t : TT) (room : Int) (h : shortT t ∧ roomy room) : fnW tab (look [(66, s_szL), (55, s_szLL)]) s_szTable Try.f23 (t, room, ()) (fun (z : Int) => z = m_szTable t room) := by
  obtain ⟨⟨h1, h2, h3⟩, hr⟩ := h
  refine Eq.mp (w_szTable t room _) ?_
  refine ⟨_, if_pos ⟨h1, hr⟩, Br.dec (fun hn => ?_) fun hn => ?_⟩
  · exact (if_pos hn).symm
  · have r1 := m_sz_room hr hn
    refine ⟨_, if_pos ⟨h2, r1⟩, Br.dec (fun hm => ?_) fun hm => ?_⟩
    · exact ((if_neg hn).trans (if_pos hm)).symm
    · have r2 := m_szLL_room r1 hm
      refine ⟨_, if_pos ⟨h3, r2⟩, Br.dec (fun hk => ?_) fun hk => ?_⟩
      · exact ((if_neg hn).trans ((if_neg hm).trans (if_pos hk))).symm
      · exact ((if_neg hn).trans ((if_neg hm).trans (if_neg hk))).symm
theorem sound_szTable : Sound Try.prog 23 s_szTable :=
  Sound.mkS tabOK (envCons sound_szL (envCons sound_szLL envNil)) mixed Try.func23 (by kernel_rfl) (by kernel_rfl) fun x h => p_szTable x.1 x.2.1 h
theorem take_set_succ {α : Type} {ys xs : List α} {j : Nat} (h : j < xs.length) (hl : ys.length = xs.length) (ht : ys.take j = xs.take j) : (ys.set j xs[j]).take (j + 1) = xs.take (j + 1) := by
  have h1 : j < (ys.set j xs[j]).length := by rw [List.length_set]; omega
  rw [List.take_succ_eq_append_getElem h1, List.take_succ_eq_append_getElem h, List.getElem_set_self, List.take_set_of_le (Nat.le_refl j), ht]
theorem p_toL (xs : List Int) (h : short xs) : fnW tab (look []) s_toL Try.f26 (xs, ()) (fun (z : List Int) => z = xs) := by
  unfold short at h
  refine Eq.mp (w_toL xs _) ?_
  refine ⟨⟨by omega, by show (xs.length : Int) < (4294967296 : Int) + 1; omega⟩, rfl, rfl, rfl, ?_⟩
  refine loop_range xs.length (fun v => v.1) (fun j v => v.2.1.length = xs.length ∧ v.2.1.take j = xs.take j) rfl ⟨by simp, by simp⟩ ?_
  rintro j ⟨i, ys, ⟨⟩⟩ K hj hi ⟨h1, h2⟩ hK
  dsimp only at hi h1 h2 ⊢
  subst hi
  refine Br.dec (fun hl => ?_) fun hl => ?_
  · have hl : j < xs.length := by omega
    refine ⟨_, idx_nat hl, ⟨by omega, by omega⟩, by rw [Int.toNat_natCast]; omega, rfl, by rw [List.length_set], ?_⟩
    rw [wrap_nat (by omega), Int.toNat_natCast, Nat.zero_add]
    exact hK hl _ rfl ⟨by rw [List.length_set]; exact h1, take_set_succ hl h1 h2⟩
  · have : j = xs.length := by omega
    subst this
    rw [List.take_length, ← h1, List.take_length] at h2
    rw [List.drop_zero, List.take_length]
    exact h2
theorem sound_toL : Sound Try.prog 26 s_toL :=
  Sound.mkS tabOK envNil mixed Try.func26 (by kernel_rfl) (by kernel_rfl) fun x h => p_toL x.1 h
theorem p_toLL (xs : List (List Int)) (h : shortLL xs) : fnW tab (look [(26, s_toL)]) s_toLL Try.f59 (xs, ()) (fun (z : List (List Int)) => z = xs) := by
  obtain ⟨h, h4⟩ := h
  refine Eq.mp (w_toLL xs _) ?_
  refine ⟨⟨by omega, by show (xs.length : Int) < (4294967296 : Int) + 1; omega⟩, rfl, rfl, rfl, ?_⟩
  refine loop_range xs.length (fun v => v.1) (fun j v => v.2.1.length = xs.length ∧ v.2.1.take j = xs.take j) rfl ⟨by simp, by simp⟩ ?_
  rintro j ⟨i, ys, ⟨⟩⟩ K hj hi ⟨h1, h2⟩ hK
  dsimp only at hi h1 h2 ⊢
  subst hi
  refine Br.dec (fun hl => ?_) fun hl => ?_
  · have hl : j < xs.length := by omega
    refine ⟨_, idx_nat hl, _, if_pos (h4 _ (List.getElem_mem hl)), ⟨by omega, by omega⟩, by rw [Int.toNat_natCast]; omega, rfl, by rw [List.length_set], ?_⟩
    rw [wrap_nat (by omega), Int.toNat_natCast, Nat.zero_add]
    exact hK hl _ rfl ⟨by rw [List.length_set]; exact h1, take_set_succ hl h1 h2⟩
  · have : j = xs.length := by omega
    subst this
    rw [List.take_length, ← h1, List.take_length] at h2
    rw [List.drop_zero, List.take_length]
    exact h2
theorem sound_toLL : Sound Try.prog 59 s_toLL :=
  Sound.mkS tabOK (envCons sound_toL envNil) mixed Try.func59 (by kernel_rfl) (by kernel_rfl) fun x h => p_toLL x.1 h
theorem p_toTable (t : TT) (h : shortT t) : fnW tab (look [(26, s_toL), (59, s_toLL)]) s_toTable Try.f25 (t, ()) (fun (z : TT) => z = t) := by
  refine Eq.mp (w_toTable t _) ?_
  exact ⟨_, if_pos h.1, _, if_pos h.2.1, _, if_pos h.2.2, rfl⟩
theorem sound_toTable : Sound Try.prog 25 s_toTable :=
  Sound.mkS tabOK (envCons sound_toL (envCons sound_toLL envNil)) mixed Try.func25 (by kernel_rfl) (by kernel_rfl) fun x h => p_toTable x.1 h
theorem p_eqL (a b : List Int) (h : short a) : fnW tab (look []) s_equalInts Try.f18 (a, b, ()) (fun (z : Bool) => z = m_equalInts a b) := by
  refine Eq.mp (w_eqL a b _) ⟨fun hl => ?_, fun hl => ?_⟩
  · simp only [bne_iff_ne, ne_eq, Int.natCast_inj] at hl
    exact (decide_eq_false fun hab => hl (by rw [hab])).symm
  · simp only [bne_eq_false_iff_eq, Int.natCast_inj] at hl
    exact eq_loop a b hl h
theorem sound_eqL : Sound Try.prog 18 s_equalInts :=
  Sound.mkS tabOK envNil mixed Try.func18 (by kernel_rfl) (by kernel_rfl) fun x h => p_eqL x.1 x.2.1 h
theorem p_eqLL (a b : List (List Int)) (h : shortLL a) : fnW tab (look [(18, s_equalInts)]) s_eqLL Try.f35 (a, b, ()) (fun (z : Bool) => z = m_eqLL a b) := by
  obtain ⟨h, h4⟩ := h
  refine Eq.mp (w_eqLL a b _) ⟨fun hl => ?_, fun hl => ?_⟩
  · simp only [bne_iff_ne, ne_eq, Int.natCast_inj] at hl
    exact (decide_eq_false fun hab => hl (by rw [hab])).symm
  · simp only [bne_eq_false_iff_eq, Int.natCast_inj] at hl
    refine loop_range a.length (fun v => v.1) (fun j _ => a.take j = b.take j) rfl (by simp) ?_
    rintro j ⟨i, ⟨⟩⟩ K hj hi hR hK
    dsimp only at hi ⊢
    subst hi
    refine Br.dec (fun hlt => ?_) fun hlt => ?_
    · have hl1 : j < a.length := by omega
      have hl2 : j < b.length := by omega
      refine ⟨_, idx_nat hl1, _, idx_nat hl2, _, if_pos (h4 _ (List.getElem_mem hl1)), ⟨fun he => ?_, fun he => ?_⟩⟩
      · refine (decide_eq_false fun hab => ?_).symm
        subst hab
        simp [m_equalInts] at he
      · rw [wrap_nat (by omega)]
        refine hK hl1 _ rfl ?_
        simp only [m_equalInts, Bool.not_eq_false', decide_eq_true_eq] at he
        rw [List.take_succ_eq_append_getElem hl1, List.take_succ_eq_append_getElem hl2, hR]
        exact congrArg (fun x => List.take j b ++ [x]) he
    · have hj' : j = a.length := by omega
      subst hj'
      rw [List.take_length, hl, List.take_length] at hR
      exact (decide_eq_true hR).symm
theorem sound_eqLL : Sound Try.prog 35 s_eqLL :=
  Sound.mkS tabOK (envCons sound_eqL envNil) mixed Try.func35 (by kernel_rfl) (by kernel_rfl) fun x h => p_eqLL x.1 x.2.1 h
theorem p_eqTable (a b : TT) (h : shortT a) : fnW tab (look [(18, s_equalInts), (35, s_eqLL)]) s_eqTable Try.f28 (a, b, ()) (fun (z : Bool) => z = m_eqT a b) := by
  refine Eq.mp (w_eqTable a b _) ?_
  refine ⟨_, if_pos h.1, ⟨fun h1 => ?_, fun h1 => ?_⟩⟩
  · have h1 : (!m_equalInts a.1 b.1) = true := h1
    simp only [m_equalInts] at h1
    unfold m_eqT
    cases hd : decide (a.1 = b.1) <;> simp_all
  · have h1 : (!m_equalInts a.1 b.1) = false := h1
    simp only [m_equalInts] at h1
    refine ⟨_, if_pos h.2.1, ⟨fun h2 => ?_, fun h2 => ?_⟩⟩
    · have h2 : (!m_eqLL a.2.1 b.2.1) = true := h2
      simp only [m_eqLL] at h2
      unfold m_eqT
      cases hd : decide (a.2.1 = b.2.1) <;> simp_all
    · have h2 : (!m_eqLL a.2.1 b.2.1) = false := h2
      simp only [m_eqLL] at h2
      refine ⟨_, if_pos h.2.2, ⟨fun h3 => ?_, fun h3 => ?_⟩⟩
      · have h3 : (!m_equalInts a.2.2.1 b.2.2.1) = true := h3
        simp only [m_equalInts] at h3
        unfold m_eqT
        cases hd : decide (a.2.2.1 = b.2.2.1) <;> simp_all
      · have h3 : (!m_equalInts a.2.2.1 b.2.2.1) = false := h3
        simp only [m_equalInts] at h3
        unfold m_eqT
        simp_all
theorem sound_eqTable : Sound Try.prog 28 s_eqTable :=
  Sound.mkS tabOK (envCons sound_eqL (envCons sound_eqLL envNil)) mixed Try.func28 (by kernel_rfl) (by kernel_rfl) fun x h => p_eqTable x.1 x.2.1 h
end Go.Proofs.Ytfghmbpogmcboaa

namespace Go.Proofs.Ytfghmbpogmcboaa
open Go.RowKit

def PL (n : Int) (xs : List Int) (k : Nat) : Prop := ∀ j (h : j < xs.length), j < k → 0 ≤ xs[j] ∧ xs[j] ≤ n - 1 ∧ (0 < j → xs[j - 1] < xs[j])
def DL (n : Int) (xs : List Int) (k : Nat) : Prop := ∀ j (h : j < xs.length), j < k → 0 ≤ xs[j] ∧ xs[j] ≤ n - 1 ∧ xs[j] ∉ xs.take j
noncomputable def dec (p : Prop) : Bool := @decide p (Classical.propDecidable p)
theorem dec_true {p : Prop} (h : p) : true = dec p := (@decide_eq_true p (Classical.propDecidable p) h).symm
theorem dec_false {p : Prop} (h : ¬ p) : false = dec p := (@decide_eq_false p (Classical.propDecidable p) h).symm
theorem dec_iff {p : Prop} : dec p = true ↔ p := @decide_eq_true_iff p (Classical.propDecidable p)
theorem dec_not {p : Prop} : dec p = false ↔ ¬ p := @decide_eq_false_iff_not p (Classical.propDecidable p)
def nOK (n : Int) : Prop := 0 ≤ n ∧ n ≤ 4294967296
noncomputable def m_pointList (n : Int) (xs : List Int) : Bool := dec (0 < xs.length ∧ PL n xs xs.length)
noncomputable abbrev s_pointList : Spec := mkS (.pair tI (.pair tL .unit)) .bool false true (fun x => nOK x.1 ∧ short x.2.1) (fun x => m_pointList x.1 x.2.1)
theorem w_isPointList (n : Int) (xs : List Int) (P : Bool → Prop) : (∃ (y3 : Bool),
  s_inRange.fn ((↑xs.length : Int), (1 : Int), n, ()) = some y3 ∧
    Br (!y3) (P false)
      (WLoop
        (fun (v4 : Int × PUnit) (k5 : Int × PUnit → Prop) =>
          Br (decide (v4.fst < (↑xs.length : Int)))
            (∃ (y6 : Int),
              idx xs v4.fst = some y6 ∧
                ∃ (y7 : Bool),
                  s_inRange.fn (y6, (0 : Int), IntKind.i64.wrap (n - (1 : Int)), ()) = some y7 ∧
                    Br (!y7) (P false)
                      (Br (decide (v4.fst > (0 : Int)))
                        (∃ (y8 : Int),
                          idx xs v4.fst = some y8 ∧
                            ∃ (y9 : Int), idx xs (IntKind.i64.wrap (v4.fst - (1 : Int))) = some y9 ∧ Br (decide (y8 ≤ y9)) (P false) (k5 (IntKind.i64.wrap (v4.fst + (1 : Int)), ())))
                        (k5 (IntKind.i64.wrap (v4.fst + (1 : Int)), ()))))
            (P true))
        ((0 : Int), PUnit.unit))) = fnW tab (look [(57, s_inRange)]) s_pointList Try.f68 (n, xs, ()) P := by kernel_rfl
theorem w_isTracked (n : Int) (xs : List Int) (P : Bool → Prop) : (WLoop
  (fun (v3 : Int × PUnit) (k4 : Int × PUnit → Prop) =>
    Br (decide (v3.fst < (↑xs.length : Int)))
      (∃ (y5 : Int),
        idx xs v3.fst = some y5 ∧
          ∃ (y6 : Bool),
            s_isPoint.fn (n, y5, ()) = some y6 ∧
              Br (!y6) (P false)
                (Br (decide (v3.fst > (0 : Int)))
                  (∃ (y7 : Int), idx xs (IntKind.i64.wrap (v3.fst - (1 : Int))) = some y7 ∧ Br (decide (y7 ≥ y5)) (P false) (k4 (IntKind.i64.wrap (v3.fst + (1 : Int)), ())))
                  (k4 (IntKind.i64.wrap (v3.fst + (1 : Int)), ()))))
      (P (decide ((↑xs.length : Int) > (0 : Int)))))
  ((0 : Int), PUnit.unit)) = fnW tab (look [(119, s_isPoint)]) s_pointList Try.f74 (n, xs, ()) P := by kernel_rfl
theorem m_point_iff {n x : Int} (hn : nOK n) : m_isPoint n x = true ↔ 0 ≤ x ∧ x ≤ n - 1 := by
  unfold m_isPoint nOK at *
  rw [wrap_id (by omega) (by omega), decide_eq_true_iff]
theorem m_range_iff {x a b : Int} : m_inRange x a b = true ↔ a ≤ x ∧ x ≤ b := decide_eq_true_iff
theorem bnot_true {b : Bool} (h : (!b) = true) : ¬ b = true := by cases b <;> simp_all
theorem bnot_false {b : Bool} (h : (!b) = false) : b = true := by cases b <;> simp_all
theorem pl_len {n : Int} {xs : List Int} (h : PL n xs xs.length) : ∀ j (hj : j < xs.length), (j : Int) ≤ xs[j]
  | 0, hj => (h 0 hj hj).1
  | j + 1, hj => by
    have h1 := pl_len h j (by omega)
    have h2 := (h (j + 1) hj hj).2.2 (by omega)
    simp only [Nat.add_sub_cancel] at h2
    omega
theorem pl_step {n : Int} {xs : List Int} {j : Nat} (hl : j < xs.length) (h : PL n xs j) (h1 : 0 ≤ xs[j]) (h2 : xs[j] ≤ n - 1) (h3 : 0 < j → xs[j - 1] < xs[j]) : PL n xs (j + 1) := by
  intro i hi hij
  by_cases e : i = j
  · subst e; exact ⟨h1, h2, h3⟩
  · exact h i hi (by omega)
theorem p_isTracked (n : Int) (xs : List Int) (h : nOK n ∧ short xs) : fnW tab (look [(119, s_isPoint)]) s_pointList Try.f74 (n, xs, ()) (fun (z : Bool) => z = m_pointList n xs) := by
  obtain ⟨hn, h⟩ := h
  unfold short at h
  refine Eq.mp (w_isTracked n xs _) ?_
  refine loop_range xs.length (fun v => v.1) (fun j _ => PL n xs j) rfl (fun j _ hj => absurd hj (Nat.not_lt_zero _)) ?_
  rintro j ⟨i, ⟨⟩⟩ K hj hi hR hK
  dsimp only at hi ⊢
  subst hi
  refine Br.dec (fun hl => ?_) fun hl => ?_
  · have hl : j < xs.length := by omega
    refine ⟨_, idx_nat hl, _, if_pos trivial, ⟨fun hp => ?_, fun hp => ?_⟩⟩
    · have hp := bnot_true hp
      rw [m_point_iff hn] at hp
      exact dec_false fun hh => hp ⟨(hh.2 j hl hl).1, (hh.2 j hl hl).2.1⟩
    · have hp := bnot_false hp
      rw [m_point_iff hn] at hp
      refine Br.dec (fun h0 => ?_) fun h0 => ?_
      · have h0 : 0 < j := by omega
        rw [wrap_id (by omega) (by omega), show (j : Int) - 1 = ((j - 1 : Nat) : Int) by omega]
        refine ⟨_, idx_nat (by omega), Br.dec (fun hg => ?_) fun hg => ?_⟩
        · exact dec_false fun hh => by have := (hh.2 j hl hl).2.2 h0; omega
        · rw [wrap_nat (by omega)]
          exact hK hl _ rfl (pl_step hl hR hp.1 hp.2 fun _ => by omega)
      · have h0 : j = 0 := by omega
        rw [wrap_nat (by omega)]
        exact hK hl _ rfl (pl_step hl hR hp.1 hp.2 fun h => by omega)
  · have : j = xs.length := by omega
    subst this
    by_cases h0 : 0 < xs.length
    · rw [decide_eq_true (show (xs.length : Int) > 0 by omega)]; exact dec_true ⟨h0, hR⟩
    · rw [decide_eq_false (show ¬ (xs.length : Int) > 0 by omega)]; exact dec_false fun hh => h0 hh.1
theorem sound_isTracked : Sound Try.prog 74 s_pointList :=
  Sound.mkS tabOK (envCons sound_isPoint envNil) mixed Try.func74 (by kernel_rfl) (by kernel_rfl) fun x h => p_isTracked x.1 x.2.1 h
theorem p_isPointList (n : Int) (xs : List Int) (h : nOK n ∧ short xs) : fnW tab (look [(57, s_inRange)]) s_pointList Try.f68 (n, xs, ()) (fun (z : Bool) => z = m_pointList n xs) := by
  obtain ⟨hn, h⟩ := h
  unfold short at h
  refine Eq.mp (w_isPointList n xs _) ⟨_, if_pos trivial, ⟨fun hp => ?_, fun hp => ?_⟩⟩
  · have hp := bnot_true hp
    rw [m_range_iff] at hp
    dsimp only at hp
    refine dec_false fun hh => hp ⟨by omega, ?_⟩
    have := pl_len hh.2 (xs.length - 1) (by omega)
    have := (hh.2 (xs.length - 1) (by omega) (by omega)).2.1
    omega
  · have hp := bnot_false hp
    rw [m_range_iff] at hp
    dsimp only at hp
    refine loop_range xs.length (fun v => v.1) (fun j _ => PL n xs j) rfl (fun j _ hj => absurd hj (Nat.not_lt_zero _)) ?_
    rintro j ⟨i, ⟨⟩⟩ K hj hi hR hK
    dsimp only at hi ⊢
    subst hi
    refine Br.dec (fun hl => ?_) fun hl => ?_
    · have hl : j < xs.length := by omega
      refine ⟨_, idx_nat hl, _, if_pos trivial, ⟨fun hq => ?_, fun hq => ?_⟩⟩
      · have hq := bnot_true hq
        unfold nOK at hn
        rw [m_range_iff, wrap_id (by omega) (by omega)] at hq
        exact dec_false fun hh => hq ⟨(hh.2 j hl hl).1, (hh.2 j hl hl).2.1⟩
      · have hq := bnot_false hq
        unfold nOK at hn
        rw [m_range_iff, wrap_id (by omega) (by omega)] at hq
        refine Br.dec (fun h0 => ?_) fun h0 => ?_
        · have h0 : 0 < j := by omega
          rw [wrap_id (by omega) (by omega), show (j : Int) - 1 = ((j - 1 : Nat) : Int) by omega]
          refine ⟨_, idx_nat hl, _, idx_nat (by omega), Br.dec (fun hg => ?_) fun hg => ?_⟩
          · exact dec_false fun hh => by have := (hh.2 j hl hl).2.2 h0; omega
          · rw [wrap_nat (by omega)]
            exact hK hl _ rfl (pl_step hl hR hq.1 hq.2 fun _ => by omega)
        · rw [wrap_nat (by omega)]
          exact hK hl _ rfl (pl_step hl hR hq.1 hq.2 fun h => by omega)
    · have : j = xs.length := by omega
      subst this
      exact dec_true ⟨by omega, hR⟩
theorem sound_isPointList : Sound Try.prog 68 s_pointList :=
  Sound.mkS tabOK (envCons sound_inRange envNil) mixed Try.func68 (by kernel_rfl) (by kernel_rfl) fun x h => p_isPointList x.1 x.2.1 h
theorem dl_step {n : Int} {xs : List Int} {j : Nat} (hl : j < xs.length) (h : DL n xs j) (h1 : 0 ≤ xs[j]) (h2 : xs[j] ≤ n - 1) (h3 : xs[j] ∉ xs.take j) : DL n xs (j + 1) := by
  intro i hi hij
  by_cases e : i = j
  · subst e; exact ⟨h1, h2, h3⟩
  · exact h i hi (by omega)
theorem short_take {xs : List Int} (h : short xs) (j : Nat) : short (xs.take j) := by
  unfold short at *
  rw [List.length_take]
  omega
end Go.Proofs.Ytfghmbpogmcboaa

namespace Go.Proofs.Ytfghmbpogmcboaa
open Go.RowKit

noncomputable abbrev s_eqFuncLL : Spec := mkS (.pair tLL (.pair tLL (.pair (.clo 163 .unit) .unit))) .bool false true (fun x => shortLL x.1) (fun x => m_eqLL x.1 x.2.1)
theorem w_sp1 (a b : List Int) (P : Bool → Prop) : (∃ (y3 : Bool), s_equalInts.fn (a, b, ()) = some y3 ∧ P y3) = fnW tab (look [(93, s_equalInts)]) s_equalInts Try.f163 (a, b, ()) P := by kernel_rfl
theorem w_eqFuncLL (a b : List (List Int)) (c : Unit) (P : Bool → Prop) : (Br ((↑a.length : Int) != (↑b.length : Int)) (P false)
  (WLoop
    (fun (v4 : Int × PUnit) (k5 : Int × PUnit → Prop) =>
      Br (decide (v4.fst < (↑a.length : Int)))
        (∃ (y6 : List Int),
          idx a v4.fst = some y6 ∧
            ∃ (y7 : List Int), idx b v4.fst = some y7 ∧ ∃ (y8 : Bool), s_equalInts.fn (y6, y7, ()) = some y8 ∧ Br (!y8) (P false) (k5 (IntKind.i64.wrap (v4.fst + (1 : Int)), ())))
        (P true))
    ((0 : Int), PUnit.unit))) = fnW tab (look [(163, s_equalInts)]) s_eqFuncLL Try.f162 (a, b, c, ()) P := by kernel_rfl
theorem w_samePartition (a b : List (List Int)) (P : Bool → Prop) : (∃ (y3 : Bool), s_eqFuncLL.fn (a, b, (), ()) = some y3 ∧ P y3) = fnW tab (look [(162, s_eqFuncLL)]) s_eqLL Try.f142 (a, b, ()) P := by kernel_rfl
theorem w_implSameTable (a b : List Int × List (List Int) × List Int × Unit) (P : Bool → Prop) : (∃ (y3 : Bool),
  s_equalInts.fn (a.fst, b.fst, ()) = some y3 ∧
    Br y3 (∃ (y4 : Bool), s_eqLL.fn (a.2.fst, b.2.fst, ()) = some y4 ∧ Br y4 (∃ (y5 : Bool), s_equalInts.fn (a.snd.2.fst, b.snd.2.fst, ()) = some y5 ∧ P y5) (P false)) (P false)) = fnW tab (look [(93, s_equalInts), (142, s_eqLL)]) s_eqTable Try.f99 (a, b, ()) P := by kernel_rfl
theorem w_specSameTable (a b : List Int × List (List Int) × List Int × Unit) (P : Bool → Prop) : (∃ (y3 : Bool),
  s_equalInts.fn (a.fst, b.fst, ()) = some y3 ∧
    Br (!y3) (P false)
      (∃ (y4 : Bool),
        s_equalInts.fn (a.snd.2.fst, b.snd.2.fst, ()) = some y4 ∧
          Br (!y4) (P false)
            (Br ((↑a.2.fst.length : Int) != (↑b.2.fst.length : Int)) (P false)
              (WLoop
                (fun (v5 : Int × List Int × List (List Int) × List Int × List Int × List (List Int) × List Int × PUnit)
                    (k6 : Int × List Int × List (List Int) × List Int × List Int × List (List Int) × List Int × PUnit → Prop) =>
                  Br (decide (v5.fst < (↑v5.snd.2.fst.length : Int)))
                    (∃ (y7 : List Int),
                      idx v5.snd.2.fst v5.fst = some y7 ∧
                        ∃ (y8 : List Int),
                          idx v5.2.snd.2.snd.2.fst v5.fst = some y8 ∧
                            ∃ (y9 : Bool),
                              s_equalInts.fn (y7, y8, ()) = some y9 ∧
                                Br (!y9) (P false)
                                  (k6 (IntKind.i64.wrap (v5.fst + (1 : Int)), v5.2.fst, v5.snd.2.fst, v5.2.snd.2.fst, v5.snd.2.snd.2.fst, v5.2.snd.2.snd.2.fst, v5.snd.2.snd.2.snd.2.fst, ())))
                    (P true))
                ((0 : Int), a.fst, a.2.fst, a.snd.2.fst, b.fst, b.2.fst, b.snd.2.fst, PUnit.unit))))) = fnW tab (look [(90, s_equalInts)]) s_eqTable Try.f98 (a, b, ()) P := by kernel_rfl
theorem p_sp1 (a b : List Int) (h : short a) : fnW tab (look [(93, s_equalInts)]) s_equalInts Try.f163 (a, b, ()) (fun (z : Bool) => z = m_equalInts a b) := by
  refine Eq.mp (w_sp1 a b _) ⟨_, if_pos h, rfl⟩
theorem sound_sp1 : Sound Try.prog 163 s_equalInts :=
  Sound.mkS tabOK (envCons sound_slicesEqual envNil) mixed Try.func163 (by kernel_rfl) (by kernel_rfl) fun x h => p_sp1 x.1 x.2.1 h
theorem p_eqFuncLL (a b : List (List Int)) (c : Unit) (h : shortLL a) : fnW tab (look [(163, s_equalInts)]) s_eqFuncLL Try.f162 (a, b, c, ()) (fun (z : Bool) => z = m_eqLL a b) := by
  obtain ⟨h, h4⟩ := h
  refine Eq.mp (w_eqFuncLL a b c _) ⟨fun hl => ?_, fun hl => ?_⟩
  · simp only [bne_iff_ne, ne_eq, Int.natCast_inj] at hl
    exact (decide_eq_false fun hab => hl (by rw [hab])).symm
  · simp only [bne_eq_false_iff_eq, Int.natCast_inj] at hl
    refine loop_range a.length (fun v => v.1) (fun j _ => a.take j = b.take j) rfl (by simp) ?_
    rintro j ⟨i, ⟨⟩⟩ K hj hi hR hK
    dsimp only at hi ⊢
    subst hi
    refine Br.dec (fun hlt => ?_) fun hlt => ?_
    · have hl1 : j < a.length := by omega
      have hl2 : j < b.length := by omega
      refine ⟨_, idx_nat hl1, _, idx_nat hl2, _, if_pos (h4 _ (List.getElem_mem hl1)), ⟨fun he => ?_, fun he => ?_⟩⟩
      · refine (decide_eq_false fun hab => ?_).symm
        subst hab
        simp [m_equalInts] at he
      · rw [wrap_nat (by omega)]
        refine hK hl1 _ rfl ?_
        simp only [m_equalInts, Bool.not_eq_false', decide_eq_true_eq] at he
        rw [List.take_succ_eq_append_getElem hl1, List.take_succ_eq_append_getElem hl2, hR]
        exact congrArg (fun x => List.take j b ++ [x]) he
    · have hj' : j = a.length := by omega
      subst hj'
      rw [List.take_length, hl, List.take_length] at hR
      exact (decide_eq_true hR).symm
theorem sound_eqFuncLL : Sound Try.prog 162 s_eqFuncLL :=
  Sound.mkS tabOK (envCons sound_sp1 envNil) mixed Try.func162 (by kernel_rfl) (by kernel_rfl) fun x h => p_eqFuncLL x.1 x.2.1 x.2.2.1 h
theorem p_samePartition (a b : List (List Int)) (h : shortLL a) : fnW tab (look [(162, s_eqFuncLL)]) s_eqLL Try.f142 (a, b, ()) (fun (z : Bool) => z = m_eqLL a b) := by
  refine Eq.mp (w_samePartition a b _) ⟨_, if_pos h, rfl⟩
theorem sound_samePartition : Sound Try.prog 142 s_eqLL :=
  Sound.mkS tabOK (envCons sound_eqFuncLL envNil) mixed Try.func142 (by kernel_rfl) (by kernel_rfl) fun x h => p_samePartition x.1 x.2.1 h
theorem p_implSameTable (a b : TT) (h : shortT a) : fnW tab (look [(93, s_equalInts), (142, s_eqLL)]) s_eqTable Try.f99 (a, b, ()) (fun (z : Bool) => z = m_eqT a b) := by
  refine Eq.mp (w_implSameTable a b _) ⟨_, if_pos h.1, ⟨fun h1 => ⟨_, if_pos h.2.1, ⟨fun h2 => ⟨_, if_pos h.2.2, ?_⟩, fun h2 => ?_⟩⟩, fun h1 => ?_⟩⟩
  · have h1 : m_equalInts a.1 b.1 = true := h1
    have h2 : m_eqLL a.2.1 b.2.1 = true := h2
    simp only [m_equalInts, m_eqLL] at h1 h2
    show m_equalInts a.2.2.1 b.2.2.1 = _
    unfold m_eqT m_equalInts
    rw [h1, h2]; rfl
  · have h1 : m_equalInts a.1 b.1 = true := h1
    have h2 : m_eqLL a.2.1 b.2.1 = false := h2
    simp only [m_equalInts, m_eqLL] at h1 h2
    unfold m_eqT
    rw [h1, h2]; rfl
  · have h1 : m_equalInts a.1 b.1 = false := h1
    simp only [m_equalInts] at h1
    unfold m_eqT
    rw [h1]; rfl
theorem sound_implSameTable : Sound Try.prog 99 s_eqTable :=
  Sound.mkS tabOK (envCons sound_slicesEqual (envCons sound_samePartition envNil)) mixed Try.func99 (by kernel_rfl) (by kernel_rfl) fun x h => p_implSameTable x.1 x.2.1 h
theorem p_specSameTable (a b : TT) (h : shortT a) : fnW tab (look [(90, s_equalInts)]) s_eqTable Try.f98 (a, b, ()) (fun (z : Bool) => z = m_eqT a b) := by
  obtain ⟨hs1, ⟨hs2, hs4⟩, hs3⟩ := h
  refine Eq.mp (w_specSameTable a b _) ⟨_, if_pos hs1, ⟨fun h1 => ?_, fun h1 => ⟨_, if_pos hs3, ⟨fun h2 => ?_, fun h2 => ⟨fun h3 => ?_, fun h3 => ?_⟩⟩⟩⟩⟩
  · have h1 : (!m_equalInts a.1 b.1) = true := h1
    simp only [m_equalInts, Bool.not_eq_true'] at h1
    show _ = m_eqT a b
    unfold m_eqT
    rw [h1]; rfl
  · have h2 : (!m_equalInts a.2.2.1 b.2.2.1) = true := h2
    simp only [m_equalInts, Bool.not_eq_true'] at h2
    show _ = m_eqT a b
    unfold m_eqT
    rw [h2]; simp
  · simp only [bne_iff_ne, ne_eq, Int.natCast_inj] at h3
    show _ = m_eqT a b
    unfold m_eqT
    rw [decide_eq_false (show ¬ a.2.1 = b.2.1 from fun hab => h3 (by rw [hab]))]; simp
  · simp only [bne_eq_false_iff_eq, Int.natCast_inj] at h3
    have h1 : (!m_equalInts a.1 b.1) = false := h1
    have h2 : (!m_equalInts a.2.2.1 b.2.2.1) = false := h2
    simp only [m_equalInts, Bool.not_eq_false', decide_eq_true_eq] at h1 h2
    have hE : m_eqT a b = decide (a.2.1 = b.2.1) := by
      unfold m_eqT
      rw [decide_eq_true h1, decide_eq_true h2]; simp
    refine loop_range a.2.1.length (fun v => v.1) (fun j v => v.2 = (a.1, a.2.1, a.2.2.1, b.1, b.2.1, b.2.2.1, ()) ∧ a.2.1.take j = b.2.1.take j) rfl ⟨rfl, by simp⟩ ?_
    rintro j ⟨i, v⟩ K hj hi ⟨hv, hR⟩ hK
    dsimp only at hi hv ⊢
    subst hi hv
    dsimp only
    refine Br.dec (fun hlt => ?_) fun hlt => ?_
    · have hl1 : j < a.2.1.length := by omega
      have hl2 : j < b.2.1.length := by omega
      refine ⟨_, idx_nat hl1, _, idx_nat hl2, _, if_pos (hs4 _ (List.getElem_mem hl1)), ⟨fun he => ?_, fun he => ?_⟩⟩
      · show _ = m_eqT a b
        rw [hE]
        refine (decide_eq_false fun hab => ?_).symm
        simp [hab, m_equalInts] at he
      · rw [wrap_nat (by omega)]
        refine hK hl1 _ rfl ⟨rfl, ?_⟩
        simp only [m_equalInts, Bool.not_eq_false', decide_eq_true_eq] at he
        rw [List.take_succ_eq_append_getElem hl1, List.take_succ_eq_append_getElem hl2, hR]
        exact congrArg (fun x => List.take j b.2.1 ++ [x]) he
    · have hj' : j = a.2.1.length := by omega
      subst hj'
      rw [List.take_length, h3, List.take_length] at hR
      show _ = m_eqT a b
      rw [hE]
      exact (decide_eq_true hR).symm
theorem sound_specSameTable : Sound Try.prog 98 s_eqTable :=
  Sound.mkS tabOK (envCons sound_equalInts envNil) mixed Try.func98 (by kernel_rfl) (by kernel_rfl) fun x h => p_specSameTable x.1 x.2.1 h
theorem m_szTable_room {t : TT} {room : Int} (h : roomy room) (h2 : ¬ m_szTable t room < 0) : roomy (m_szTable t room) := by
  have hm : ¬ ((-1 : Int) < 0) → False := fun h => h (by decide)
  unfold m_szTable at h2 ⊢
  split
  · rename_i h3; rw [if_pos h3] at h2; exact (hm h2).elim
  · rename_i h3; rw [if_neg h3] at h2
    split
    · rename_i h4; rw [if_pos h4] at h2; exact (hm h2).elim
    · rename_i h4; rw [if_neg h4] at h2
      split
      · rename_i h5; rw [if_pos h5] at h2; exact (hm h2).elim
      · rename_i h5
        exact m_sz_room (m_szLL_room (m_sz_room h h3) h4) h5
theorem roomy_1m : roomy 1048576 := ⟨by decide, by decide⟩
end Go.Proofs.Ytfghmbpogmcboaa

namespace Go.Proofs.Ytfghmbpogmcboaa
open Go.RowKit

abbrev PP : Type := Int × ByteArray × List (List Int) × Unit
noncomputable def m_isPerm (p : List Int) : Bool := dec (1 ≤ p.length ∧ p.length ≤ 20 ∧ DL p.length p p.length)
noncomputable def m_genOK (n : Int) (p : List Int) : Bool := dec ((p.length : Int) = n ∧ m_isPerm p = true)
noncomputable def m_isGens (n : Int) (g : List (List Int)) : Bool := dec ((1 ≤ n ∧ n ≤ 20) ∧ g.length ≤ 8 ∧ ∀ p ∈ g, m_genOK n p = true)
def m_indexF {α : Type} (P : α → Bool) : List α → Int → Int
  | [], _ => -1
  | y :: r, i => if P y = true then i else m_indexF P r (i + 1)
abbrev tG1 : Ty := .clo 152 (.pair (.ptr tI) .unit)
def NameAt (s : ByteArray) (i : Nat) : Prop := ∃ c : UInt8, s[i]? = some c ∧ 65 ≤ c.toNat ∧ c.toNat ≤ 90 ∧ ∀ k, k < i → s[k]? ≠ some c
noncomputable def m_nameAt (s : ByteArray) (i : Int) : Bool := dec (NameAt s i.toNat)
noncomputable def m_isNames (s : ByteArray) : Bool := dec ((1 ≤ s.size ∧ s.size ≤ 8) ∧ ∀ j, j < s.size → NameAt s j)
noncomputable def m_validP (p : PP) : Bool := dec (m_isGens p.1 p.2.2.1 = true ∧ m_isNames p.2.1 = true ∧ p.2.1.size = p.2.2.1.length)
def shortP (p : PP) : Prop := p.2.1.size ≤ 4294967296 ∧ shortLL p.2.2.1
noncomputable abbrev s_lenL : Spec := mkS (.pair tL .unit) tI false true (fun _ => True) (fun x => (List.length x.1 : Int))
noncomputable abbrev s_isPerm : Spec := mkS (.pair tL .unit) .bool false true (fun x => short x.1) (fun x => m_isPerm x.1)
noncomputable abbrev s_isGens : Spec := mkS (.pair tI (.pair tLL .unit)) .bool false true (fun x => shortLL x.2.1) (fun x => m_isGens x.1 x.2.1)
noncomputable abbrev s_gens1 : Spec := mkS (.pair tL (.pair (.ptr tI) .unit)) .bool false true (fun x => short x.1) (fun x => !m_genOK x.2.1 x.1)
noncomputable abbrev s_ixG : Spec := mkS (.pair tLL (.pair tG1 .unit)) tI false true (fun x => shortLL x.1) (fun x => m_indexF (fun p => !m_genOK x.2.1.1 p) x.1 0)
noncomputable abbrev s_ctG : Spec := mkS (.pair tLL (.pair tG1 .unit)) .bool false true (fun x => shortLL x.1) (fun x => List.any x.1 (fun p => !m_genOK x.2.1.1 p))
noncomputable abbrev s_nameAt : Spec := mkS (.pair .str (.pair tI .unit)) .bool false true (fun x => 0 ≤ x.2.1 ∧ x.2.1 < x.1.size ∧ x.1.size ≤ 4294967296) (fun x => m_nameAt x.1 x.2.1)
noncomputable abbrev s_isNames : Spec := mkS (.pair .str .unit) .bool false true (fun x => x.1.size ≤ 4294967296) (fun x => m_isNames x.1)
noncomputable abbrev s_validP : Spec := mkS (.pair tPuzzle .unit) .bool false true (fun x => shortP x.1) (fun x => m_validP x.1)
def m_szP (p : PP) (room : Int) : Int := if room - p.2.1.size < 0 then -1 else if m_szLL p.2.2.1 (room - p.2.1.size) < 0 then -1 else m_szLL p.2.2.1 (room - p.2.1.size)
def m_eqP (a b : PP) : Bool := decide (a.1 = b.1) && (decide (a.2.1 = b.2.1) && decide (a.2.2.1 = b.2.2.1))
noncomputable abbrev s_szP : Spec := mkS (.pair tPuzzle (.pair tI .unit)) tI false true (fun x => shortP x.1 ∧ roomy x.2.1) (fun x => m_szP x.1 x.2.1)
noncomputable abbrev s_toP : Spec := mkS (.pair tPuzzle .unit) tPuzzle false true (fun x => shortP x.1) (fun x => x.1)
noncomputable abbrev s_eqP : Spec := mkS (.pair tPuzzle (.pair tPuzzle .unit)) .bool false true (fun x => shortP x.1) (fun x => m_eqP x.1 x.2.1)
theorem w_lenL (xs : List Int) (P : Int → Prop) : (P (↑xs.length : Int)) = fnW tab (look []) s_lenL Try.f136 (xs, ()) P := by kernel_rfl
theorem w_specIsPerm (p : List Int) (P : Bool → Prop) : (∃ (y2 : Bool),
  s_inRange.fn ((↑p.length : Int), (1 : Int), (20 : Int), ()) = some y2 ∧
    Br (!y2) (P false)
      (WLoop
        (fun (v3 : Int × PUnit) (k4 : Int × PUnit → Prop) =>
          Br (decide (v3.fst < (↑p.length : Int)))
            (∃ (y5 : Int),
              idx p v3.fst = some y5 ∧
                ∃ (y6 : Bool),
                  s_inRange.fn (y5, (0 : Int), IntKind.i64.wrap ((↑p.length : Int) - (1 : Int)), ()) = some y6 ∧
                    Br (!y6) (P false)
                      (((0 : Int) ≤ (0 : Int) ∧ (0 : Int) ≤ v3.fst ∧ v3.fst ≤ (↑p.length : Int)) ∧
                        ∃ (y7 : Int),
                          idx p v3.fst = some y7 ∧
                            ∃ (y8 : Bool),
                              s_containsInt.fn (List.drop (Int.toNat (0 : Int)) (List.take v3.fst.toNat p), y7, ()) = some y8 ∧ Br y8 (P false) (k4 (IntKind.i64.wrap (v3.fst + (1 : Int)), ()))))
            (P true))
        ((0 : Int), PUnit.unit))) = fnW tab (look [(57, s_inRange), (131, s_containsInt)]) s_isPerm Try.f150 (p, ()) P := by kernel_rfl
theorem w_implIsPerm (p : List Int) (P : Bool → Prop) : (∃ (y2 : Int),
  s_lenL.fn (p, ()) = some y2 ∧
    ∃ (y3 : Bool),
      s_inRange.fn (y2, (1 : Int), (20 : Int), ()) = some y3 ∧
        Br (!y3) (P false)
          (WLoop
            (fun (v4 : Int × Int × PUnit) (k5 : Int × Int × PUnit → Prop) =>
              Br (decide (v4.2.fst < (↑p.length : Int)))
                (∃ (y6 : Int),
                  idx p v4.2.fst = some y6 ∧
                    ∃ (y7 : Int),
                      s_lenL.fn (p, ()) = some y7 ∧
                        ∃ (y8 : Bool),
                          s_inRange.fn (y6, (0 : Int), IntKind.i64.wrap (y7 - (1 : Int)), ()) = some y8 ∧
                            Br (!y8) (P false)
                              (¬y6 < (0 : Int) ∧
                                k5
                                  (IntKind.i64.wrap
                                      (↑(BitVec.ofInt IntKind.i64.bits v4.fst ||| BitVec.ofInt IntKind.i64.bits (IntKind.i64.wrap ((1 : Int) * (2 : Int) ^ min y6.toNat IntKind.i64.bits))).toNat :
                                        Int),
                                    IntKind.i64.wrap (v4.2.fst + (1 : Int)), ())))
                (¬(↑p.length : Int) < (0 : Int) ∧ P (v4.fst == IntKind.i64.wrap (IntKind.i64.wrap ((1 : Int) * (2 : Int) ^ min (↑p.length : Int).toNat IntKind.i64.bits) - (1 : Int)))))
            ((0 : Int), (0 : Int), PUnit.unit))) = fnW tab (look [(61, s_inRange), (136, s_lenL)]) s_isPerm Try.f137 (p, ()) P := by kernel_rfl
theorem w_specIsGens (n : Int) (g : List (List Int)) (P : Bool → Prop) : (∃ (y3 : Bool),
  s_inRange.fn (n, (1 : Int), (20 : Int), ()) = some y3 ∧
    Br (!y3) (P false)
      (Br (decide ((↑g.length : Int) > (8 : Int))) (P false)
        (WLoop
          (fun (v4 : Int × PUnit) (k5 : Int × PUnit → Prop) =>
            Br (decide (v4.fst < (↑g.length : Int)))
              (∃ (y6 : List Int),
                idx g v4.fst = some y6 ∧
                  Br ((↑y6.length : Int) != n) (P false)
                    (∃ (y7 : List Int), idx g v4.fst = some y7 ∧ ∃ (y8 : Bool), s_isPerm.fn (y7, ()) = some y8 ∧ Br (!y8) (P false) (k5 (IntKind.i64.wrap (v4.fst + (1 : Int)), ()))))
              (P true))
          ((0 : Int), PUnit.unit)))) = fnW tab (look [(57, s_inRange), (150, s_isPerm)]) s_isGens Try.f111 (n, g, ()) P := by kernel_rfl
theorem w_gens1 (p : List Int) (n : Int) (P : Bool → Prop) : (∃ (y3 : Int), s_lenL.fn (p, ()) = some y3 ∧ Br (y3 != n) (P true) (∃ (y4 : Bool), s_isPerm.fn (p, ()) = some y4 ∧ P !y4)) = fnW tab (look [(136, s_lenL), (137, s_isPerm)]) s_gens1 Try.f152 (p, n, ()) P := by kernel_rfl
theorem w_ixG (g : List (List Int)) (n : Int × Unit) (P : Int → Prop) : (WLoop
  (fun (v3 : Int × PUnit) (k4 : Int × PUnit → Prop) =>
    Br (decide (v3.fst < (↑g.length : Int)))
      (∃ (y5 : List Int), idx g v3.fst = some y5 ∧ ∃ (y6 : Bool), s_gens1.fn (y5, n.fst, ()) = some y6 ∧ Br y6 (P v3.fst) (k4 (IntKind.i64.wrap (v3.fst + (1 : Int)), ()))) (P (-1 : Int)))
  ((0 : Int), PUnit.unit)) = fnW tab (look [(152, s_gens1)]) s_ixG Try.f166 (g, n, ()) P := by kernel_rfl
theorem w_ctG (g : List (List Int)) (n : Int × Unit) (P : Bool → Prop) : (∃ (y3 : Int), s_ixG.fn (g, n, ()) = some y3 ∧ P (decide (y3 ≥ (0 : Int)))) = fnW tab (look [(166, s_ixG)]) s_ctG Try.f151 (g, n, ()) P := by kernel_rfl
theorem w_implIsGens (n : Int) (g : List (List Int)) (P : Bool → Prop) : (∃ (y3 : Bool),
  s_inRange.fn (n, (1 : Int), (20 : Int), ()) = some y3 ∧ Br y3 (Br (decide ((↑g.length : Int) ≤ (8 : Int))) (∃ (y4 : Bool), s_ctG.fn (g, (n, ()), ()) = some y4 ∧ P !y4) (P false)) (P false)) = fnW tab (look [(61, s_inRange), (151, s_ctG)]) s_isGens Try.f114 (n, g, ()) P := by kernel_rfl
theorem w_nameAt (s : ByteArray) (i : Int) (P : Bool → Prop) : ((0 : Int) ≤ i ∧
  ∃ (y3 : UInt8),
    s[i.toNat]? = some y3 ∧
      Br (decide ((↑y3.toNat : Int) < (65 : Int))) (P false)
        ((0 : Int) ≤ i ∧
          ∃ (y4 : UInt8),
            s[i.toNat]? = some y4 ∧
              Br (decide ((↑y4.toNat : Int) > (90 : Int))) (P false)
                (WLoop
                  (fun (v5 : Int × PUnit) (k6 : Int × PUnit → Prop) =>
                    Br (decide (v5.fst < i))
                      ((0 : Int) ≤ v5.fst ∧
                        ∃ (y7 : UInt8),
                          s[v5.fst.toNat]? = some y7 ∧
                            (0 : Int) ≤ i ∧ ∃ (y8 : UInt8), s[i.toNat]? = some y8 ∧ Br ((↑y7.toNat : Int) == (↑y8.toNat : Int)) (P false) (k6 (IntKind.i64.wrap (v5.fst + (1 : Int)), ())))
                      (P true))
                  ((0 : Int), PUnit.unit)))) = fnW tab (look []) s_nameAt Try.f112 (s, i, ()) P := by kernel_rfl
theorem w_isNames (s : ByteArray) (P : Bool → Prop) : (WLoop
  (fun (v2 : Int × PUnit) (k3 : Int × PUnit → Prop) =>
    Br (decide (v2.fst < (↑s.size : Int)))
      ((0 : Int) ≤ v2.fst ∧
        ∃ (y4 : UInt8),
          s[v2.fst.toNat]? = some y4 ∧
            ∃ (y5 : Bool),
              s_inRange.fn (IntKind.i64.wrap (↑y4.toNat : Int), (65 : Int), (90 : Int), ()) = some y5 ∧
                Br (!y5) (P false)
                  (WLoop
                    (fun (v6 : Int × PUnit) (k7 : Int × PUnit → Prop) =>
                      Br (decide (v6.fst < v2.fst))
                        ((0 : Int) ≤ v6.fst ∧
                          ∃ (y8 : UInt8),
                            s[v6.fst.toNat]? = some y8 ∧
                              (0 : Int) ≤ v2.fst ∧ ∃ (y9 : UInt8), s[v2.fst.toNat]? = some y9 ∧ Br ((↑y8.toNat : Int) == (↑y9.toNat : Int)) (P false) (k7 (IntKind.i64.wrap (v6.fst + (1 : Int)), ())))
                        (k3 (IntKind.i64.wrap (v2.fst + (1 : Int)), ())))
                    ((0 : Int), PUnit.unit)))
      (∃ (y4 : Bool), s_inRange.fn ((↑s.size : Int), (1 : Int), (8 : Int), ()) = some y4 ∧ P y4))
  ((0 : Int), PUnit.unit)) = fnW tab (look [(61, s_inRange)]) s_isNames Try.f115 (s, ()) P := by kernel_rfl
theorem w_specValidP (p : Int × ByteArray × List (List Int) × Unit) (P : Bool → Prop) : (Br ((↑p.snd.2.fst.length : Int) == (0 : Int)) (P false)
  (Br ((↑p.2.fst.size : Int) != (↑p.snd.2.fst.length : Int)) (P false)
    (∃ (y2 : Bool),
      s_isGens.fn (p.fst, p.snd.2.fst, ()) = some y2 ∧
        Br (!y2) (P false)
          (WLoop
            (fun (v3 : Int × Int × ByteArray × List (List Int) × PUnit) (k4 : Int × Int × ByteArray × List (List Int) × PUnit → Prop) =>
              Br (decide (v3.fst < (↑v3.snd.2.fst.size : Int)))
                (∃ (y5 : Bool), s_nameAt.fn (v3.snd.2.fst, v3.fst, ()) = some y5 ∧ Br (!y5) (P false) (k4 (IntKind.i64.wrap (v3.fst + (1 : Int)), v3.2.fst, v3.snd.2.fst, v3.2.snd.2.fst, ())))
                (P true))
            ((0 : Int), p.fst, p.2.fst, p.snd.2.fst, PUnit.unit))))) = fnW tab (look [(111, s_isGens), (112, s_nameAt)]) s_validP Try.f56 (p, ()) P := by kernel_rfl
theorem w_implValidP (p : Int × ByteArray × List (List Int) × Unit) (P : Bool → Prop) : (∃ (y2 : Bool),
  s_isGens.fn (p.fst, p.snd.2.fst, ()) = some y2 ∧ Br y2 (∃ (y3 : Bool), s_isNames.fn (p.2.fst, ()) = some y3 ∧ Br y3 (P ((↑p.2.fst.size : Int) == (↑p.snd.2.fst.length : Int))) (P false)) (P false)) = fnW tab (look [(114, s_isGens), (115, s_isNames)]) s_validP Try.f60 (p, ()) P := by kernel_rfl
theorem w_szP (p : Int × ByteArray × List (List Int) × Unit) (room : Int) (P : Int → Prop) : (Br (decide (IntKind.i64.wrap (room - (↑p.2.fst.size : Int)) < (0 : Int))) (P (-1 : Int))
  (∃ (y3 : Int), s_szLL.fn (p.snd.2.fst, IntKind.i64.wrap (room - (↑p.2.fst.size : Int)), ()) = some y3 ∧ Br (decide (y3 < (0 : Int))) (P (-1 : Int)) (P y3))) = fnW tab (look [(55, s_szLL)]) s_szP Try.f14 (p, room, ()) P := by kernel_rfl
theorem w_toP (p : Int × ByteArray × List (List Int) × Unit) (P : (Int × ByteArray × List (List Int) × Unit) → Prop) : (∃ (y2 : List (List Int)), s_toLL.fn (p.snd.2.fst, ()) = some y2 ∧ P (p.fst, p.2.fst, y2, ())) = fnW tab (look [(59, s_toLL)]) s_toP Try.f16 (p, ()) P := by kernel_rfl
theorem w_eqP (a b : Int × ByteArray × List (List Int) × Unit) (P : Bool → Prop) : (Br (a.fst != b.fst) (P false) (Br (!a.2.fst.toList == b.2.fst.toList) (P false) (∃ (y3 : Bool), s_eqLL.fn (a.snd.2.fst, b.snd.2.fst, ()) = some y3 ∧ Br (!y3) (P false) (P true)))) = fnW tab (look [(35, s_eqLL)]) s_eqP Try.f19 (a, b, ()) P := by kernel_rfl
theorem p_lenL (xs : List Int) (_ : True) : fnW tab (look []) s_lenL Try.f136 (xs, ()) (fun (z : Int) => z = (xs.length : Int)) := Eq.mp (w_lenL xs _) rfl
theorem sound_lenL : Sound Try.prog 136 s_lenL :=
  Sound.mkS tabOK envNil mixed Try.func136 (by kernel_rfl) (by kernel_rfl) fun x h => p_lenL x.1 h
theorem sub_len {α : Type} [DecidableEq α] : ∀ (l m : List α), l.Nodup → (∀ x ∈ l, x ∈ m) → l.length ≤ m.length
  | [], m, _, _ => Nat.zero_le _
  | a :: l, m, hn, hs => by
    have ha : a ∈ m := hs a (List.mem_cons_self ..)
    have hn := List.nodup_cons.1 hn
    have := sub_len l (m.erase a) hn.2 fun x hx => (List.mem_erase_of_ne (fun (e : x = a) => hn.1 (by rw [← e]; exact hx))).2 (hs x (List.mem_cons_of_mem _ hx))
    rw [List.length_erase_of_mem ha] at this
    have : 0 < m.length := List.length_pos_of_mem ha
    simp only [List.length_cons]
    omega
def upto (n : Nat) : List Int := (List.range n).map Int.ofNat
theorem upto_nodup (n : Nat) : (upto n).Nodup := by
  unfold upto
  exact List.Pairwise.map _ (fun a b hab e => hab (Int.ofNat.inj e)) List.nodup_range
theorem mem_upto {n : Nat} {x : Int} : x ∈ upto n ↔ 0 ≤ x ∧ x < n := by
  unfold upto
  simp only [List.mem_map, List.mem_range]
  constructor
  · rintro ⟨a, ha, rfl⟩; exact ⟨Int.natCast_nonneg _, Int.ofNat_lt.2 ha⟩
  · rintro ⟨h1, h2⟩; exact ⟨x.toNat, by omega, by simp only [Int.ofNat_eq_natCast]; omega⟩
theorem upto_len (n : Nat) : (upto n).length = n := by simp [upto]
theorem nodup_of_takes {xs : List Int} (h : ∀ j (hj : j < xs.length), xs[j] ∉ xs.take j) : xs.Nodup := by
  refine List.pairwise_iff_getElem.2 fun i j hi hj hij e => h j hj ?_
  rw [← e]
  exact List.mem_take_iff_getElem.2 ⟨i, by omega, rfl⟩
theorem takes_of_nodup {xs : List Int} (h : xs.Nodup) : ∀ j (hj : j < xs.length), xs[j] ∉ xs.take j := by
  intro j hj hm
  obtain ⟨i, hi, e⟩ := List.mem_take_iff_getElem.1 hm
  exact List.pairwise_iff_getElem.1 h i j (by omega) hj (by omega) e
/-- Points of a row that is as long as there are points: all of them, or one twice. -/
theorem all_iff_nodup {xs : List Int} (h : ∀ x ∈ xs, 0 ≤ x ∧ x < xs.length) : (∀ k : Nat, k < xs.length → (k : Int) ∈ xs) ↔ ∀ j (hj : j < xs.length), xs[j] ∉ xs.take j := by
  constructor
  · intro ha j hj hm
    have h1 := sub_len (upto xs.length) (xs.take j ++ xs.drop (j + 1)) (upto_nodup _) fun x hx => by
      obtain ⟨h1, h2⟩ := mem_upto.1 hx
      have hx := ha x.toNat (by omega)
      rw [show ((x.toNat : Nat) : Int) = x by omega] at hx
      rw [← List.take_append_drop j xs, List.mem_append, List.drop_eq_getElem_cons hj, List.mem_cons] at hx
      rcases hx with hx | rfl | hx
      · exact List.mem_append_left _ hx
      · exact List.mem_append_left _ hm
      · exact List.mem_append_right _ hx
    rw [upto_len, List.length_append, List.length_take, List.length_drop] at h1
    omega
  · intro hn k hk
    refine Classical.byContradiction fun hc => ?_
    have h1 := sub_len xs ((upto xs.length).erase (k : Int)) (nodup_of_takes hn) fun x hx => by
      refine (List.mem_erase_of_ne fun (e : x = (k : Int)) => hc (by rw [← e]; exact hx)).2 (mem_upto.2 (h x hx))
    rw [List.length_erase_of_mem (mem_upto.2 ⟨by omega, by omega⟩), upto_len] at h1
    omega
def mask (xs : List Int) : Nat := xs.foldl (fun m x => m ||| 2 ^ x.toNat) 0
theorem mask_snoc (xs : List Int) (x : Int) : mask (xs ++ [x]) = mask xs ||| 2 ^ x.toNat := by simp [mask]
theorem mask_testBit (xs : List Int) (k : Nat) : ∀ a : Nat, (xs.foldl (fun m x => m ||| 2 ^ x.toNat) a).testBit k = (a.testBit k || xs.any fun x => decide (x.toNat = k)) := by
  induction xs with
  | nil => simp
  | cons x xs ih =>
    intro a
    rw [List.foldl_cons, ih, Nat.testBit_or, Nat.testBit_two_pow, List.any_cons, Bool.or_assoc]
theorem mask_bit (xs : List Int) (k : Nat) : (mask xs).testBit k = xs.any fun x => decide (x.toNat = k) := by
  unfold mask
  rw [mask_testBit, Nat.zero_testBit, Bool.false_or]
theorem mask_lt {xs : List Int} {n : Nat} (h : ∀ x ∈ xs, x.toNat < n) : mask xs < 2 ^ n := by
  refine Nat.lt_pow_two_of_testBit _ fun k hk => ?_
  rw [mask_bit]
  refine Bool.eq_false_iff.2 fun ht => ?_
  obtain ⟨x, hx, he⟩ := List.any_eq_true.1 ht
  have := h x hx
  have := of_decide_eq_true he
  omega
theorem mask_full {xs : List Int} (h : ∀ x ∈ xs, 0 ≤ x ∧ x < xs.length) : mask xs = 2 ^ xs.length - 1 ↔ ∀ k : Nat, k < xs.length → (k : Int) ∈ xs := by
  constructor
  · intro e k hk
    have h1 := mask_bit xs k
    rw [e, Nat.testBit_two_pow_sub_one, decide_eq_true hk] at h1
    obtain ⟨x, hx, he⟩ := List.any_eq_true.1 h1.symm
    have := (h x hx).1
    have := of_decide_eq_true he
    have e : x = (k : Int) := by omega
    exact e ▸ hx
  · intro ha
    refine Nat.eq_of_testBit_eq fun k => ?_
    rw [mask_bit, Nat.testBit_two_pow_sub_one]
    by_cases hk : k < xs.length
    · rw [decide_eq_true hk]
      exact List.any_eq_true.2 ⟨k, ha k hk, by simp⟩
    · rw [decide_eq_false hk]
      refine Bool.eq_false_iff.2 fun ht => ?_
      obtain ⟨x, hx, he⟩ := List.any_eq_true.1 ht
      have := h x hx
      have := of_decide_eq_true he
      omega
theorem or_step {m : Nat} {x : Int} (hm : m < 2 ^ 20) (h0 : 0 ≤ x) (h1 : x < 20) :
    IntKind.i64.wrap (((BitVec.ofInt IntKind.i64.bits (m : Int) ||| BitVec.ofInt IntKind.i64.bits (IntKind.i64.wrap ((1 : Int) * (2 : Int) ^ min x.toNat IntKind.i64.bits))).toNat : Nat) : Int) = ((m ||| 2 ^ x.toNat : Nat) : Int) := by
  have hx : (2 : Nat) ^ x.toNat < 2 ^ 20 := Nat.pow_lt_pow_right (by omega) (by omega)
  have e1 : min x.toNat IntKind.i64.bits = x.toNat := by show min x.toNat 64 = _; omega
  have e2 : (1 : Int) * (2 : Int) ^ x.toNat = ((2 ^ x.toNat : Nat) : Int) := by rw [Int.one_mul]; exact (Int.natCast_pow 2 _).symm
  rw [e1, e2, wrap_id (n := ((2 ^ x.toNat : Nat) : Int)) (by have : (0 : Int) ≤ ((2 ^ x.toNat : Nat) : Int) := Int.natCast_nonneg _; omega) (by omega)]
  show IntKind.i64.wrap (((BitVec.ofInt 64 (m : Int) ||| BitVec.ofInt 64 ((2 ^ x.toNat : Nat) : Int)).toNat : Nat) : Int) = _
  rw [BitVec.ofInt_natCast, BitVec.ofInt_natCast, BitVec.toNat_or, BitVec.toNat_ofNat, BitVec.toNat_ofNat, Nat.mod_eq_of_lt (by omega), Nat.mod_eq_of_lt (by omega)]
  have := Nat.or_lt_two_pow hm hx
  exact wrap_id (by omega) (by omega)
theorem p_specIsPerm (p : List Int) (h : short p) : fnW tab (look [(57, s_inRange), (131, s_containsInt)]) s_isPerm Try.f150 (p, ()) (fun (z : Bool) => z = m_isPerm p) := by
  have hs := h
  unfold short at h
  refine Eq.mp (w_specIsPerm p _) ⟨_, if_pos trivial, ⟨fun hp => ?_, fun hp => ?_⟩⟩
  · have hp := bnot_true hp
    rw [m_range_iff] at hp
    dsimp only at hp
    exact dec_false fun hh => hp ⟨by omega, by omega⟩
  · have hp := bnot_false hp
    rw [m_range_iff] at hp
    dsimp only at hp
    refine loop_range p.length (fun v => v.1) (fun j _ => DL p.length p j) rfl (fun j _ hj => absurd hj (Nat.not_lt_zero _)) ?_
    rintro j ⟨i, ⟨⟩⟩ K hj hi hR hK
    dsimp only at hi ⊢
    subst hi
    refine Br.dec (fun hl => ?_) fun hl => ?_
    · have hl : j < p.length := by omega
      refine ⟨_, idx_nat hl, _, if_pos trivial, ⟨fun hq => ?_, fun hq => ?_⟩⟩
      · have hq := bnot_true hq
        rw [m_range_iff, wrap_id (by omega) (by omega)] at hq
        exact dec_false fun hh => hq ⟨(hh.2.2 j hl hl).1, (hh.2.2 j hl hl).2.1⟩
      · have hq := bnot_false hq
        rw [m_range_iff, wrap_id (by omega) (by omega)] at hq
        refine ⟨⟨by omega, by omega, by omega⟩, _, idx_nat hl, ?_⟩
        rw [show (Int.toNat 0) = 0 from rfl, List.drop_zero, Int.toNat_natCast]
        refine ⟨_, if_pos (short_take hs j), ⟨fun hc => ?_, fun hc => ?_⟩⟩
        · have hc : decide (p[j] ∈ p.take j) = true := hc
          rw [decide_eq_true_iff] at hc
          exact dec_false fun hh => (hh.2.2 j hl hl).2.2 hc
        · have hc : decide (p[j] ∈ p.take j) = false := hc
          rw [decide_eq_false_iff_not] at hc
          rw [wrap_nat (by omega)]
          exact hK hl _ rfl (dl_step hl hR hq.1 hq.2 hc)
    · have : j = p.length := by omega
      subst this
      exact dec_true ⟨by omega, by omega, hR⟩
theorem sound_specIsPerm : Sound Try.prog 150 s_isPerm :=
  Sound.mkS tabOK (envCons sound_inRange (envCons sound_containsInt envNil)) mixed Try.func150 (by kernel_rfl) (by kernel_rfl) fun x h => p_specIsPerm x.1 h
theorem p_implIsPerm (p : List Int) (h : short p) : fnW tab (look [(61, s_inRange), (136, s_lenL)]) s_isPerm Try.f137 (p, ()) (fun (z : Bool) => z = m_isPerm p) := by
  unfold short at h
  refine Eq.mp (w_implIsPerm p _) ⟨_, if_pos trivial, _, if_pos trivial, ⟨fun hp => ?_, fun hp => ?_⟩⟩
  · have hp := bnot_true hp
    rw [m_range_iff] at hp
    dsimp only at hp
    exact dec_false fun hh => hp ⟨by omega, by omega⟩
  · have hp := bnot_false hp
    rw [m_range_iff] at hp
    dsimp only at hp
    refine loop_range p.length (fun v => v.2.1) (fun j v => v.1 = (mask (p.take j) : Int) ∧ ∀ x ∈ p.take j, 0 ≤ x ∧ x < p.length) rfl ⟨rfl, by simp⟩ ?_
    rintro j ⟨m, i, ⟨⟩⟩ K hj hi ⟨hm, hR⟩ hK
    dsimp only at hi hm ⊢
    subst hi hm
    refine Br.dec (fun hl => ?_) fun hl => ?_
    · have hl : j < p.length := by omega
      refine ⟨_, idx_nat hl, _, if_pos trivial, _, if_pos trivial, ⟨fun hq => ?_, fun hq => ?_⟩⟩
      · have hq := bnot_true hq
        rw [m_range_iff] at hq
        dsimp only at hq
        rw [wrap_id (by omega) (by omega)] at hq
        exact dec_false fun hh => hq ⟨(hh.2.2 j hl hl).1, (hh.2.2 j hl hl).2.1⟩
      · have hq := bnot_false hq
        rw [m_range_iff] at hq
        dsimp only at hq
        rw [wrap_id (by omega) (by omega)] at hq
        refine ⟨by omega, ?_⟩
        rw [wrap_nat (by omega)]
        have hb : mask (p.take j) < 2 ^ 20 := mask_lt fun x hx => by have := hR x hx; omega
        refine hK hl _ rfl ⟨?_, ?_⟩
        · dsimp only
          rw [or_step hb hq.1 (by omega), List.take_succ_eq_append_getElem hl, mask_snoc]
        · rw [List.take_succ_eq_append_getElem hl]
          intro x hx
          rcases List.mem_append.1 hx with hx | hx
          · exact hR x hx
          · rw [List.mem_singleton.1 hx]; omega
    · have : j = p.length := by omega
      subst this
      rw [List.take_length] at hR ⊢
      refine ⟨by omega, ?_⟩
      have hx : (2 : Nat) ^ p.length ≤ 2 ^ 20 := Nat.pow_le_pow_right (by omega) (by omega)
      have hpos : 0 < (2 : Nat) ^ p.length := Nat.two_pow_pos _
      have e1 : min (p.length : Int).toNat IntKind.i64.bits = p.length := by show min (p.length : Int).toNat 64 = _; omega
      have e2 : (1 : Int) * (2 : Int) ^ p.length = ((2 ^ p.length : Nat) : Int) := by rw [Int.one_mul]; exact (Int.natCast_pow 2 _).symm
      rw [e1, e2, wrap_id (n := ((2 ^ p.length : Nat) : Int)) (by omega) (by omega), wrap_id (by omega) (by omega)]
      have hE : ((mask p : Int) == ((2 ^ p.length : Nat) : Int) - 1) = decide (mask p = 2 ^ p.length - 1) := by
        rw [Bool.eq_iff_iff, beq_iff_eq, decide_eq_true_iff]
        omega
      show ((mask p : Int) == ((2 ^ p.length : Nat) : Int) - 1) = m_isPerm p
      rw [hE]
      by_cases hf : mask p = 2 ^ p.length - 1
      · rw [decide_eq_true hf]
        have hn := (all_iff_nodup hR).1 ((mask_full hR).1 hf)
        refine dec_true ⟨by omega, by omega, fun j hj _ => ?_⟩
        have := hR _ (List.getElem_mem hj)
        exact ⟨this.1, by omega, hn j hj⟩
      · rw [decide_eq_false hf]
        refine dec_false fun hh => hf ((mask_full hR).2 ((all_iff_nodup hR).2 fun j hj => (hh.2.2 j hj hj).2.2))
theorem sound_implIsPerm : Sound Try.prog 137 s_isPerm :=
  Sound.mkS tabOK (envCons sound_within (envCons sound_lenL envNil)) mixed Try.func137 (by kernel_rfl) (by kernel_rfl) fun x h => p_implIsPerm x.1 h
theorem p_specIsGens (n : Int) (g : List (List Int)) (h : shortLL g) : fnW tab (look [(57, s_inRange), (150, s_isPerm)]) s_isGens Try.f111 (n, g, ()) (fun (z : Bool) => z = m_isGens n g) := by
  obtain ⟨h, h4⟩ := h
  refine Eq.mp (w_specIsGens n g _) ⟨_, if_pos trivial, ⟨fun hp => ?_, fun hp => ?_⟩⟩
  · have hp := bnot_true hp
    rw [m_range_iff] at hp
    exact dec_false fun hh => hp hh.1
  · have hp := bnot_false hp
    rw [m_range_iff] at hp
    refine Br.dec (fun hg => ?_) fun hg => ?_
    · exact dec_false fun hh => by have := hh.2.1; omega
    · refine loop_range g.length (fun v => v.1) (fun j _ => ∀ p ∈ g.take j, m_genOK n p = true) rfl (by simp) ?_
      rintro j ⟨i, ⟨⟩⟩ K hj hi hR hK
      dsimp only at hi ⊢
      subst hi
      refine Br.dec (fun hl => ?_) fun hl => ?_
      · have hl : j < g.length := by omega
        have hm : g[j] ∈ g := List.getElem_mem hl
        refine ⟨_, idx_nat hl, ⟨fun he => ?_, fun he => ?_⟩⟩
        · simp only [bne_iff_ne, ne_eq] at he
          exact dec_false fun hh => he (dec_iff.1 (hh.2.2 _ hm)).1
        · simp only [bne_eq_false_iff_eq] at he
          refine ⟨_, idx_nat hl, _, if_pos (h4 _ hm), ⟨fun hq => ?_, fun hq => ?_⟩⟩
          · have hq := bnot_true hq
            exact dec_false fun hh => hq (dec_iff.1 (hh.2.2 _ hm)).2
          · have hq := bnot_false hq
            rw [wrap_nat (by omega)]
            refine hK hl _ rfl ?_
            rw [List.take_succ_eq_append_getElem hl]
            intro x hx
            rcases List.mem_append.1 hx with hx | hx
            · exact hR x hx
            · rw [List.mem_singleton.1 hx]; exact dec_iff.2 ⟨he, hq⟩
      · have : j = g.length := by omega
        subst this
        rw [List.take_length] at hR
        exact dec_true ⟨hp, by omega, hR⟩
theorem sound_specIsGens : Sound Try.prog 111 s_isGens :=
  Sound.mkS tabOK (envCons sound_inRange (envCons sound_specIsPerm envNil)) mixed Try.func111 (by kernel_rfl) (by kernel_rfl) fun x h => p_specIsGens x.1 x.2.1 h
theorem p_gens1 (p : List Int) (n : Int) (h : short p) : fnW tab (look [(136, s_lenL), (137, s_isPerm)]) s_gens1 Try.f152 (p, n, ()) (fun (z : Bool) => z = !m_genOK n p) := by
  refine Eq.mp (w_gens1 p n _) ⟨_, if_pos trivial, ⟨fun he => ?_, fun he => ⟨_, if_pos h, ?_⟩⟩⟩
  · simp only [bne_iff_ne, ne_eq] at he
    have : m_genOK n p = false := dec_not.2 fun hh => he hh.1
    rw [this]; rfl
  · simp only [bne_eq_false_iff_eq] at he
    show (!m_isPerm p) = _
    congr 1
    cases hp : m_isPerm p with
    | true => exact dec_true ⟨he, hp⟩
    | false => exact dec_false fun hh => by rw [hh.2] at hp; cases hp
theorem sound_gens1 : Sound Try.prog 152 s_gens1 :=
  Sound.mkS tabOK (envCons sound_lenL (envCons sound_implIsPerm envNil)) mixed Try.func152 (by kernel_rfl) (by kernel_rfl) fun x h => p_gens1 x.1 x.2.1 h
theorem m_indexF_ge {α : Type} (P : α → Bool) : ∀ (l : List α) (i : Int), 0 ≤ i → (0 ≤ m_indexF P l i ↔ l.any P = true)
  | [], i, _ => by simp [m_indexF]
  | y :: r, i, h => by
    simp only [m_indexF, List.any_cons, Bool.or_eq_true]
    split
    · rename_i hy; simp [hy, h]
    · rename_i hy; rw [m_indexF_ge P r (i + 1) (by omega)]; simp [hy]
theorem p_ixG (g : List (List Int)) (n : Int × Unit) (h : shortLL g) : fnW tab (look [(152, s_gens1)]) s_ixG Try.f166 (g, n, ()) (fun (z : Int) => z = m_indexF (fun p => !m_genOK n.1 p) g 0) := by
  obtain ⟨h, h4⟩ := h
  refine Eq.mp (w_ixG g n _) ?_
  refine loop_range g.length (fun v => v.1) (fun j _ => m_indexF (fun p => !m_genOK n.1 p) (g.drop j) j = m_indexF (fun p => !m_genOK n.1 p) g 0) rfl (by simp) ?_
  rintro j ⟨i, ⟨⟩⟩ K hj hi hR hK
  dsimp only at hi ⊢
  subst hi
  refine Br.dec (fun hl => ?_) fun hl => ?_
  · have hl : j < g.length := by omega
    rw [List.drop_eq_getElem_cons hl] at hR
    simp only [m_indexF] at hR
    refine ⟨_, idx_nat hl, _, if_pos (h4 _ (List.getElem_mem hl)), ⟨fun he => ?_, fun he => ?_⟩⟩
    · have he : (!m_genOK n.1 g[j]) = true := he
      rw [if_pos he] at hR
      exact hR
    · have he : (!m_genOK n.1 g[j]) = false := he
      rw [if_neg (by rw [he]; decide)] at hR
      rw [wrap_nat (by omega)]
      exact hK hl _ rfl (by push_cast; exact hR)
  · have : j = g.length := by omega
    subst this
    rw [List.drop_length] at hR
    exact hR
theorem sound_ixG : Sound Try.prog 166 s_ixG :=
  Sound.mkS tabOK (envCons sound_gens1 envNil) mixed Try.func166 (by kernel_rfl) (by kernel_rfl) fun x h => p_ixG x.1 x.2.1 h
theorem p_ctG (g : List (List Int)) (n : Int × Unit) (h : shortLL g) : fnW tab (look [(166, s_ixG)]) s_ctG Try.f151 (g, n, ()) (fun (z : Bool) => z = List.any g (fun p => !m_genOK n.1 p)) := by
  refine Eq.mp (w_ctG g n _) ⟨_, if_pos h, ?_⟩
  rw [Bool.eq_iff_iff, decide_eq_true_iff]
  exact m_indexF_ge _ g 0 (Int.le_refl 0)
theorem sound_ctG : Sound Try.prog 151 s_ctG :=
  Sound.mkS tabOK (envCons sound_ixG envNil) mixed Try.func151 (by kernel_rfl) (by kernel_rfl) fun x h => p_ctG x.1 x.2.1 h
theorem p_implIsGens (n : Int) (g : List (List Int)) (h : shortLL g) : fnW tab (look [(61, s_inRange), (151, s_ctG)]) s_isGens Try.f114 (n, g, ()) (fun (z : Bool) => z = m_isGens n g) := by
  refine Eq.mp (w_implIsGens n g _) ⟨_, if_pos trivial, ⟨fun hp => ?_, fun hp => ?_⟩⟩
  · have hp : m_inRange n 1 20 = true := hp
    rw [m_range_iff] at hp
    refine Br.dec (fun hl => ⟨_, if_pos h, ?_⟩) fun hl => ?_
    · show (!List.any g (fun p => !m_genOK n p)) = m_isGens n g
      cases ha : List.any g (fun p => !m_genOK n p) with
      | true =>
        obtain ⟨p, hp1, hp2⟩ := List.any_eq_true.1 ha
        exact dec_false fun hh => by rw [hh.2.2 p hp1] at hp2; cases hp2
      | false =>
        refine dec_true ⟨hp, by omega, fun p hm => ?_⟩
        have := List.any_eq_false.1 ha p hm
        simpa using this
    · exact dec_false fun hh => by have := hh.2.1; omega
  · refine dec_false fun hh => ?_
    have : m_inRange n 1 20 = true := m_range_iff.2 hh.1
    have hp : m_inRange n 1 20 = false := hp
    rw [this] at hp; cases hp
theorem sound_implIsGens : Sound Try.prog 114 s_isGens :=
  Sound.mkS tabOK (envCons sound_within (envCons sound_ctG envNil)) mixed Try.func114 (by kernel_rfl) (by kernel_rfl) fun x h => p_implIsGens x.1 x.2.1 h
theorem byte_at {s : ByteArray} {k : Nat} (h : k < s.size) : s[k]? = some s[k] := getElem?_pos s k h
theorem p_nameAt (s : ByteArray) (i : Int) (h : 0 ≤ i ∧ i < s.size ∧ s.size ≤ 4294967296) : fnW tab (look []) s_nameAt Try.f112 (s, i, ()) (fun (z : Bool) => z = m_nameAt s i) := by
  obtain ⟨h1, h2, h3⟩ := h
  have hi : i.toNat < s.size := by omega
  refine Eq.mp (w_nameAt s i _) ⟨h1, _, byte_at hi, Br.dec (fun hq => ?_) fun hq => ⟨h1, _, byte_at hi, Br.dec (fun hr => ?_) fun hr => ?_⟩⟩
  · refine dec_false fun ⟨c, hc, hc1, _⟩ => ?_
    rw [byte_at hi] at hc; cases hc; omega
  · refine dec_false fun ⟨c, hc, _, hc1, _⟩ => ?_
    rw [byte_at hi] at hc; cases hc; omega
  · refine loop_range i.toNat (fun v => v.1) (fun j _ => ∀ k, k < j → s[k]? ≠ some s[i.toNat]) rfl (fun k hk => absurd hk (Nat.not_lt_zero _)) ?_
    rintro j ⟨i', ⟨⟩⟩ K hj hi' hR hK
    dsimp only at hi' ⊢
    subst hi'
    refine Br.dec (fun hl => ?_) fun hl => ?_
    · have hl : j < i.toNat := by omega
      have hj : j < s.size := by omega
      rw [Int.toNat_natCast]
      refine ⟨by omega, _, byte_at hj, h1, _, byte_at hi, ⟨fun he => ?_, fun he => ?_⟩⟩
      · simp only [beq_iff_eq, Int.natCast_inj] at he
        refine dec_false fun ⟨c, hc, _, _, hc1⟩ => ?_
        rw [byte_at hi] at hc; cases hc
        exact hc1 j hl (by rw [byte_at hj, UInt8.toNat_inj.1 he])
      · simp only [beq_eq_false_iff_ne, ne_eq, Int.natCast_inj] at he
        rw [wrap_nat (by omega)]
        refine hK hl _ rfl fun k hk => ?_
        by_cases e : k = j
        · subst e
          rw [byte_at hj]
          exact fun e => he (by rw [Option.some.inj e])
        · exact hR k (by omega)
    · have : j = i.toNat := by omega
      subst this
      exact dec_true ⟨_, byte_at hi, by omega, by omega, hR⟩
theorem sound_nameAt : Sound Try.prog 112 s_nameAt :=
  Sound.mkS tabOK envNil mixed Try.func112 (by kernel_rfl) (by kernel_rfl) fun x h => p_nameAt x.1 x.2.1 h
theorem p_isNames (s : ByteArray) (h : s.size ≤ 4294967296) : fnW tab (look [(61, s_inRange)]) s_isNames Try.f115 (s, ()) (fun (z : Bool) => z = m_isNames s) := by
  refine Eq.mp (w_isNames s _) ?_
  refine loop_range s.size (fun v => v.1) (fun j _ => ∀ k, k < j → NameAt s k) rfl (fun k hk => absurd hk (Nat.not_lt_zero _)) ?_
  rintro j ⟨i, ⟨⟩⟩ K hj hi hR hK
  dsimp only at hi ⊢
  subst hi
  refine Br.dec (fun hl => ?_) fun hl => ?_
  · have hl : j < s.size := by omega
    rw [Int.toNat_natCast]
    have hb := (s[j]).toNat_lt
    refine ⟨by omega, _, byte_at hl, _, if_pos trivial, ⟨fun hq => ?_, fun hq => ?_⟩⟩
    · have hq := bnot_true hq
      rw [m_range_iff] at hq
      dsimp only at hq
      rw [wrap_id (by omega) (by omega)] at hq
      refine dec_false fun hh => ?_
      obtain ⟨c, hc, hc1, hc2, _⟩ := hh.2 j hl
      rw [byte_at hl] at hc; cases hc
      exact hq ⟨by omega, by omega⟩
    · have hq := bnot_false hq
      rw [m_range_iff] at hq
      dsimp only at hq
      rw [wrap_id (by omega) (by omega)] at hq
      refine loop_range j (fun v => v.1) (fun m _ => ∀ k, k < m → s[k]? ≠ some s[j]) rfl (fun k hk => absurd hk (Nat.not_lt_zero _)) ?_
      rintro m ⟨i', ⟨⟩⟩ K' hm hi' hR' hK'
      dsimp only at hi' ⊢
      subst hi'
      refine Br.dec (fun hl' => ?_) fun hl' => ?_
      · have hl' : m < j := by omega
        have hm' : m < s.size := by omega
        rw [Int.toNat_natCast]
        refine ⟨by omega, _, byte_at hm', by omega, _, byte_at hl, ⟨fun he => ?_, fun he => ?_⟩⟩
        · simp only [beq_iff_eq, Int.natCast_inj] at he
          refine dec_false fun hh => ?_
          obtain ⟨c, hc, _, _, hc1⟩ := hh.2 j hl
          rw [byte_at hl] at hc; cases hc
          exact hc1 m hl' (by rw [byte_at hm', UInt8.toNat_inj.1 he])
        · simp only [beq_eq_false_iff_ne, ne_eq, Int.natCast_inj] at he
          rw [wrap_nat (by omega)]
          refine hK' hl' _ rfl fun k hk => ?_
          by_cases e : k = m
          · subst e
            rw [byte_at hm']
            exact fun e => he (by rw [Option.some.inj e])
          · exact hR' k (by omega)
      · have : m = j := by omega
        subst this
        rw [wrap_nat (by omega)]
        refine hK hl _ rfl fun k hk => ?_
        by_cases e : k = m
        · subst e
          exact ⟨_, byte_at hl, by omega, by omega, hR'⟩
        · exact hR k (by omega)
  · have : j = s.size := by omega
    subst this
    refine ⟨_, if_pos trivial, ?_⟩
    show m_inRange s.size 1 8 = _
    cases hr : m_inRange s.size 1 8 with
    | true => rw [m_range_iff] at hr; exact dec_true ⟨by omega, hR⟩
    | false => refine dec_false fun hh => ?_; rw [m_range_iff.2 ⟨by omega, by omega⟩] at hr; cases hr
theorem sound_isNames : Sound Try.prog 115 s_isNames :=
  Sound.mkS tabOK (envCons sound_within envNil) mixed Try.func115 (by kernel_rfl) (by kernel_rfl) fun x h => p_isNames x.1 h
theorem validP_len {p : PP} (h : m_validP p = true) : 1 ≤ p.1 ∧ p.1 ≤ 20 ∧ 1 ≤ p.2.2.1.length ∧ p.2.2.1.length ≤ 8 := by
  obtain ⟨h1, h2, h3⟩ := dec_iff.1 h
  obtain ⟨h4, h5, _⟩ := dec_iff.1 h1
  obtain ⟨h6, _⟩ := dec_iff.1 h2
  omega
theorem p_specValidP (p : PP) (h : shortP p) : fnW tab (look [(111, s_isGens), (112, s_nameAt)]) s_validP Try.f56 (p, ()) (fun (z : Bool) => z = m_validP p) := by
  obtain ⟨hn, hg⟩ := h
  refine Eq.mp (w_specValidP p _) ⟨fun h0 => ?_, fun h0 => ⟨fun h1 => ?_, fun h1 => ⟨_, if_pos hg, ⟨fun h2 => ?_, fun h2 => ?_⟩⟩⟩⟩
  · simp only [beq_iff_eq] at h0
    exact dec_false fun hh => by obtain ⟨_, h2, h3⟩ := hh; have := (dec_iff.1 h2).1; omega
  · simp only [bne_iff_ne, ne_eq, Int.natCast_inj] at h1
    exact dec_false fun hh => h1 hh.2.2
  · have h2 := bnot_true h2
    exact dec_false fun hh => h2 hh.1
  · simp only [beq_eq_false_iff_ne, ne_eq] at h0
    simp only [bne_eq_false_iff_eq, Int.natCast_inj] at h1
    have h2 : m_isGens p.1 p.2.2.1 = true := bnot_false h2
    refine loop_range p.2.1.size (fun v => v.1) (fun j v => v.2 = (p.1, p.2.1, p.2.2.1, ()) ∧ ∀ k, k < j → NameAt p.2.1 k) rfl ⟨rfl, fun k hk => absurd hk (Nat.not_lt_zero _)⟩ ?_
    rintro j ⟨i, v⟩ K hj hi ⟨hv, hR⟩ hK
    dsimp only at hi hv ⊢
    subst hi hv
    dsimp only
    refine Br.dec (fun hl => ?_) fun hl => ?_
    · have hl : j < p.2.1.size := by omega
      refine ⟨_, if_pos ⟨Int.natCast_nonneg j, Int.ofNat_lt.2 hl, hn⟩, ⟨fun hq => ?_, fun hq => ?_⟩⟩
      · have hq : ¬ m_nameAt p.2.1 j = true := bnot_true hq
        refine dec_false fun hh => hq (dec_iff.2 ?_)
        rw [Int.toNat_natCast]
        exact (dec_iff.1 hh.2.1).2 j hl
      · have hq : m_nameAt p.2.1 j = true := bnot_false hq
        have hq := dec_iff.1 hq
        rw [Int.toNat_natCast] at hq
        rw [wrap_nat (by omega)]
        refine hK hl _ rfl ⟨rfl, fun k hk => ?_⟩
        by_cases e : k = j
        · subst e; exact hq
        · exact hR k (by omega)
    · have : j = p.2.1.size := by omega
      subst this
      have := (dec_iff.1 h2).2.1
      exact dec_true ⟨h2, dec_iff.2 ⟨⟨by omega, by omega⟩, hR⟩, h1⟩
theorem sound_specValidP : Sound Try.prog 56 s_validP :=
  Sound.mkS tabOK (envCons sound_specIsGens (envCons sound_nameAt envNil)) mixed Try.func56 (by kernel_rfl) (by kernel_rfl) fun x h => p_specValidP x.1 h
theorem p_implValidP (p : PP) (h : shortP p) : fnW tab (look [(114, s_isGens), (115, s_isNames)]) s_validP Try.f60 (p, ()) (fun (z : Bool) => z = m_validP p) := by
  obtain ⟨hn, hg⟩ := h
  refine Eq.mp (w_implValidP p _) ⟨_, if_pos hg, ⟨fun h1 => ⟨_, if_pos hn, ⟨fun h2 => ?_, fun h2 => ?_⟩⟩, fun h1 => ?_⟩⟩
  · have h1 : m_isGens p.1 p.2.2.1 = true := h1
    have h2 : m_isNames p.2.1 = true := h2
    by_cases e : p.2.1.size = p.2.2.1.length
    · rw [e, beq_self_eq_true]; exact dec_true ⟨h1, h2, e⟩
    · rw [show ((p.2.1.size : Int) == (p.2.2.1.length : Int)) = false from beq_eq_false_iff_ne.2 (by omega)]; exact dec_false fun hh => e hh.2.2
  · have h2 : m_isNames p.2.1 = false := h2
    exact dec_false fun hh => by rw [hh.2.1] at h2; cases h2
  · have h1 : m_isGens p.1 p.2.2.1 = false := h1
    exact dec_false fun hh => by rw [hh.1] at h1; cases h1
theorem sound_implValidP : Sound Try.prog 60 s_validP :=
  Sound.mkS tabOK (envCons sound_implIsGens (envCons sound_isNames envNil)) mixed Try.func60 (by kernel_rfl) (by kernel_rfl) fun x h => p_implValidP x.1 h
theorem p_szP (p : PP) (room : Int) (h : shortP p ∧ roomy room) : fnW tab (look [(55, s_szLL)]) s_szP Try.f14 (p, room, ()) (fun (z : Int) => z = m_szP p room) := by
  obtain ⟨⟨h1, h2⟩, h3, h4⟩ := h
  refine Eq.mp (w_szP p room _) ?_
  rw [wrap_id (by omega) (by omega)]
  refine Br.dec (fun hn => ?_) fun hn => ⟨_, if_pos ⟨h2, by dsimp only; omega, by dsimp only; omega⟩, Br.dec (fun hm => ?_) fun hm => ?_⟩
  · simp only [m_szP, if_pos hn]
  · exact ((if_neg hn).trans (if_pos hm)).symm
  · exact ((if_neg hn).trans (if_neg hm)).symm
theorem sound_szP : Sound Try.prog 14 s_szP :=
  Sound.mkS tabOK (envCons sound_szLL envNil) mixed Try.func14 (by kernel_rfl) (by kernel_rfl) fun x h => p_szP x.1 x.2.1 h
theorem p_toP (p : PP) (h : shortP p) : fnW tab (look [(59, s_toLL)]) s_toP Try.f16 (p, ()) (fun (z : PP) => z = p) := Eq.mp (w_toP p _) ⟨_, if_pos h.2, rfl⟩
theorem sound_toP : Sound Try.prog 16 s_toP :=
  Sound.mkS tabOK (envCons sound_toLL envNil) mixed Try.func16 (by kernel_rfl) (by kernel_rfl) fun x h => p_toP x.1 h
theorem bytes_eq {a b : ByteArray} : (a.toList == b.toList) = decide (a = b) := by
  rw [Bool.eq_iff_iff, beq_iff_eq, decide_eq_true_iff, ByteArray.toList_eq, ByteArray.toList_eq]
  exact ⟨fun h => ByteArray.ext (Array.toList_inj.1 h), fun h => by rw [h]⟩
theorem p_eqP (a b : PP) (h : shortP a) : fnW tab (look [(35, s_eqLL)]) s_eqP Try.f19 (a, b, ()) (fun (z : Bool) => z = m_eqP a b) := by
  refine Eq.mp (w_eqP a b _) ⟨fun h1 => ?_, fun h1 => ⟨fun h2 => ?_, fun h2 => ⟨_, if_pos h.2, ⟨fun h3 => ?_, fun h3 => ?_⟩⟩⟩⟩
  · simp only [bne_iff_ne, ne_eq] at h1
    unfold m_eqP
    rw [decide_eq_false h1]; rfl
  · rw [bytes_eq] at h2
    unfold m_eqP
    cases hd : decide (a.2.1 = b.2.1) <;> simp_all
  · have h3 : (!m_eqLL a.2.2.1 b.2.2.1) = true := h3
    simp only [m_eqLL, Bool.not_eq_true'] at h3
    unfold m_eqP
    rw [h3]; simp
  · have h3 : (!m_eqLL a.2.2.1 b.2.2.1) = false := h3
    rw [bytes_eq] at h2
    simp only [m_eqLL] at h3
    simp only [bne_eq_false_iff_eq] at h1
    unfold m_eqP
    simp_all
theorem sound_eqP : Sound Try.prog 19 s_eqP :=
  Sound.mkS tabOK (envCons sound_eqLL envNil) mixed Try.func19 (by kernel_rfl) (by kernel_rfl) fun x h => p_eqP x.1 x.2.1 h
theorem m_eqP_self (p : PP) : m_eqP p p = true := by simp [m_eqP]
theorem bools_same {b : Bool} {P : Prop} (h : (!(b == b)) = true) : P := by simp at h
theorem not_self {b : Bool} {P : Prop} (h1 : b = true) (h : (!b) = true) : P := by rw [h1] at h; cases h
end Go.Proofs.Ytfghmbpogmcboaa

namespace Go.Proofs.Ytfghmbpogmcboaa
open Go.RowKit

def gets (xs : List Int) (i : Int) : Int := xs.getD i.toNat 0
def m_compose (p q : List Int) : List Int := p.map (gets q)
def foldSet (f : Nat → Nat) (g : Nat → Int) (m : Nat) (init : List Int) : List Int := (List.range m).foldl (fun (out : List Int) (i : Nat) => out.set (f i) (g i)) init
def m_inverse (p : List Int) : List Int := foldSet (fun i => (gets p (i : Int)).toNat) (fun i => (i : Int)) p.length (List.replicate p.length 0)
def inRow (n : Nat) (p : List Int) : Prop := ∀ y ∈ p, 0 ≤ y ∧ y < n
noncomputable abbrev s_inverse : Spec := mkS (.pair tL .unit) tL false true (fun x => List.length x.1 ≤ 20 ∧ inRow (List.length x.1) x.1) (fun x => m_inverse x.1)
noncomputable abbrev s_specInverse : Spec := mkS (.pair tL .unit) tL false true (fun x => m_isPerm x.1 = true) (fun x => m_inverse x.1)
def m_letterOf (g : List (List Int)) (l : Int) : List Int := if l > 0 then g.getD (l - 1).toNat [] else m_inverse (g.getD (-l - 1).toNat [])
def isLetter (n : Int) (l : Int) : Prop := l ≠ 0 ∧ -n ≤ l ∧ l ≤ n
noncomputable abbrev s_letterOf : Spec := mkS (.pair tLL (.pair tI .unit)) tL false false (fun x => isLetter (List.length x.1) x.2.1 ∧ List.length x.1 ≤ 8 ∧ ∀ p ∈ x.1, m_isPerm p = true) (fun x => m_letterOf x.1 x.2.1)
def m_letters (n : Nat) : List Int := (List.range n).flatMap fun (k : Nat) => [(k : Int) + 1, -((k : Int) + 1)]
noncomputable abbrev s_letters : Spec := mkS (.pair tI .unit) tL false true (fun x => 0 ≤ x.1 ∧ x.1 ≤ 8) (fun x => m_letters x.1.toNat)
noncomputable abbrev s_applyL : Spec := mkS (.pair tPuzzle (.pair tL (.pair tI .unit))) tL false true (fun x => m_validP x.1 = true ∧ List.length x.2.1 ≤ 20 ∧ (∀ y ∈ x.2.1, 0 ≤ y ∧ y < x.1.1) ∧ isLetter (List.length x.1.2.2.1) x.2.2.1) (fun x => m_compose x.2.1 (m_letterOf x.1.2.2.1 x.2.2.1))
theorem w_implInverse (p : List Int) (P : List Int → Prop) : (((0 : Int) ≤ (↑p.length : Int) ∧ (↑p.length : Int) < (↑maxRow : Int) + (1 : Int)) ∧
  (↑p.length : Int) = (↑p.length : Int) ∧
    (0 : Nat) = (0 : Nat) ∧
      (List.replicate (↑p.length : Int).toNat (Int.ofNat (nat_lit 0))).length = (List.replicate (↑p.length : Int).toNat (Int.ofNat (nat_lit 0))).length ∧
        WLoop
          (fun (v2 : Int × List Int × PUnit) (k3 : Int × List Int × PUnit → Prop) =>
            Br (decide (v2.fst < (↑p.length : Int)))
              (∃ (y4 : Int),
                idx p v2.fst = some y4 ∧
                  ((0 : Int) ≤ y4 ∧ y4 < (↑v2.2.fst.length : Int)) ∧
                    (0 : Nat) + y4.toNat < v2.2.fst.length ∧
                      (0 : Nat) = (0 : Nat) ∧
                        v2.2.fst.length = (v2.2.fst.set ((0 : Nat) + y4.toNat) v2.fst).length ∧ k3 (IntKind.i64.wrap (v2.fst + (1 : Int)), v2.2.fst.set ((0 : Nat) + y4.toNat) v2.fst, ()))
              (P (List.take v2.2.fst.length (List.drop (0 : Nat) v2.2.fst))))
          ((0 : Int), List.replicate (↑p.length : Int).toNat (Int.ofNat (nat_lit 0)), PUnit.unit)) = fnW tab (look []) s_inverse Try.f157 (p, ()) P := by kernel_rfl
theorem w_specInv (p : List Int) (P : List Int → Prop) : (((0 : Int) ≤ (↑p.length : Int) ∧ (↑p.length : Int) < (↑maxRow : Int) + (1 : Int)) ∧
  (↑p.length : Int) = (↑p.length : Int) ∧
    (0 : Nat) = (0 : Nat) ∧
      (List.replicate (↑p.length : Int).toNat (Int.ofNat (nat_lit 0))).length = (List.replicate (↑p.length : Int).toNat (Int.ofNat (nat_lit 0))).length ∧
        WLoop
          (fun (v2 : Int × List Int × PUnit) (k3 : Int × List Int × PUnit → Prop) =>
            Br (decide (v2.fst < (↑p.length : Int)))
              (∃ (y4 : Int),
                idx p v2.fst = some y4 ∧
                  ((0 : Int) ≤ y4 ∧ y4 < (↑v2.2.fst.length : Int)) ∧
                    (0 : Nat) + y4.toNat < v2.2.fst.length ∧
                      (0 : Nat) = (0 : Nat) ∧
                        v2.2.fst.length = (v2.2.fst.set ((0 : Nat) + y4.toNat) v2.fst).length ∧ k3 (IntKind.i64.wrap (v2.fst + (1 : Int)), v2.2.fst.set ((0 : Nat) + y4.toNat) v2.fst, ()))
              (P (List.take v2.2.fst.length (List.drop (0 : Nat) v2.2.fst))))
          ((0 : Int), List.replicate (↑p.length : Int).toNat (Int.ofNat (nat_lit 0)), PUnit.unit)) = fnW tab (look []) s_inverse Try.f167 (p, ()) P := by kernel_rfl
theorem w_specInverse (p : List Int) (P : List Int → Prop) : (∃ (y2 : Bool), s_isPerm.fn (p, ()) = some y2 ∧ Br (!y2) (P (List.take (0 : Nat) (List.drop (0 : Nat) []))) (∃ (y3 : List Int), s_inverse.fn (p, ()) = some y3 ∧ P y3)) = fnW tab (look [(150, s_isPerm), (167, s_inverse)]) s_specInverse Try.f154 (p, ()) P := by kernel_rfl
theorem w_letterOf (g : List (List Int)) (l : Int) (P : List Int → Prop) : (Br (decide (l > (0 : Int))) (∃ (y3 : List Int), idx g (IntKind.i64.wrap (l - (1 : Int))) = some y3 ∧ P y3)
  (∃ (y3 : List Int), idx g (IntKind.i64.wrap (IntKind.i64.wrap ((0 : Int) - l) - (1 : Int))) = some y3 ∧ ∃ (y4 : List Int), s_inverse.fn (y3, ()) = some y4 ∧ P y4)) = fnW tab (look [(157, s_inverse)]) s_letterOf Try.f130 (g, l, ()) P := by kernel_rfl
theorem w_letters (n : Int) (P : List Int → Prop) : ((0 : Nat) = (0 : Nat) ∧
  (0 : Nat) = ([] : List Int).length ∧
    WLoop
      (fun (v2 : Int × List Int × PUnit) (k3 : Int × List Int × PUnit → Prop) =>
        Br (decide (v2.fst < n))
          ((0 : Nat) = (0 : Nat) ∧
            v2.2.fst.length = v2.2.fst.length ∧
              v2.2.fst.length + (List.take (2 : Nat) (List.drop (0 : Nat) [IntKind.i64.wrap (v2.fst + (1 : Int)), IntKind.i64.wrap ((0 : Int) - IntKind.i64.wrap (v2.fst + (1 : Int)))])).length ≤
                  maxRow ∧
                (0 : Nat) = (0 : Nat) ∧
                  (v2.2.fst ++ List.take (2 : Nat) (List.drop (0 : Nat) [IntKind.i64.wrap (v2.fst + (1 : Int)), IntKind.i64.wrap ((0 : Int) - IntKind.i64.wrap (v2.fst + (1 : Int)))])).length =
                      (v2.2.fst ++ List.take (2 : Nat) (List.drop (0 : Nat) [IntKind.i64.wrap (v2.fst + (1 : Int)), IntKind.i64.wrap ((0 : Int) - IntKind.i64.wrap (v2.fst + (1 : Int)))])).length ∧
                    k3
                      (IntKind.i64.wrap (v2.fst + (1 : Int)),
                        v2.2.fst ++ List.take (2 : Nat) (List.drop (0 : Nat) [IntKind.i64.wrap (v2.fst + (1 : Int)), IntKind.i64.wrap ((0 : Int) - IntKind.i64.wrap (v2.fst + (1 : Int)))]), ()))
          (P (List.take v2.2.fst.length (List.drop (0 : Nat) v2.2.fst))))
      ((0 : Int), [], PUnit.unit)) = fnW tab (look []) s_letters Try.f64 (n, ()) P := by kernel_rfl
theorem w_applyL (p : Int × ByteArray × List (List Int) × Unit) (s : List Int) (l : Int) (P : List Int → Prop) : (∃ (y4 : List Int),
  idx p.snd.2.fst
        (IntKind.i64.wrap
          ((if true = true then if IntKind.i64.wrap ((0 : Int) - l) > l then IntKind.i64.wrap ((0 : Int) - l) else l
            else if IntKind.i64.wrap ((0 : Int) - l) < l then IntKind.i64.wrap ((0 : Int) - l) else l) -
            (1 : Int))) =
      some y4 ∧
    Br (decide (l < (0 : Int)))
      (∃ (y5 : List Int),
        s_specInverse.fn (y4, ()) = some y5 ∧
          (0 : Nat) = (0 : Nat) ∧
            (0 : Nat) = ([] : List Int).length ∧
              WLoop
                (fun (v6 : Int × List Int × PUnit) (k7 : Int × List Int × PUnit → Prop) =>
                  Br (decide (v6.fst < (↑s.length : Int)))
                    (∃ (y8 : Int),
                      idx s v6.fst = some y8 ∧
                        ∃ (y9 : Int),
                          idx y5 y8 = some y9 ∧
                            (0 : Nat) = (0 : Nat) ∧
                              v6.2.fst.length = v6.2.fst.length ∧
                                v6.2.fst.length + (List.take (1 : Nat) (List.drop (0 : Nat) [y9])).length ≤ maxRow ∧
                                  (0 : Nat) = (0 : Nat) ∧
                                    (v6.2.fst ++ List.take (1 : Nat) (List.drop (0 : Nat) [y9])).length = (v6.2.fst ++ List.take (1 : Nat) (List.drop (0 : Nat) [y9])).length ∧
                                      k7 (IntKind.i64.wrap (v6.fst + (1 : Int)), v6.2.fst ++ List.take (1 : Nat) (List.drop (0 : Nat) [y9]), ()))
                    (P (List.take v6.2.fst.length (List.drop (0 : Nat) v6.2.fst))))
                ((0 : Int), [], PUnit.unit))
      ((0 : Nat) = (0 : Nat) ∧
        (0 : Nat) = ([] : List Int).length ∧
          WLoop
            (fun (v5 : Int × List Int × PUnit) (k6 : Int × List Int × PUnit → Prop) =>
              Br (decide (v5.fst < (↑s.length : Int)))
                (∃ (y7 : Int),
                  idx s v5.fst = some y7 ∧
                    ∃ (y8 : Int),
                      idx y4 y7 = some y8 ∧
                        (0 : Nat) = (0 : Nat) ∧
                          v5.2.fst.length = v5.2.fst.length ∧
                            v5.2.fst.length + (List.take (1 : Nat) (List.drop (0 : Nat) [y8])).length ≤ maxRow ∧
                              (0 : Nat) = (0 : Nat) ∧
                                (v5.2.fst ++ List.take (1 : Nat) (List.drop (0 : Nat) [y8])).length = (v5.2.fst ++ List.take (1 : Nat) (List.drop (0 : Nat) [y8])).length ∧
                                  k6 (IntKind.i64.wrap (v5.fst + (1 : Int)), v5.2.fst ++ List.take (1 : Nat) (List.drop (0 : Nat) [y8]), ()))
                (P (List.take v5.2.fst.length (List.drop (0 : Nat) v5.2.fst))))
            ((0 : Int), [], PUnit.unit))) = fnW tab (look [(154, s_specInverse)]) s_applyL Try.f124 (p, s, l, ()) P := by kernel_rfl
theorem gets_nat {xs : List Int} {i : Nat} (h : i < xs.length) : gets xs (i : Int) = xs[i] := by
  unfold gets
  rw [Int.toNat_natCast, List.getD_eq_getElem?_getD, List.getElem?_eq_getElem h]; rfl
theorem idx_gets {xs : List Int} {y : Int} (h0 : 0 ≤ y) (h : y < xs.length) : idx xs y = some (gets xs y) := by
  have hy : y.toNat < xs.length := by omega
  have e : y = (y.toNat : Int) := by omega
  rw [e, idx_nat hy, gets_nat hy]
theorem foldSet_succ (f : Nat → Nat) (g : Nat → Int) (m : Nat) (init : List Int) : foldSet f g (m + 1) init = (foldSet f g m init).set (f m) (g m) := by simp [foldSet, List.range_succ]
theorem foldSet_len (f : Nat → Nat) (g : Nat → Int) (m : Nat) (init : List Int) : (foldSet f g m init).length = init.length := by
  induction m with
  | zero => rfl
  | succ m ih => rw [foldSet_succ, List.length_set, ih]
theorem foldSet_get (f : Nat → Nat) (g : Nat → Int) (init : List Int) : ∀ (m : Nat), (∀ i j, i < m → j < m → f i = f j → i = j) → ∀ i, i < m → f i < init.length → (foldSet f g m init)[f i]? = some (g i)
  | 0, _, i, h, _ => absurd h (Nat.not_lt_zero _)
  | m + 1, hf, i, hi, hl => by
    rw [foldSet_succ]
    by_cases e : i = m
    · subst e
      exact List.getElem?_set_self (by rw [foldSet_len]; exact hl)
    · rw [List.getElem?_set_ne (fun h => e (hf i m hi (by omega) h.symm))]
      exact foldSet_get f g init m (fun a b ha hb => hf a b (by omega) (by omega)) i (by omega) hl
structure PermOK (p : List Int) : Prop where
  pos : 1 ≤ p.length
  len : p.length ≤ 20
  row : inRow p.length p
  nodup : p.Nodup
theorem permOK {p : List Int} (h : m_isPerm p = true) : PermOK p := by
  obtain ⟨h1, h2, h3⟩ := dec_iff.1 h
  refine ⟨h1, h2, fun y hy => ?_, nodup_of_takes fun j hj => (h3 j hj hj).2.2⟩
  obtain ⟨j, hj, rfl⟩ := List.mem_iff_getElem.1 hy
  have := h3 j hj hj
  omega
theorem PermOK.inj {p : List Int} (h : PermOK p) (i j : Nat) (hi : i < p.length) (hj : j < p.length) (e : (gets p (i : Int)).toNat = (gets p (j : Int)).toNat) : i = j := by
  rw [gets_nat hi, gets_nat hj] at e
  have h1 := h.row _ (List.getElem_mem hi)
  have h2 := h.row _ (List.getElem_mem hj)
  have e : p[i] = p[j] := by omega
  refine Classical.byContradiction fun hne => ?_
  rcases Nat.lt_or_gt_of_ne hne with hl | hl
  · exact List.pairwise_iff_getElem.1 h.nodup i j hi hj hl e
  · exact List.pairwise_iff_getElem.1 h.nodup j i hj hi hl e.symm
theorem PermOK.onto {p : List Int} (h : PermOK p) (k : Nat) (hk : k < p.length) : ∃ i, i < p.length ∧ (gets p (i : Int)).toNat = k := by
  have hm := (all_iff_nodup (xs := p) h.row).2 (takes_of_nodup h.nodup) k hk
  obtain ⟨i, hi, e⟩ := List.mem_iff_getElem.1 hm
  exact ⟨i, hi, by rw [gets_nat hi, e]; exact Int.toNat_natCast k⟩
theorem PermOK.lt {p : List Int} (h : PermOK p) {i : Nat} (hi : i < p.length) : (gets p (i : Int)).toNat < p.length := by
  rw [gets_nat hi]
  have := h.row _ (List.getElem_mem hi)
  omega
theorem inv_len (p : List Int) : (m_inverse p).length = p.length := by unfold m_inverse; rw [foldSet_len, List.length_replicate]
theorem inv_at {p : List Int} (h : PermOK p) {i : Nat} (hi : i < p.length) : (m_inverse p)[(gets p (i : Int)).toNat]? = some (i : Int) :=
  foldSet_get (fun i => (gets p (i : Int)).toNat) (fun i => (i : Int)) _ p.length (fun i j hi hj => h.inj i j hi hj) i hi (by rw [List.length_replicate]; exact h.lt hi)
theorem inv_row {p : List Int} (h : PermOK p) : inRow p.length (m_inverse p) := by
  intro y hy
  obtain ⟨k, hk, rfl⟩ := List.mem_iff_getElem.1 hy
  have hk' : k < p.length := by rw [inv_len] at hk; exact hk
  obtain ⟨i, hi, rfl⟩ := h.onto k hk'
  have := inv_at h hi
  rw [List.getElem?_eq_getElem hk] at this
  rw [Option.some.inj this]
  omega
theorem compose_len (p q : List Int) : (m_compose p q).length = p.length := by simp [m_compose]
theorem compose_row {p q : List Int} {n : Nat} (hp : inRow q.length p) (hq : inRow n q) : inRow n (m_compose p q) := by
  intro y hy
  obtain ⟨x, hx, rfl⟩ := List.mem_map.1 hy
  have h1 := hp x hx
  rw [show x = (x.toNat : Int) by omega, gets_nat (by omega)]
  exact hq _ (List.getElem_mem _)
theorem p_implInverse (p : List Int) (h : p.length ≤ 20 ∧ inRow p.length p) : fnW tab (look []) s_inverse Try.f157 (p, ()) (fun (z : List Int) => z = m_inverse p) := by
  obtain ⟨h, hr⟩ := h
  refine Eq.mp (w_implInverse p _) ?_
  refine ⟨⟨by omega, by show (p.length : Int) < (4294967296 : Int) + 1; omega⟩, rfl, rfl, rfl, ?_⟩
  refine loop_range p.length (fun v => v.1) (fun j v => v.2.1 = foldSet (fun i => (gets p (i : Int)).toNat) (fun i => (i : Int)) j (List.replicate p.length 0)) rfl rfl ?_
  rintro j ⟨i, ys, ⟨⟩⟩ K hj hi h1 hK
  dsimp only at hi h1 ⊢
  subst hi
  have hlen : ys.length = p.length := by rw [h1, foldSet_len, List.length_replicate]
  refine Br.dec (fun hl => ?_) fun hl => ?_
  · have hl : j < p.length := by omega
    have hy := hr _ (List.getElem_mem hl)
    refine ⟨_, idx_nat hl, ⟨by omega, by omega⟩, by omega, rfl, by rw [List.length_set], ?_⟩
    rw [wrap_nat (by omega), Nat.zero_add]
    refine hK hl _ rfl ?_
    rw [foldSet_succ, ← h1, gets_nat hl]
  · have : j = p.length := by omega
    subst this
    rw [List.drop_zero, List.take_length]
    exact h1
theorem sound_implInverse : Sound Try.prog 157 s_inverse :=
  Sound.mkS tabOK envNil mixed Try.func157 (by kernel_rfl) (by kernel_rfl) fun x h => p_implInverse x.1 h
theorem p_specInv (p : List Int) (h : p.length ≤ 20 ∧ inRow p.length p) : fnW tab (look []) s_inverse Try.f167 (p, ()) (fun (z : List Int) => z = m_inverse p) := by
  obtain ⟨h, hr⟩ := h
  refine Eq.mp (w_specInv p _) ?_
  refine ⟨⟨by omega, by show (p.length : Int) < (4294967296 : Int) + 1; omega⟩, rfl, rfl, rfl, ?_⟩
  refine loop_range p.length (fun v => v.1) (fun j v => v.2.1 = foldSet (fun i => (gets p (i : Int)).toNat) (fun i => (i : Int)) j (List.replicate p.length 0)) rfl rfl ?_
  rintro j ⟨i, ys, ⟨⟩⟩ K hj hi h1 hK
  dsimp only at hi h1 ⊢
  subst hi
  have hlen : ys.length = p.length := by rw [h1, foldSet_len, List.length_replicate]
  refine Br.dec (fun hl => ?_) fun hl => ?_
  · have hl : j < p.length := by omega
    have hy := hr _ (List.getElem_mem hl)
    refine ⟨_, idx_nat hl, ⟨by omega, by omega⟩, by omega, rfl, by rw [List.length_set], ?_⟩
    rw [wrap_nat (by omega), Nat.zero_add]
    refine hK hl _ rfl ?_
    rw [foldSet_succ, ← h1, gets_nat hl]
  · have : j = p.length := by omega
    subst this
    rw [List.drop_zero, List.take_length]
    exact h1
theorem sound_specInv : Sound Try.prog 167 s_inverse :=
  Sound.mkS tabOK envNil mixed Try.func167 (by kernel_rfl) (by kernel_rfl) fun x h => p_specInv x.1 h
theorem p_specInverse (p : List Int) (h : m_isPerm p = true) : fnW tab (look [(150, s_isPerm), (167, s_inverse)]) s_specInverse Try.f154 (p, ()) (fun (z : List Int) => z = m_inverse p) := by
  have hp := permOK h
  have hs : short p := by have := hp.len; unfold short; omega
  refine Eq.mp (w_specInverse p _) ⟨_, if_pos hs, ⟨fun he => ?_, fun _ => ⟨_, if_pos ⟨hp.len, hp.row⟩, rfl⟩⟩⟩
  exact absurd h (bnot_true he)
theorem sound_specInverse : Sound Try.prog 154 s_specInverse :=
  Sound.mkS tabOK (envCons sound_specIsPerm (envCons sound_specInv envNil)) mixed Try.func154 (by kernel_rfl) (by kernel_rfl) fun x h => p_specInverse x.1 h
theorem upto_succ (j : Nat) : upto (j + 1) = upto j ++ [(j : Int)] := by simp [upto, List.range_succ]
theorem letter_pos {g : List (List Int)} {k : Nat} (h : k < g.length) : m_letterOf g ((k : Int) + 1) = g[k] := by
  unfold m_letterOf
  rw [if_pos (by omega), show ((k : Int) + 1 - 1).toNat = k by omega, List.getD_eq_getElem?_getD, List.getElem?_eq_getElem h]; rfl
theorem letter_neg {g : List (List Int)} {k : Nat} (h : k < g.length) : m_letterOf g (-((k : Int) + 1)) = m_inverse g[k] := by
  unfold m_letterOf
  rw [if_neg (by omega), show (-(-((k : Int) + 1)) - 1).toNat = k by omega, List.getD_eq_getElem?_getD, List.getElem?_eq_getElem h]; rfl
theorem letter_cases {n : Nat} {l : Int} (h : isLetter n l) : ∃ k : Nat, k < n ∧ (l = (k : Int) + 1 ∨ l = -((k : Int) + 1)) := by
  obtain ⟨h1, h2, h3⟩ := h
  by_cases h0 : 0 < l
  · exact ⟨(l - 1).toNat, by omega, .inl (by omega)⟩
  · exact ⟨(-l - 1).toNat, by omega, .inr (by omega)⟩
theorem p_letterOf (g : List (List Int)) (l : Int) (h : isLetter (List.length g) l ∧ List.length g ≤ 8 ∧ ∀ p ∈ g, m_isPerm p = true) : fnW tab (look [(157, s_inverse)]) s_letterOf Try.f130 (g, l, ()) (fun (z : List Int) => z = m_letterOf g l) := by
  obtain ⟨hl, h8, hp⟩ := h
  refine Eq.mp (w_letterOf g l _) ?_
  obtain ⟨k, hk, rfl | rfl⟩ := letter_cases hl
  · refine Br.dec (fun _ => ?_) fun hn => by omega
    rw [wrap_id (by omega) (by omega), show (k : Int) + 1 - 1 = (k : Int) by omega]
    exact ⟨_, idx_nat hk, (letter_pos hk).symm⟩
  · refine Br.dec (fun hn => by omega) fun _ => ?_
    rw [wrap_id (n := 0 - -((k : Int) + 1)) (by omega) (by omega), wrap_id (by omega) (by omega), show (0 : Int) - -((k : Int) + 1) - 1 = (k : Int) by omega]
    have := permOK (hp _ (List.getElem_mem hk))
    exact ⟨_, idx_nat hk, _, if_pos ⟨this.len, this.row⟩, (letter_neg hk).symm⟩
theorem sound_letterOf : Sound Try.prog 130 s_letterOf :=
  Sound.mkS tabOK (envCons sound_implInverse envNil) mixed Try.func130 (by kernel_rfl) (by kernel_rfl) fun x h => p_letterOf x.1 x.2.1 h
theorem m_letters_succ (j : Nat) : m_letters (j + 1) = m_letters j ++ [(j : Int) + 1, -((j : Int) + 1)] := by simp [m_letters, List.range_succ, List.flatMap_append]
theorem m_letters_len (j : Nat) : (m_letters j).length = 2 * j := by
  induction j with
  | zero => rfl
  | succ j ih => rw [m_letters_succ, List.length_append, ih]; simp only [List.length_cons, List.length_nil]; omega
theorem mem_letters {n : Nat} {l : Int} (h : l ∈ m_letters n) : isLetter n l := by
  unfold m_letters at h
  obtain ⟨k, hk, hl⟩ := List.mem_flatMap.1 h
  have hk := List.mem_range.1 hk
  simp only [List.mem_cons, List.not_mem_nil, or_false] at hl
  unfold isLetter
  omega
theorem p_letters (n : Int) (h : 0 ≤ n ∧ n ≤ 8) : fnW tab (look []) s_letters Try.f64 (n, ()) (fun (z : List Int) => z = m_letters n.toNat) := by
  refine Eq.mp (w_letters n _) ⟨rfl, rfl, ?_⟩
  refine loop_range n.toNat (fun v => v.1) (fun j v => v.2.1 = m_letters j) rfl rfl ?_
  rintro j ⟨i, ys, ⟨⟩⟩ K hj hi h1 hK
  dsimp only at hi h1 ⊢
  subst hi h1
  refine Br.dec (fun hl => ?_) fun hl => ?_
  · refine ⟨rfl, rfl, ?_, rfl, rfl, ?_⟩
    · show (m_letters j).length + 2 ≤ 4294967296
      rw [m_letters_len]; omega
    · have e1 : IntKind.i64.wrap ((j : Int) + 1) = (j : Int) + 1 := wrap_id (by omega) (by omega)
      have e2 : IntKind.i64.wrap ((0 : Int) - ((j : Int) + 1)) = -((j : Int) + 1) := by rw [wrap_id (by omega) (by omega)]; omega
      rw [e1, e2]
      exact hK (by omega) _ rfl (m_letters_succ j).symm
  · have : j = n.toNat := by omega
    subst this
    rw [List.drop_zero, List.take_length]
theorem sound_letters : Sound Try.prog 64 s_letters :=
  Sound.mkS tabOK envNil mixed Try.func64 (by kernel_rfl) (by kernel_rfl) fun x h => p_letters x.1 h
structure Valid (p : PP) : Prop where
  n : 1 ≤ p.1 ∧ p.1 ≤ 20
  few : 1 ≤ p.2.2.1.length ∧ p.2.2.1.length ≤ 8
  perm : ∀ m ∈ p.2.2.1, m_isPerm m = true
  len : ∀ m ∈ p.2.2.1, (m.length : Int) = p.1
theorem valid {p : PP} (h : m_validP p = true) : Valid p := by
  have h0 := validP_len h
  obtain ⟨h1, _, _⟩ := dec_iff.1 h
  obtain ⟨_, _, h4⟩ := dec_iff.1 h1
  exact ⟨⟨h0.1, h0.2.1⟩, h0.2.2, fun m hm => (dec_iff.1 (h4 m hm)).2, fun m hm => (dec_iff.1 (h4 m hm)).1⟩
theorem letter_ok {p : PP} (h : Valid p) {l : Int} (hl : isLetter (List.length p.2.2.1) l) : ((m_letterOf p.2.2.1 l).length : Int) = p.1 ∧ inRow (m_letterOf p.2.2.1 l).length (m_letterOf p.2.2.1 l) := by
  obtain ⟨k, hk, rfl | rfl⟩ := letter_cases hl
  · rw [letter_pos hk]
    exact ⟨h.len _ (List.getElem_mem hk), (permOK (h.perm _ (List.getElem_mem hk))).row⟩
  · rw [letter_neg hk, inv_len]
    exact ⟨h.len _ (List.getElem_mem hk), inv_row (permOK (h.perm _ (List.getElem_mem hk)))⟩
theorem app_loop (s y : List Int) (P : List Int → Prop) (h1 : s.length ≤ 20) (h2 : inRow y.length s) (h3 : P (m_compose s y)) :
    WLoop
      (fun (v5 : Int × List Int × PUnit) (k6 : Int × List Int × PUnit → Prop) =>
        Br (decide (v5.fst < (↑s.length : Int)))
          (∃ (y7 : Int),
            idx s v5.fst = some y7 ∧
              ∃ (y8 : Int),
                idx y y7 = some y8 ∧
                  (0 : Nat) = (0 : Nat) ∧
                    v5.2.fst.length = v5.2.fst.length ∧
                      v5.2.fst.length + (List.take (1 : Nat) (List.drop (0 : Nat) [y8])).length ≤ maxRow ∧
                        (0 : Nat) = (0 : Nat) ∧
                          (v5.2.fst ++ List.take (1 : Nat) (List.drop (0 : Nat) [y8])).length = (v5.2.fst ++ List.take (1 : Nat) (List.drop (0 : Nat) [y8])).length ∧
                            k6 (IntKind.i64.wrap (v5.fst + (1 : Int)), v5.2.fst ++ List.take (1 : Nat) (List.drop (0 : Nat) [y8]), ()))
          (P (List.take v5.2.fst.length (List.drop (0 : Nat) v5.2.fst))))
      ((0 : Int), ([] : List Int), PUnit.unit) := by
  refine loop_range s.length (fun v => v.1) (fun j v => v.2.1 = (s.take j).map (gets y)) rfl (by simp) ?_
  rintro j ⟨i, ys, ⟨⟩⟩ K hj hi hR hK
  dsimp only at hi hR ⊢
  subst hi hR
  refine Br.dec (fun hl => ?_) fun hl => ?_
  · have hl : j < s.length := by omega
    have hy := h2 _ (List.getElem_mem hl)
    refine ⟨_, idx_nat hl, _, idx_gets hy.1 hy.2, rfl, rfl, ?_, rfl, rfl, ?_⟩
    · show ((s.take j).map (gets y)).length + 1 ≤ 4294967296
      rw [List.length_map, List.length_take]; omega
    · rw [wrap_nat (by omega)]
      refine hK hl _ rfl ?_
      dsimp only
      rw [List.take_succ_eq_append_getElem hl, List.map_append]
      rfl
  · have : j = s.length := by omega
    subst this
    rw [List.drop_zero, List.take_length, List.take_length]
    exact h3
theorem p_applyL (p : PP) (s : List Int) (l : Int) (h : m_validP p = true ∧ List.length s ≤ 20 ∧ (∀ y ∈ s, 0 ≤ y ∧ y < p.1) ∧ isLetter (List.length p.2.2.1) l) : fnW tab (look [(154, s_specInverse)]) s_applyL Try.f124 (p, s, l, ()) (fun (z : List Int) => z = m_compose s (m_letterOf p.2.2.1 l)) := by
  obtain ⟨hv, hs, hr, hl⟩ := h
  have hv := valid hv
  have hf := hv.few
  refine Eq.mp (w_applyL p s l _) ?_
  have hlo := letter_ok hv hl
  have hrow : inRow (m_letterOf p.2.2.1 l).length s := fun y hy => by have := hr y hy; omega
  obtain ⟨k, hk, rfl | rfl⟩ := letter_cases hl
  · rw [if_pos rfl, wrap_id (n := 0 - ((k : Int) + 1)) (by omega) (by omega), if_neg (by omega), wrap_id (by omega) (by omega), show (k : Int) + 1 - 1 = (k : Int) by omega]
    refine ⟨_, idx_nat hk, Br.dec (fun hn => by omega) fun _ => ⟨rfl, rfl, ?_⟩⟩
    rw [letter_pos hk] at hrow ⊢
    exact app_loop s _ (fun z => z = m_compose s p.2.2.1[k]) hs hrow rfl
  · rw [if_pos rfl, wrap_id (n := 0 - -((k : Int) + 1)) (by omega) (by omega), if_pos (by omega), wrap_id (by omega) (by omega), show (0 : Int) - -((k : Int) + 1) - 1 = (k : Int) by omega]
    refine ⟨_, idx_nat hk, Br.dec (fun _ => ⟨_, if_pos (hv.perm _ (List.getElem_mem hk)), rfl, rfl, ?_⟩) fun hn => by omega⟩
    rw [letter_neg hk] at hrow ⊢
    exact app_loop s (m_inverse p.2.2.1[k]) (fun z => z = m_compose s (m_inverse p.2.2.1[k])) hs hrow rfl
theorem sound_applyL : Sound Try.prog 124 s_applyL :=
  Sound.mkS tabOK (envCons sound_specInverse envNil) mixed Try.func124 (by kernel_rfl) (by kernel_rfl) fun x h => p_applyL x.1 x.2.1 x.2.2.1 h
end Go.Proofs.Ytfghmbpogmcboaa

namespace Go.Proofs.Ytfghmbpogmcboaa
open Go.RowKit

abbrev rL : CK := .row tI 2
abbrev xLL : CK := .xrow tL 26
def m_total : List (List Int) → Nat
  | [] => 0
  | r :: rs => r.length + m_total rs
def low (k : Int) : Prop := 0 ≤ k ∧ k ≤ 1099511627776
theorem whole_row {α : Type} (xs : List α) : List.take xs.length (List.drop 0 xs) = xs := by rw [List.drop_zero, List.take_length]
end Go.Proofs.Ytfghmbpogmcboaa

namespace Go.Proofs.Ytfghmbpogmcboaa
open Go.RowKit

theorem sz_low {n : Nat} {room : Int} (h : ¬ m_sz n room < 0) : m_sz n room = room - n ∧ (n : Int) ≤ room := by
  unfold m_sz at *
  split at h
  · exact absurd (show (-1 : Int) < 0 by decide) h
  · rename_i h1; rw [if_neg h1]; exact ⟨rfl, by omega⟩
theorem szGo_low : ∀ (xs : List (List Int)) (room : Int), 0 ≤ room → ¬ szGo xs room < 0 → szGo xs room = room - m_total xs
  | [], room, _, _ => by simp [szGo, m_total]
  | r :: xs, room, h0, h => by
    simp only [szGo, m_total] at h ⊢
    split at h
    · exact absurd (show (-1 : Int) < 0 by decide) h
    · rename_i h1
      rw [if_neg h1]
      have e1 := sz_low (n := r.length) h1
      have e1 : m_szL r room = room - r.length ∧ (r.length : Int) ≤ room := e1
      rw [szGo_low xs _ (by rw [e1.1]; omega) h, e1.1]
      omega
theorem szLL_low {xs : List (List Int)} {room : Int} (h : ¬ m_szLL xs room < 0) : m_szLL xs room = room - xs.length - m_total xs := by
  unfold m_szLL at *
  split at h
  · exact absurd (show (-1 : Int) < 0 by decide) h
  · rename_i h1
    rw [if_neg h1]
    have e1 := sz_low h1
    rw [szGo_low xs _ (by rw [e1.1]; omega) h, e1.1]
end Go.Proofs.Ytfghmbpogmcboaa

namespace Go.Proofs.Ytfghmbpogmcboaa
open Go.RowKit

noncomputable abbrev s_cloneO : MSpec := mkM [none] [(false, .dat (.oslice tI))] false [none] [rL] (fun x => short (x.1.getD [])) (fun x => ((x.1.getD [], ()), ()))
noncomputable abbrev s_cloneM : MSpec := mkM [none] [(false, .dat tL)] false [none] [rL] (fun x => short x.1) (fun x => ((x.1, ()), ()))
noncomputable abbrev s_copyInts : Spec := mkS (.pair tL .unit) tL false true (fun x => short x.1) (fun x => x.1)
theorem w_cloneO (xs : Option (List Int)) (P : ((List Int × Unit) × Unit) → Prop) : (Br xs.isNone (P ((List.take (0 : Nat) (List.drop (0 : Nat) []), ()), ()))
  ((0 : Nat) = (0 : Nat) ∧ (0 : Nat) = ([] : List Int).length ∧ (0 : Nat) + (xs.getD []).length ≤ maxRow ∧ P ((List.take ([] ++ xs.getD []).length (List.drop (0 : Nat) ([] ++ xs.getD [])), ()), ()))) = fnMW tabT (look []) s_cloneO Try.f76 (xs, ()) P := by kernel_rfl
theorem w_copyInts (xs : List Int) (P : List Int → Prop) : ((0 : Nat) = (0 : Nat) ∧ (0 : Nat) = ([] : List Int).length ∧ (0 : Nat) + xs.length ≤ maxRow ∧ P (List.take ([] ++ xs).length (List.drop (0 : Nat) ([] ++ xs)))) = fnW tab (look []) s_copyInts Try.f70 (xs, ()) P := by kernel_rfl
theorem p_cloneO (xs : Option (List Int)) (h : short (xs.getD [])) : fnMW tabT (look []) s_cloneO Try.f76 (xs, ()) (fun (z : (List Int × Unit) × Unit) => z = ((xs.getD [], ()), ())) := by
  unfold short at h
  refine Eq.mp (w_cloneO xs _) ⟨fun hn => ?_, fun _ => ⟨rfl, rfl, by show 0 + (xs.getD []).length ≤ 4294967296; omega, ?_⟩⟩
  · cases xs with
    | none => rfl
    | some y => cases hn
  · simp only [whole_row, List.nil_append]
theorem sound_cloneO : MSound Try.prog 76 s_cloneO :=
  MSound.mkM tabTOK envNil mixed Try.func76 (by kernel_rfl) (by kernel_rfl) fun x h => p_cloneO x.1 h
theorem sound_cloneM : MSound Try.prog 76 s_cloneM := MSound.ofO sound_cloneO fun _ _ h => ⟨h, rfl⟩
theorem p_copyInts (xs : List Int) (h : short xs) : fnW tab (look []) s_copyInts Try.f70 (xs, ()) (fun (z : List Int) => z = xs) := by
  unfold short at h
  refine Eq.mp (w_copyInts xs _) ⟨rfl, rfl, by show 0 + xs.length ≤ 4294967296; omega, ?_⟩
  simp only [whole_row, List.nil_append]
theorem sound_copyInts : Sound Try.prog 70 s_copyInts :=
  Sound.mkS tabOK envNil mixed Try.func70 (by kernel_rfl) (by kernel_rfl) fun x h => p_copyInts x.1 h
end Go.Proofs.Ytfghmbpogmcboaa

namespace Go.Proofs.Ytfghmbpogmcboaa
open Go.RowKit

/-- The entries at some indices. -/
def m_picked (xs is : List Int) : List Int := is.map (gets xs)
noncomputable abbrev s_pickedM : MSpec := mkM [none, none] [(false, .dat tL), (false, .dat tL)] false [none] [rL] (fun x => short x.2.1 ∧ inRow (List.length x.1) x.2.1) (fun x => ((m_picked x.1 x.2.1, ()), ()))
def m_key (xs : List Int) : ByteArray := bytesOf (xs.map fun x => IntKind.u8.wrap x)
noncomputable abbrev s_stateKey : Spec := mkS (.pair tL .unit) .str false true (fun x => short x.1) (fun x => m_key x.1)
def posIn (ps : List (List Int)) (p : List Int) : Int := m_indexF (fun q => decide (q = p)) ps 0
theorem w_pickedM (xs is : List Int) (P : ((List Int × Unit) × Unit) → Prop) : (((0 : Int) ≤ (↑is.length : Int) ∧ (↑is.length : Int) < (↑maxRow : Int) + (1 : Int)) ∧
  (↑is.length : Int) = (↑is.length : Int) ∧
    (0 : Nat) = (0 : Nat) ∧
      (List.replicate (↑is.length : Int).toNat (Int.ofNat (nat_lit 0))).length = (List.replicate (↑is.length : Int).toNat (Int.ofNat (nat_lit 0))).length ∧
        WLoop
          (fun (v3 : Int × List Int × PUnit) (k4 : Int × List Int × PUnit → Prop) =>
            Br (decide (v3.fst < (↑is.length : Int)))
              (∃ (y5 : Int),
                idx is v3.fst = some y5 ∧
                  ∃ (y6 : Int),
                    idx xs y5 = some y6 ∧
                      ((0 : Int) ≤ v3.fst ∧ v3.fst < (↑v3.2.fst.length : Int)) ∧
                        (0 : Nat) + v3.fst.toNat < v3.2.fst.length ∧
                          (0 : Nat) = (0 : Nat) ∧
                            v3.2.fst.length = (v3.2.fst.set ((0 : Nat) + v3.fst.toNat) y6).length ∧ k4 (IntKind.i64.wrap (v3.fst + (1 : Int)), v3.2.fst.set ((0 : Nat) + v3.fst.toNat) y6, ()))
              (P ((List.take v3.2.fst.length (List.drop (0 : Nat) v3.2.fst), ()), ())))
          ((0 : Int), List.replicate (↑is.length : Int).toNat (Int.ofNat (nat_lit 0)), PUnit.unit)) = fnMW tabT (look []) s_pickedM Try.f77 (xs, is, ()) P := by kernel_rfl
theorem w_stateKey (xs : List Int) (P : ByteArray → Prop) : (((0 : Int) ≤ (↑xs.length : Int) ∧ (↑xs.length : Int) < (↑maxRow : Int) + (1 : Int)) ∧
  (↑xs.length : Int) = (↑xs.length : Int) ∧
    (0 : Nat) = (0 : Nat) ∧
      (List.replicate (↑xs.length : Int).toNat (Int.ofNat (nat_lit 0))).length = (List.replicate (↑xs.length : Int).toNat (Int.ofNat (nat_lit 0))).length ∧
        WLoop
          (fun (v2 : Int × List Int × PUnit) (k3 : Int × List Int × PUnit → Prop) =>
            Br (decide (v2.fst < (↑xs.length : Int)))
              (∃ (y4 : Int),
                idx xs v2.fst = some y4 ∧
                  ((0 : Int) ≤ v2.fst ∧ v2.fst < (↑v2.2.fst.length : Int)) ∧
                    (0 : Nat) + v2.fst.toNat < v2.2.fst.length ∧
                      (0 : Nat) = (0 : Nat) ∧
                        v2.2.fst.length = (v2.2.fst.set ((0 : Nat) + v2.fst.toNat) (IntKind.u8.wrap y4)).length ∧
                          k3 (IntKind.i64.wrap (v2.fst + (1 : Int)), v2.2.fst.set ((0 : Nat) + v2.fst.toNat) (IntKind.u8.wrap y4), ()))
              (P (bytesOf (List.take v2.2.fst.length (List.drop (0 : Nat) v2.2.fst)))))
          ((0 : Int), List.replicate (↑xs.length : Int).toNat (Int.ofNat (nat_lit 0)), PUnit.unit)) = fnW tab (look []) s_stateKey Try.f78 (xs, ()) P := by kernel_rfl
theorem pick_len (xs is : List Int) : (m_picked xs is).length = is.length := by simp [m_picked]
theorem p_pickedM (xs is : List Int) (h : short is ∧ inRow xs.length is) : fnMW tabT (look []) s_pickedM Try.f77 (xs, is, ()) (fun (z : (List Int × Unit) × Unit) => z = ((m_picked xs is, ()), ())) := by
  obtain ⟨h, hr⟩ := h
  unfold short at h
  refine Eq.mp (w_pickedM xs is _) ?_
  refine ⟨⟨by omega, by show (is.length : Int) < (4294967296 : Int) + 1; omega⟩, rfl, rfl, rfl, ?_⟩
  have hcl := pick_len xs is
  refine loop_range is.length (fun v => v.1) (fun j v => v.2.1.length = (m_picked xs is).length ∧ v.2.1.take j = (m_picked xs is).take j) rfl ⟨by rw [hcl]; simp, by simp⟩ ?_
  rintro j ⟨i, ys, ⟨⟩⟩ K hj hi ⟨h1, h2⟩ hK
  dsimp only at hi h1 h2 ⊢
  subst hi
  refine Br.dec (fun hl => ?_) fun hl => ?_
  · have hl : j < is.length := by omega
    have hy := hr _ (List.getElem_mem hl)
    refine ⟨_, idx_nat hl, _, idx_gets hy.1 hy.2, ⟨by omega, by omega⟩, by rw [Int.toNat_natCast]; omega, rfl, by rw [List.length_set], ?_⟩
    rw [wrap_nat (by omega), Int.toNat_natCast, Nat.zero_add]
    have hl' : j < (m_picked xs is).length := by rw [hcl]; exact hl
    have e : gets xs is[j] = (m_picked xs is)[j] := by simp [m_picked]
    rw [e]
    exact hK hl _ rfl ⟨by rw [List.length_set]; exact h1, take_set_succ hl' h1 h2⟩
  · have : j = is.length := by omega
    subst this
    rw [← hcl, List.take_length, ← h1, List.take_length] at h2
    rw [List.drop_zero, List.take_length, h2]
theorem sound_pickedM : MSound Try.prog 77 s_pickedM :=
  MSound.mkM tabTOK envNil mixed Try.func77 (by kernel_rfl) (by kernel_rfl) fun x h => p_pickedM x.1 x.2.1 h
theorem p_stateKey (xs : List Int) (h : short xs) : fnW tab (look []) s_stateKey Try.f78 (xs, ()) (fun (z : ByteArray) => z = m_key xs) := by
  unfold short at h
  refine Eq.mp (w_stateKey xs _) ?_
  refine ⟨⟨by omega, by show (xs.length : Int) < (4294967296 : Int) + 1; omega⟩, rfl, rfl, rfl, ?_⟩
  have hcl : (xs.map fun x => IntKind.u8.wrap x).length = xs.length := by simp
  refine loop_range xs.length (fun v => v.1) (fun j v => v.2.1.length = (xs.map fun x => IntKind.u8.wrap x).length ∧ v.2.1.take j = (xs.map fun x => IntKind.u8.wrap x).take j) rfl ⟨by rw [hcl]; simp, by simp⟩ ?_
  rintro j ⟨i, ys, ⟨⟩⟩ K hj hi ⟨h1, h2⟩ hK
  dsimp only at hi h1 h2 ⊢
  subst hi
  refine Br.dec (fun hl => ?_) fun hl => ?_
  · have hl : j < xs.length := by omega
    refine ⟨_, idx_nat hl, ⟨by omega, by omega⟩, by rw [Int.toNat_natCast]; omega, rfl, by rw [List.length_set], ?_⟩
    rw [wrap_nat (by omega), Int.toNat_natCast, Nat.zero_add]
    have hl' : j < (xs.map fun x => IntKind.u8.wrap x).length := by rw [hcl]; exact hl
    have e : IntKind.u8.wrap xs[j] = (xs.map fun x => IntKind.u8.wrap x)[j] := by simp
    rw [e]
    exact hK hl _ rfl ⟨by rw [List.length_set]; exact h1, take_set_succ hl' h1 h2⟩
  · have : j = xs.length := by omega
    subst this
    rw [← hcl, List.take_length, ← h1, List.take_length] at h2
    rw [List.drop_zero, List.take_length, h2]; rfl
theorem sound_stateKey : Sound Try.prog 78 s_stateKey :=
  Sound.mkS tabOK envNil mixed Try.func78 (by kernel_rfl) (by kernel_rfl) fun x h => p_stateKey x.1 h
theorem m_indexF_append {α : Type} (P : α → Bool) (y : α) : ∀ (l : List α) (i : Int), 0 ≤ i → m_indexF P (l ++ [y]) i = if m_indexF P l i < 0 then (if P y = true then i + l.length else -1) else m_indexF P l i
  | [], i, _ => by simp [m_indexF]
  | x :: r, i, h => by
    simp only [List.cons_append, m_indexF, List.length_cons]
    split
    · rw [if_neg (by omega)]
    · rw [m_indexF_append P y r (i + 1) (by omega), show i + 1 + (r.length : Int) = i + ((r.length + 1 : Nat) : Int) by push_cast; omega]
theorem posIn_append (ps : List (List Int)) (q p : List Int) : posIn (ps ++ [q]) p = if posIn ps p < 0 then (if q = p then (ps.length : Int) else -1) else posIn ps p := by
  unfold posIn
  rw [m_indexF_append _ _ _ _ (Int.le_refl 0)]
  simp only [decide_eq_true_eq, Int.zero_add]
/-- Entries that fit a byte. -/
def byteL (p : List Int) : Prop := ∀ x ∈ p, 0 ≤ x ∧ x < 256
theorem byte_inj {x y : Int} (hx : 0 ≤ x ∧ x < 256) (hy : 0 ≤ y ∧ y < 256) (h : UInt8.ofNat (IntKind.u8.wrap x).toNat = UInt8.ofNat (IntKind.u8.wrap y).toNat) : x = y := by
  have h := congrArg UInt8.toNat h
  simp only [IntKind.wrap_u8, UInt8.toNat_ofNat'] at h
  omega
theorem bytes_inj : ∀ (p q : List Int), byteL p → byteL q → (p.map fun x => UInt8.ofNat (IntKind.u8.wrap x).toNat) = (q.map fun x => UInt8.ofNat (IntKind.u8.wrap x).toNat) → p = q
  | [], [], _, _, _ => rfl
  | [], _ :: _, _, _, h => by simp at h
  | _ :: _, [], _, _, h => by simp at h
  | x :: p, y :: q, hp, hq, h => by
    simp only [List.map_cons, List.cons.injEq] at h
    rw [byte_inj (hp x (by simp)) (hq y (by simp)) h.1, bytes_inj p q (fun z hz => hp z (by simp [hz])) (fun z hz => hq z (by simp [hz])) h.2]
theorem key_inj {p q : List Int} (hp : byteL p) (hq : byteL q) (h : m_key p = m_key q) : p = q := by
  refine bytes_inj p q hp hq ?_
  simp only [m_key, bytesOf, ByteArray.mk.injEq, List.map_map] at h
  have h := congrArg Array.toList h
  simpa [Function.comp_def] using h
/-- The index holds each pattern's place. -/
def KM (m : ByteArray → Option Int) (ps : List (List Int)) : Prop := ∀ p, byteL p → m (m_key p) = if posIn ps p < 0 then none else some (posIn ps p)
theorem KM.nil : KM (fun _ => none) [] := fun p _ => by
  rw [if_pos (by unfold posIn; simp [m_indexF])]
theorem KM.add {m : ByteArray → Option Int} {ps : List (List Int)} {q : List Int} (h : KM m ps) (hq : byteL q) (hn : posIn ps q < 0) : KM (upd1 m (m_key q) (ps.length : Int)) (ps ++ [q]) := by
  intro p hp
  rw [posIn_append]
  unfold upd1
  by_cases e : p = q
  · subst e
    rw [if_pos rfl, if_pos hn, if_pos rfl, if_neg (by omega)]
  · rw [if_neg (fun hk => e (key_inj hp hq hk)), h p hp]
    have e' : ¬ q = p := fun h => e h.symm
    rw [if_neg e']
    by_cases hpn : posIn ps p < 0
    · rw [if_pos hpn, if_pos hpn, if_pos (by decide)]
    · rw [if_neg hpn, if_neg hpn, if_neg hpn]
end Go.Proofs.Ytfghmbpogmcboaa

namespace Go.Proofs.Ytfghmbpogmcboaa
open Go.RowKit

noncomputable abbrev s_lettersOf : Spec := mkS (.pair tPuzzle .unit) tL false true (fun x => List.length x.1.2.2.1 ≤ 8) (fun x => m_letters (List.length x.1.2.2.1))
theorem w_lettersOf (p : Int × ByteArray × List (List Int) × Unit) (P : List Int → Prop) : ((0 : Nat) = (0 : Nat) ∧
  (0 : Nat) = ([] : List Int).length ∧
    WLoop
      (fun (v2 : Int × Int × ByteArray × List (List Int) × List Int × PUnit) (k3 : Int × Int × ByteArray × List (List Int) × List Int × PUnit → Prop) =>
        Br (decide (v2.fst ≤ (↑v2.2.snd.2.fst.length : Int)))
          ((0 : Nat) = (0 : Nat) ∧
            v2.snd.2.snd.2.fst.length = v2.snd.2.snd.2.fst.length ∧
              v2.snd.2.snd.2.fst.length + (List.take (2 : Nat) (List.drop (0 : Nat) [v2.fst, IntKind.i64.wrap ((0 : Int) - v2.fst)])).length ≤ maxRow ∧
                (0 : Nat) = (0 : Nat) ∧
                  (v2.snd.2.snd.2.fst ++ List.take (2 : Nat) (List.drop (0 : Nat) [v2.fst, IntKind.i64.wrap ((0 : Int) - v2.fst)])).length =
                      (v2.snd.2.snd.2.fst ++ List.take (2 : Nat) (List.drop (0 : Nat) [v2.fst, IntKind.i64.wrap ((0 : Int) - v2.fst)])).length ∧
                    k3
                      (IntKind.i64.wrap (v2.fst + (1 : Int)), v2.2.fst, v2.snd.2.fst, v2.2.snd.2.fst,
                        v2.snd.2.snd.2.fst ++ List.take (2 : Nat) (List.drop (0 : Nat) [v2.fst, IntKind.i64.wrap ((0 : Int) - v2.fst)]), ()))
          (P (List.take v2.snd.2.snd.2.fst.length (List.drop (0 : Nat) v2.snd.2.snd.2.fst))))
      ((1 : Int), p.fst, p.2.fst, p.snd.2.fst, [], PUnit.unit)) = fnW tab (look []) s_lettersOf Try.f113 (p, ()) P := by kernel_rfl
theorem p_lettersOf (p : PP) (h : List.length p.2.2.1 ≤ 8) : fnW tab (look []) s_lettersOf Try.f113 (p, ()) (fun (z : List Int) => z = m_letters (List.length p.2.2.1)) := by
  refine Eq.mp (w_lettersOf p _) ⟨rfl, rfl, ?_⟩
  refine WLoop.mk (fun v => ∃ j : Nat, j ≤ List.length p.2.2.1 ∧ v = ((j : Int) + 1, p.1, p.2.1, p.2.2.1, m_letters j, ())) (fun v => List.length p.2.2.1 + 1 - v.1.toNat) ⟨0, Nat.zero_le _, rfl⟩ ?_
  rintro _ ⟨j, hj, rfl⟩
  dsimp only
  refine Br.dec (fun hl => ?_) fun hl => ?_
  · refine ⟨rfl, rfl, ?_, rfl, rfl, ⟨j + 1, by omega, ?_⟩, ?_⟩
    · show (m_letters j).length + 2 ≤ 4294967296
      rw [m_letters_len]; omega
    · rw [m_letters_succ, wrap_id (n := (j : Int) + 1 + 1) (by omega) (by omega), wrap_id (n := 0 - ((j : Int) + 1)) (by omega) (by omega), Int.zero_sub]
      rfl
    · rw [wrap_id (by omega) (by omega)]; omega
  · have : j = List.length p.2.2.1 := by omega
    subst this
    rw [whole_row]
theorem sound_lettersOf : Sound Try.prog 113 s_lettersOf :=
  Sound.mkS tabOK envNil mixed Try.func113 (by kernel_rfl) (by kernel_rfl) fun x h => p_lettersOf x.1 h
theorem szP_room {p : PP} {room : Int} (hr : roomy room) (h : ¬ m_szP p room < 0) : (m_total p.2.2.1 : Int) ≤ room - m_szP p room ∧ roomy (m_szP p room) := by
  unfold m_szP at h ⊢
  split at h
  · exact absurd (show (-1 : Int) < 0 by decide) h
  · rename_i h1
    rw [if_neg h1]
    split at h
    · exact absurd (show (-1 : Int) < 0 by decide) h
    · rename_i h2
      rw [if_neg h2]
      have e2 := szLL_low h2
      obtain ⟨r1, r2⟩ := hr
      unfold roomy
      omega
end Go.Proofs.Ytfghmbpogmcboaa

namespace Go.Proofs.Ytfghmbpogmcboaa
open Go.RowKit

/-- The next permutation in order, if there is one. -/
def lastGt (v : Int) : List Int → Nat
  | [] => 0
  | x :: r => if x > v then lastGt v r + 1 else 0
def m_pivot (v : Int) (t : List Int) : Option (List Int) := if lastGt v t = 0 then none else some (gets t ((lastGt v t - 1 : Nat) : Int) :: (t.set (lastGt v t - 1) v).reverse)
def m_next : List Int → Option (List Int)
  | [] => none
  | v :: t => match m_next t with
    | some t' => some (v :: t')
    | none => m_pivot v t
theorem next_pre {s s' : List Int} (h : m_next s = some s') : ∀ pre : List Int, m_next (pre ++ s) = some (pre ++ s')
  | [] => h
  | v :: p => by rw [List.cons_append, m_next, next_pre h p]; rfl
theorem set_mid {α : Type} (pre : List α) (v a : α) (t : List α) : (pre ++ v :: t).set pre.length a = pre ++ a :: t := by
  rw [List.set_append, if_neg (by omega)]; simp
/-- From a on, each the next of the one before it, up to b. -/
inductive Run : List Int → List (List Int) → List Int → Prop where
  | one (a : List Int) : Run a [a] a
  | more {a c b : List Int} {L : List (List Int)} : m_next a = some c → Run c L b → Run a (a :: L) b
theorem Run.cons {a b : List Int} {L : List (List Int)} (h : Run a L b) (v : Int) : Run (v :: a) (L.map (v :: ·)) (v :: b) := by
  induction h with
  | one a => exact .one _
  | more h3 _ ih => exact .more (next_pre h3 [v]) ih
/-- A list run through from one to the next. -/
theorem Run.head {a b : List Int} {L : List (List Int)} (h : Run a L b) : ∃ M, L = a :: M := by
  cases h with
  | one => exact ⟨_, rfl⟩
  | more _ _ => exact ⟨_, rfl⟩
theorem Run.at {a b : List Int} {L : List (List Int)} (h : Run a L b) : ∀ j (hj : j < L.length), (∀ h2 : j + 1 < L.length, m_next L[j] = some L[j + 1]) ∧ (j + 1 = L.length → L[j] = b) := by
  induction h with
  | one a =>
    intro j hj
    simp only [List.length_singleton] at hj
    have : j = 0 := by omega
    subst this
    exact ⟨fun h2 => by simp at h2, fun _ => rfl⟩
  | more h3 h4 ih =>
    intro j hj
    rcases j with _ | j
    · obtain ⟨M, hM⟩ := h4.head
      refine ⟨fun h2 => ?_, fun h2 => ?_⟩
      · simp only [List.getElem_cons_zero, List.getElem_cons_succ]
        subst hM
        exact h3
      · subst hM; simp at h2
    · have := ih j (by simpa using hj)
      refine ⟨fun h2 => ?_, fun h2 => ?_⟩
      · simp only [List.getElem_cons_succ]
        exact this.1 (by simpa using h2)
      · simp only [List.getElem_cons_succ]
        exact this.2 (by simpa using h2)
theorem Run.distinct {a b : List Int} {L : List (List Int)} (h : Run a L b) (hb : m_next b = none) : ∀ k i j (hi : i < L.length) (hj : j < L.length), L.length - j = k → i < j → L[i] ≠ L[j] := by
  intro k
  induction k with
  | zero => intro i j hi hj hk; omega
  | succ k ih =>
    intro i j hi hj hk hij he
    by_cases e : j + 1 < L.length
    · have h1 := (h.at i hi).1 (by omega)
      have h2 := (h.at j hj).1 e
      rw [he, h2] at h1
      exact ih (i + 1) (j + 1) (by omega) e (by omega) (by omega) (Option.some.inj h1).symm
    · have h1 := (h.at i hi).1 (by omega)
      have h2 := (h.at j hj).2 (by omega)
      rw [he, h2, hb] at h1
      cases h1
theorem Run.idx {a b : List Int} {L : List (List Int)} (h : Run a L b) (hb : m_next b = none) {j : Nat} (hj : j < L.length) : L.idxOf L[j] = j := by
  have h1 : L.idxOf L[j] < L.length := List.idxOf_lt_length_of_mem (List.getElem_mem _)
  have h2 : L[L.idxOf L[j]] = L[j] := List.getElem_idxOf h1
  rcases Nat.lt_trichotomy (L.idxOf L[j]) j with h3 | h3 | h3
  · exact absurd h2 (h.distinct hb _ _ _ h1 hj rfl h3)
  · exact h3
  · exact absurd h2.symm (h.distinct hb _ _ _ hj h1 rfl h3)
end Go.Proofs.Ytfghmbpogmcboaa

namespace Go.Proofs.Ytfghmbpogmcboaa
open Go.RowKit

def m_compare : List Int → List Int → Int
  | [], [] => 0
  | [], _ :: _ => -1
  | _ :: _, [] => 1
  | x :: a, y :: b => if x < y then -1 else if x > y then 1 else m_compare a b
def m_lt (a b : List Int) : Bool := decide (m_compare a b < 0)
noncomputable abbrev s_precedes : Spec := mkS (.pair tL (.pair tL .unit)) .bool false true (fun x => short x.1 ∧ List.length x.1 = List.length x.2.1) (fun x => m_lt x.1 x.2.1)
theorem w_precedes (a b : List Int) (P : Bool → Prop) : (WLoop
  (fun (v3 : Int × PUnit) (k4 : Int × PUnit → Prop) =>
    Br (decide (v3.fst < (↑a.length : Int)))
      (∃ (y5 : Int),
        idx a v3.fst = some y5 ∧
          ∃ (y6 : Int),
            idx b v3.fst = some y6 ∧
              Br (y5 != y6) (∃ (y7 : Int), idx a v3.fst = some y7 ∧ ∃ (y8 : Int), idx b v3.fst = some y8 ∧ P (decide (y7 < y8))) (k4 (IntKind.i64.wrap (v3.fst + (1 : Int)), ())))
      (P false))
  ((0 : Int), PUnit.unit)) = fnW tab (look []) s_precedes Try.f135 (a, b, ()) P := by kernel_rfl
theorem Sound.ofO {P : Program} {f : FuncId} {e : Ty} {r res : Ty} {multi fresh : Bool} {pre : (Ty.pair (.oslice e) r).den → Prop} {val : (Ty.pair (.oslice e) r).den → res.den} {pre' : (Ty.pair (.slice e) r).den → Prop} {val' : (Ty.pair (.slice e) r).den → res.den}
    (h : Sound P f (Go.Proofs.Ytfghmbpogmcboaa.mkS (.pair (.oslice e) r) res multi fresh pre val))
    (hp : ∀ (o : Option (List e.den)) (y : r.den), pre' (o.getD [], y) → pre (o, y) ∧ val (o, y) = val' (o.getD [], y)) : Sound P f (Go.Proofs.Ytfghmbpogmcboaa.mkS (.pair (.slice e) r) res multi fresh pre' val') := by
  refine ⟨h.enter, fun w S vs x y hS h2 h5 => ?_⟩
  obtain ⟨xs, rest⟩ := x
  cases vs with
  | nil => exact h2.elim
  | cons u us =>
    obtain ⟨h7, h8⟩ := h2
    obtain ⟨ox, h9, rfl⟩ := h7.told
    have hpre : pre' (ox.getD [], rest) := Classical.byContradiction fun hn => by
      have : (Go.Proofs.Ytfghmbpogmcboaa.mkS (.pair (.slice e) r) res multi fresh pre' val').fn (ox.getD [], rest) = none := if_neg hn
      rw [this] at h5; cases h5
    obtain ⟨k1, k2⟩ := hp ox rest hpre
    have hv : (Go.Proofs.Ytfghmbpogmcboaa.mkS (.pair (.slice e) r) res multi fresh pre' val').fn (ox.getD [], rest) = some (val' (ox.getD [], rest)) := if_pos hpre
    rw [hv] at h5
    have h5 := Option.some.inj h5
    exact h.calls w S (u :: us) (ox, rest) y hS ⟨h9, h8⟩ ((if_pos k1).trans (by rw [k2]; exact congrArg some h5))
theorem p_precedes (a b : List Int) (h : short a ∧ a.length = b.length) : fnW tab (look []) s_precedes Try.f135 (a, b, ()) (fun (z : Bool) => z = m_lt a b) := by
  obtain ⟨ha, hb⟩ := h
  unfold short at ha
  refine Eq.mp (w_precedes a b _) ?_
  refine loop_range a.length (fun v => v.1) (fun j _ => m_compare (a.drop j) (b.drop j) = m_compare a b) rfl (by simp) ?_
  rintro j ⟨i, ⟨⟩⟩ K hj hi hR2 hK
  dsimp only at hi ⊢
  subst hi
  refine Br.dec (fun hl => ?_) fun hl => ?_
  · have hl : j < a.length := by omega
    have hlb : j < b.length := by omega
    rw [List.drop_eq_getElem_cons hl, List.drop_eq_getElem_cons hlb] at hR2
    simp only [m_compare] at hR2
    refine ⟨_, idx_nat hl, _, idx_nat hlb, ⟨fun hne => ?_, fun hne => ?_⟩⟩
    · refine ⟨_, idx_nat hl, _, idx_nat hlb, ?_⟩
      have hne : a[j] ≠ b[j] := by simpa using hne
      unfold m_lt
      rw [← hR2]
      by_cases h1 : a[j] < b[j]
      · rw [if_pos h1]; simp [h1]
      · rw [if_neg h1, if_pos (by omega)]; simp [h1]
    · have hne : a[j] = b[j] := by simpa using hne
      rw [if_neg (by omega), if_neg (by omega)] at hR2
      rw [wrap_nat (by omega)]
      exact hK hl _ rfl hR2
  · have : j = a.length := by omega
    subst this
    rw [List.drop_length, List.drop_eq_nil_of_le (by omega)] at hR2
    unfold m_lt
    rw [← hR2]
    rfl
theorem sound_precedes : Sound Try.prog 135 s_precedes :=
  Sound.mkS tabOK envNil mixed Try.func135 (by kernel_rfl) (by kernel_rfl) fun x h => p_precedes x.1 x.2.1 h
end Go.Proofs.Ytfghmbpogmcboaa

namespace Go.Proofs.Ytfghmbpogmcboaa
open Go.RowKit

abbrev SS : Type := List (List Int) × List Int × List Int × Bool × Unit
abbrev rLS : CK := .row tL 26
abbrev rN : CK := .row tI 3
/-- Where a list is or would be put among the sorted ones. -/
def slotOf (L : List (List Int)) (srt : List Int) (s : List Int) : Nat := (srt.takeWhile fun i => m_lt (L.getD i.toNat []) s).length
structure SearchOK (m : Nat) (L : List (List Int)) (srt : List Int) : Prop where
  few : L.length ≤ 3000
  len : ∀ x ∈ L, x.length = m
  short : m ≤ 20
  perm : srt.Perm (upto L.length)
  sorted : srt.Pairwise fun i j => m_lt (L.getD i.toNat []) (L.getD j.toNat []) = true
def m_pos (L : List (List Int)) (s : List Int) : Int := if s ∈ L then (L.idxOf s : Int) else -1
def m_ins (srt : List Int) (k : Nat) (x : Int) : List Int := srt.take k ++ x :: srt.drop k
noncomputable abbrev s_slot : Spec := mkS (.pair tSearch (.pair tL .unit)) tI false true (fun x => SearchOK (List.length x.2.1) x.1.1 x.1.2.2.1) (fun x => (slotOf x.1.1 x.1.2.2.1 x.2.1 : Int))
noncomputable abbrev s_sIndex : Spec := mkS (.pair tSearch (.pair tL .unit)) tI false true (fun x => SearchOK (List.length x.2.1) x.1.1 x.1.2.2.1) (fun x => m_pos x.1.1 x.2.1)
noncomputable abbrev s_sAdd : MSpec := mkM [some 4, none, none] [(false, rLS), (false, rL), (false, rN), (false, .dat .bool), (false, .dat tL), (false, .dat tI)] false [some 4] [rLS, rL, rN, .dat .bool]
  (fun x => SearchOK (List.length x.2.2.2.2.1) x.1 x.2.2.1 ∧ List.length x.2.1 ≤ 3000) (fun x => ((x.1 ++ [x.2.2.2.2.1], x.2.1 ++ [x.2.2.2.2.2.1], m_ins x.2.2.1 (slotOf x.1 x.2.2.1 x.2.2.2.2.1) (List.length x.1), x.2.2.2.1, ()), ()))
/-- The lists' indices in order. -/
def srtOf (L : List (List Int)) : List Int := (List.range L.length).foldl (fun (S : List Int) (i : Nat) => m_ins S (slotOf (L.take i) S (L.getD i [])) (i : Int)) []
/-- The neighbours of one list are added. -/
def bfsIn (g : List (List Int)) (x : List Int) (d : Int) : List Int → List (List Int) → List Int → List (List Int) × List Int × Bool
  | [], L, D => (L, D, true)
  | l :: ls, L, D => if m_compose x (m_letterOf g l) ∈ L then bfsIn g x d ls L D else if L.length = 3000 then (L, D, false) else bfsIn g x d ls (L ++ [m_compose x (m_letterOf g l)]) (D ++ [d + 1])
def bfsGo (g : List (List Int)) (ls : List Int) : Nat → Nat → List (List Int) → List Int → List (List Int) × List Int × Bool
  | 0, _, L, D => (L, D, true)
  | f + 1, k, L, D => if k < L.length then (match bfsIn g (L.getD k []) (D.getD k 0) ls L D with
    | (L', D', true) => bfsGo g ls f (k + 1) L' D'
    | (L', D', false) => (L', D', false)) else (L, D, true)
def m_bfs (g : List (List Int)) (s : List Int) : List (List Int) × List Int × Bool := bfsGo g (m_letters g.length) 3001 0 [s] [0]
def m_search (g : List (List Int)) (s : List Int) : SS := ((m_bfs g s).1, (m_bfs g s).2.1, srtOf (m_bfs g s).1, (m_bfs g s).2.2, ())
noncomputable abbrev s_sFrom : Spec := mkS (.pair tPuzzle (.pair tL .unit)) tSearch false false (fun x => m_validP x.1 = true ∧ List.length x.2.1 ≤ 20 ∧ ∀ y ∈ x.2.1, 0 ≤ y ∧ y < x.1.1) (fun x => m_search x.1.2.2.1 x.2.1)
theorem w_slot (f : List (List Int) × List Int × List Int × Bool × Unit) (s : List Int) (P : Int → Prop) : (WLoop
  (fun (v3 : Int × Int × List (List Int) × List Int × List Int × Bool × PUnit) (k4 : Int × Int × List (List Int) × List Int × List Int × Bool × PUnit → Prop) =>
    Br (decide (v3.fst < v3.2.fst))
      ((2 : Int) ≠ (0 : Int) ∧
        ∃ (y5 : Int),
          idx v3.snd.2.snd.2.fst (IntKind.i64.wrap ((IntKind.i64.wrap (v3.fst + v3.2.fst)).tdiv (2 : Int))) = some y5 ∧
            ∃ (y6 : List Int),
              idx v3.snd.2.fst y5 = some y6 ∧
                ∃ (y7 : Bool),
                  s_precedes.fn (y6, s, ()) = some y7 ∧
                    Br y7
                      (k4
                        (IntKind.i64.wrap (IntKind.i64.wrap ((IntKind.i64.wrap (v3.fst + v3.2.fst)).tdiv (2 : Int)) + (1 : Int)), v3.2.fst, v3.snd.2.fst, v3.2.snd.2.fst, v3.snd.2.snd.2.fst,
                          v3.2.snd.2.snd.2.fst, ()))
                      (k4 (v3.fst, IntKind.i64.wrap ((IntKind.i64.wrap (v3.fst + v3.2.fst)).tdiv (2 : Int)), v3.snd.2.fst, v3.2.snd.2.fst, v3.snd.2.snd.2.fst, v3.2.snd.2.snd.2.fst, ())))
      (P v3.fst))
  ((0 : Int), (↑f.snd.2.fst.length : Int), f.fst, f.2.fst, f.snd.2.fst, f.2.snd.2.fst, PUnit.unit)) = fnW tab (look [(135, s_precedes)]) s_slot Try.f169 (f, s, ()) P := by kernel_rfl
theorem w_sIndex (f : List (List Int) × List Int × List Int × Bool × Unit) (s : List Int) (P : Int → Prop) : (∃ (y3 : Int),
  s_slot.fn ((f.fst, f.2.fst, f.snd.2.fst, f.2.snd.2.fst, ()), s, ()) = some y3 ∧
    Br (decide (y3 < (↑f.snd.2.fst.length : Int)))
      (∃ (y4 : Int),
        idx f.snd.2.fst y3 = some y4 ∧
          ∃ (y5 : List Int), idx f.fst y4 = some y5 ∧ ∃ (y6 : Bool), s_equalInts.fn (y5, s, ()) = some y6 ∧ Br y6 (∃ (y7 : Int), idx f.snd.2.fst y3 = some y7 ∧ P y7) (P (-1 : Int)))
      (P (-1 : Int))) = fnW tab (look [(169, s_slot), (90, s_equalInts)]) s_sIndex Try.f161 (f, s, ()) P := by kernel_rfl
theorem w_sAdd (L : List (List Int)) (D S : List Int) (b : Bool) (s : List Int) (d : Int) (P : ((List (List Int) × List Int × List Int × Bool × Unit) × Unit) → Prop) : (∃ (y7 : Int),
  s_slot.fn ((List.take L.length (List.drop (0 : Nat) L), List.take D.length (List.drop (0 : Nat) D), List.take S.length (List.drop (0 : Nat) S), b, ()), s, ()) = some y7 ∧
    (0 : Nat) = (0 : Nat) ∧
      S.length = S.length ∧
        S.length + (List.take (1 : Nat) (List.drop (0 : Nat) [(0 : Int)])).length ≤ maxRow ∧
          ((0 : Int) ≤ IntKind.i64.wrap (y7 + (1 : Int)) ∧
              IntKind.i64.wrap (y7 + (1 : Int)) ≤ (↑(S ++ List.take (1 : Nat) (List.drop (0 : Nat) [(0 : Int)])).length : Int) ∧
                (↑(S ++ List.take (1 : Nat) (List.drop (0 : Nat) [(0 : Int)])).length : Int) ≤ (↑(S ++ List.take (1 : Nat) (List.drop (0 : Nat) [(0 : Int)])).length : Int)) ∧
            ((0 : Int) ≤ y7 ∧
                y7 ≤ (↑(S ++ List.take (1 : Nat) (List.drop (0 : Nat) [(0 : Int)])).length : Int) ∧
                  (↑(S ++ List.take (1 : Nat) (List.drop (0 : Nat) [(0 : Int)])).length : Int) ≤ (↑(S ++ List.take (1 : Nat) (List.drop (0 : Nat) [(0 : Int)])).length : Int)) ∧
              ((0 : Int) ≤ y7 ∧ y7 < (↑(S ++ List.take (1 : Nat) (List.drop (0 : Nat) [(0 : Int)])).length : Int)) ∧
                (0 : Nat) + y7.toNat <
                    (splice (S ++ List.take (1 : Nat) (List.drop (0 : Nat) [(0 : Int)])) ((0 : Nat) + (IntKind.i64.wrap (y7 + (1 : Int))).toNat)
                        (List.take ((↑(S ++ List.take (1 : Nat) (List.drop (0 : Nat) [(0 : Int)])).length : Int).toNat - (IntKind.i64.wrap (y7 + (1 : Int))).toNat)
                          (List.take ((↑(S ++ List.take (1 : Nat) (List.drop (0 : Nat) [(0 : Int)])).length : Int).toNat - y7.toNat)
                            (List.drop ((0 : Nat) + y7.toNat) (S ++ List.take (1 : Nat) (List.drop (0 : Nat) [(0 : Int)])))))).length ∧
                  (0 : Nat) = (0 : Nat) ∧
                    L.length = L.length ∧
                      L.length + (List.take (1 : Nat) (List.drop (0 : Nat) [s])).length ≤ maxRow ∧
                        (0 : Nat) = (0 : Nat) ∧
                          D.length = D.length ∧
                            D.length + (List.take (1 : Nat) (List.drop (0 : Nat) [d])).length ≤ maxRow ∧
                              P
                                ((List.take (L ++ List.take (1 : Nat) (List.drop (0 : Nat) [s])).length (List.drop (0 : Nat) (L ++ List.take (1 : Nat) (List.drop (0 : Nat) [s]))),
                                    List.take (D ++ List.take (1 : Nat) (List.drop (0 : Nat) [d])).length (List.drop (0 : Nat) (D ++ List.take (1 : Nat) (List.drop (0 : Nat) [d]))),
                                    List.take (S ++ List.take (1 : Nat) (List.drop (0 : Nat) [(0 : Int)])).length
                                      (List.drop (0 : Nat)
                                        ((splice (S ++ List.take (1 : Nat) (List.drop (0 : Nat) [(0 : Int)])) ((0 : Nat) + (IntKind.i64.wrap (y7 + (1 : Int))).toNat)
                                              (List.take ((↑(S ++ List.take (1 : Nat) (List.drop (0 : Nat) [(0 : Int)])).length : Int).toNat - (IntKind.i64.wrap (y7 + (1 : Int))).toNat)
                                                (List.take ((↑(S ++ List.take (1 : Nat) (List.drop (0 : Nat) [(0 : Int)])).length : Int).toNat - y7.toNat)
                                                  (List.drop ((0 : Nat) + y7.toNat) (S ++ List.take (1 : Nat) (List.drop (0 : Nat) [(0 : Int)])))))).set
                                          ((0 : Nat) + y7.toNat) (↑L.length : Int))),
                                    b, ()),
                                  ())) = fnMW tabT (look [(169, s_slot)]) s_sAdd Try.f160 (L, D, S, b, s, d, ()) P := by kernel_rfl
theorem w_sFrom (p : Int × ByteArray × List (List Int) × Unit) (s : List Int) (P : (List (List Int) × List Int × List Int × Bool × Unit) → Prop) : (∃ (y3 : List Int),
  s_copyInts.fn (s, ()) = some y3 ∧
    ∃ (y4 : (List (List Int) × List Int × List Int × Bool × PUnit) × PUnit),
      s_sAdd.fn ([], [], [], false, y3, (0 : Int), ()) = some y4 ∧
        ∃ (y5 : List Int),
          s_lettersOf.fn ((p.fst, p.2.fst, p.snd.2.fst, ()), ()) = some y5 ∧
            (0 : Nat) = (0 : Nat) ∧
              (0 : Nat) = ([] : List Int).length ∧
                (0 : Nat) = (0 : Nat) ∧
                  (0 : Nat) = ([] : List Int).length ∧
                    (0 : Nat) = (0 : Nat) ∧
                      (0 : Nat) = ([] : List Int).length ∧
                        (0 : Nat) = (0 : Nat) ∧
                          y4.1.fst.length = y4.1.fst.length ∧
                            (0 : Nat) = (0 : Nat) ∧
                              y4.fst.2.fst.length = y4.fst.2.fst.length ∧
                                (0 : Nat) = (0 : Nat) ∧
                                  y4.1.snd.2.fst.length = y4.1.snd.2.fst.length ∧
                                    WLoop
                                      (fun (v6 : Int × Int × ByteArray × List (List Int) × Bool × Bool × List (List Int) × List Int × List Int × List (List Int) × List Int × List Int × PUnit)
                                          (k7 : Int × Int × ByteArray × List (List Int) × Bool × Bool × List (List Int) × List Int × List Int × List (List Int) × List Int × List Int × PUnit → Prop) =>
                                        Br (decide (v6.fst < (↑v6.2.snd.2.snd.2.snd.2.snd.2.fst.length : Int)))
                                          ((0 : Nat) = (0 : Nat) ∧
                                            v6.snd.2.snd.2.snd.2.fst.length = v6.snd.2.snd.2.snd.2.fst.length ∧
                                              (0 : Nat) = (0 : Nat) ∧
                                                v6.2.snd.2.snd.2.snd.2.fst.length = v6.2.snd.2.snd.2.snd.2.fst.length ∧
                                                  (0 : Nat) = (0 : Nat) ∧
                                                    v6.snd.2.snd.2.snd.2.snd.2.fst.length = v6.snd.2.snd.2.snd.2.snd.2.fst.length ∧
                                                      (0 : Nat) = (0 : Nat) ∧
                                                        v6.2.snd.2.snd.2.snd.2.snd.2.fst.length = v6.2.snd.2.snd.2.snd.2.snd.2.fst.length ∧
                                                          (0 : Nat) = (0 : Nat) ∧
                                                            v6.snd.2.snd.2.snd.2.snd.2.snd.2.fst.length = v6.snd.2.snd.2.snd.2.snd.2.snd.2.fst.length ∧
                                                              (0 : Nat) = (0 : Nat) ∧
                                                                v6.2.snd.2.snd.2.snd.2.snd.2.snd.2.fst.length = v6.2.snd.2.snd.2.snd.2.snd.2.snd.2.fst.length ∧
                                                                  WLoop
                                                                    (fun
                                                                        (v8 :
                                                                          Int ×
                                                                            Int ×
                                                                              ByteArray ×
                                                                                List (List Int) × Bool × Bool × List (List Int) × List Int × List Int × List (List Int) × List Int × List Int × PUnit)
                                                                        (k9 :
                                                                          Int ×
                                                                              Int ×
                                                                                ByteArray ×
                                                                                  List (List Int) ×
                                                                                    Bool × Bool × List (List Int) × List Int × List Int × List (List Int) × List Int × List Int × PUnit →
                                                                            Prop) =>
                                                                      Br (decide (v8.fst < (↑y5.length : Int)))
                                                                        (((0 : Int) ≤ v6.fst ∧ v6.fst < (↑v8.2.snd.2.snd.2.snd.2.snd.2.fst.length : Int)) ∧
                                                                          ∃ (y10 : List Int),
                                                                            v8.2.snd.2.snd.2.snd.2.snd.2.fst[(0 : Nat) + v6.fst.toNat]? = some y10 ∧
                                                                              ∃ (y11 : Int),
                                                                                idx y5 v8.fst = some y11 ∧
                                                                                  ∃ (y12 : List Int),
                                                                                    s_applyL.fn ((v8.2.fst, v8.snd.2.fst, v8.2.snd.2.fst, ()), y10, y11, ()) = some y12 ∧
                                                                                      ∃ (y13 : Int),
                                                                                        s_sIndex.fn
                                                                                              ((List.take v8.2.snd.2.snd.2.snd.2.snd.2.fst.length
                                                                                                    (List.drop ((0 : Nat)) v8.2.snd.2.snd.2.snd.2.snd.2.fst),
                                                                                                  List.take v8.snd.2.snd.2.snd.2.snd.2.snd.2.fst.length
                                                                                                    (List.drop ((0 : Nat)) v8.snd.2.snd.2.snd.2.snd.2.snd.2.fst),
                                                                                                  List.take v8.2.snd.2.snd.2.snd.2.snd.2.snd.2.fst.length
                                                                                                    (List.drop ((0 : Nat)) v8.2.snd.2.snd.2.snd.2.snd.2.snd.2.fst),
                                                                                                  v8.2.snd.2.snd.2.fst, ()),
                                                                                                y12, ()) =
                                                                                            some y13 ∧
                                                                                          Br (decide (y13 ≥ (0 : Int)))
                                                                                            ((0 : Nat) = (0 : Nat) ∧
                                                                                              v8.snd.2.snd.2.snd.2.fst.length = v8.snd.2.snd.2.snd.2.fst.length ∧
                                                                                                (0 : Nat) = (0 : Nat) ∧
                                                                                                  v8.2.snd.2.snd.2.snd.2.fst.length = v8.2.snd.2.snd.2.snd.2.fst.length ∧
                                                                                                    (0 : Nat) = (0 : Nat) ∧
                                                                                                      v8.snd.2.snd.2.snd.2.snd.2.fst.length = v8.snd.2.snd.2.snd.2.snd.2.fst.length ∧
                                                                                                        (0 : Nat) = (0 : Nat) ∧
                                                                                                          v8.2.snd.2.snd.2.snd.2.snd.2.fst.length = v8.2.snd.2.snd.2.snd.2.snd.2.fst.length ∧
                                                                                                            (0 : Nat) = (0 : Nat) ∧
                                                                                                              v8.snd.2.snd.2.snd.2.snd.2.snd.2.fst.length =
                                                                                                                  v8.snd.2.snd.2.snd.2.snd.2.snd.2.fst.length ∧
                                                                                                                (0 : Nat) = (0 : Nat) ∧
                                                                                                                  v8.2.snd.2.snd.2.snd.2.snd.2.snd.2.fst.length =
                                                                                                                      v8.2.snd.2.snd.2.snd.2.snd.2.snd.2.fst.length ∧
                                                                                                                    k9
                                                                                                                      (IntKind.i64.wrap (v8.fst + (1 : Int)), v8.2.fst, v8.snd.2.fst, v8.2.snd.2.fst,
                                                                                                                        v8.snd.2.snd.2.fst, v8.2.snd.2.snd.2.fst, v8.snd.2.snd.2.snd.2.fst,
                                                                                                                        v8.2.snd.2.snd.2.snd.2.fst, v8.snd.2.snd.2.snd.2.snd.2.fst,
                                                                                                                        v8.2.snd.2.snd.2.snd.2.snd.2.fst, v8.snd.2.snd.2.snd.2.snd.2.snd.2.fst,
                                                                                                                        v8.2.snd.2.snd.2.snd.2.snd.2.snd.2.fst, ()))
                                                                                            (Br ((↑v8.2.snd.2.snd.2.snd.2.snd.2.fst.length : Int) == (3000 : Int))
                                                                                              (P
                                                                                                (List.take v8.2.snd.2.snd.2.snd.2.snd.2.fst.length
                                                                                                    (List.drop ((0 : Nat)) v8.2.snd.2.snd.2.snd.2.snd.2.fst),
                                                                                                  List.take v8.snd.2.snd.2.snd.2.snd.2.snd.2.fst.length
                                                                                                    (List.drop ((0 : Nat)) v8.snd.2.snd.2.snd.2.snd.2.snd.2.fst),
                                                                                                  List.take v8.2.snd.2.snd.2.snd.2.snd.2.snd.2.fst.length
                                                                                                    (List.drop ((0 : Nat)) v8.2.snd.2.snd.2.snd.2.snd.2.snd.2.fst),
                                                                                                  v8.2.snd.2.snd.2.fst, ()))
                                                                                              (((0 : Int) ≤ v6.fst ∧ v6.fst < (↑v8.snd.2.snd.2.snd.2.snd.2.snd.2.fst.length : Int)) ∧
                                                                                                ∃ (y14 : Int),
                                                                                                  v8.snd.2.snd.2.snd.2.snd.2.snd.2.fst[(0 : Nat) + v6.fst.toNat]? = some y14 ∧
                                                                                                    (0 : Nat) = (0 : Nat) ∧
                                                                                                      v8.2.snd.2.snd.2.snd.2.snd.2.fst.length = v8.2.snd.2.snd.2.snd.2.snd.2.fst.length ∧
                                                                                                        (0 : Nat) = (0 : Nat) ∧
                                                                                                          v8.snd.2.snd.2.snd.2.snd.2.snd.2.fst.length = v8.snd.2.snd.2.snd.2.snd.2.snd.2.fst.length ∧
                                                                                                            (0 : Nat) = (0 : Nat) ∧
                                                                                                              v8.2.snd.2.snd.2.snd.2.snd.2.snd.2.fst.length =
                                                                                                                  v8.2.snd.2.snd.2.snd.2.snd.2.snd.2.fst.length ∧
                                                                                                                ∃ (y15 : (List (List Int) × List Int × List Int × Bool × PUnit) × PUnit),
                                                                                                                  s_sAdd.fn
                                                                                                                        (v8.2.snd.2.snd.2.snd.2.snd.2.fst, v8.snd.2.snd.2.snd.2.snd.2.snd.2.fst,
                                                                                                                          v8.2.snd.2.snd.2.snd.2.snd.2.snd.2.fst, v8.2.snd.2.snd.2.fst, y12,
                                                                                                                          IntKind.i64.wrap (y14 + (1 : Int)), ()) =
                                                                                                                      some y15 ∧
                                                                                                                    (0 : Nat) = (0 : Nat) ∧
                                                                                                                      v8.snd.2.snd.2.snd.2.fst.length = v8.snd.2.snd.2.snd.2.fst.length ∧
                                                                                                                        (0 : Nat) = (0 : Nat) ∧
                                                                                                                          v8.2.snd.2.snd.2.snd.2.fst.length = v8.2.snd.2.snd.2.snd.2.fst.length ∧
                                                                                                                            (0 : Nat) = (0 : Nat) ∧
                                                                                                                              v8.snd.2.snd.2.snd.2.snd.2.fst.length =
                                                                                                                                  v8.snd.2.snd.2.snd.2.snd.2.fst.length ∧
                                                                                                                                (0 : Nat) = (0 : Nat) ∧
                                                                                                                                  y15.1.fst.length = y15.1.fst.length ∧
                                                                                                                                    (0 : Nat) = (0 : Nat) ∧
                                                                                                                                      y15.fst.2.fst.length = y15.fst.2.fst.length ∧
                                                                                                                                        (0 : Nat) = (0 : Nat) ∧
                                                                                                                                          y15.1.snd.2.fst.length = y15.1.snd.2.fst.length ∧
                                                                                                                                            k9
                                                                                                                                              (IntKind.i64.wrap (v8.fst + (1 : Int)), v8.2.fst,
                                                                                                                                                v8.snd.2.fst, v8.2.snd.2.fst, v8.snd.2.snd.2.fst,
                                                                                                                                                y15.fst.2.snd.2.fst, v8.snd.2.snd.2.snd.2.fst,
                                                                                                                                                v8.2.snd.2.snd.2.snd.2.fst,
                                                                                                                                                v8.snd.2.snd.2.snd.2.snd.2.fst, y15.1.fst,
                                                                                                                                                y15.fst.2.fst, y15.1.snd.2.fst, ()))))
                                                                        ((0 : Nat) = (0 : Nat) ∧
                                                                          v8.snd.2.snd.2.snd.2.fst.length = v8.snd.2.snd.2.snd.2.fst.length ∧
                                                                            (0 : Nat) = (0 : Nat) ∧
                                                                              v8.2.snd.2.snd.2.snd.2.fst.length = v8.2.snd.2.snd.2.snd.2.fst.length ∧
                                                                                (0 : Nat) = (0 : Nat) ∧
                                                                                  v8.snd.2.snd.2.snd.2.snd.2.fst.length = v8.snd.2.snd.2.snd.2.snd.2.fst.length ∧
                                                                                    (0 : Nat) = (0 : Nat) ∧
                                                                                      v8.2.snd.2.snd.2.snd.2.snd.2.fst.length = v8.2.snd.2.snd.2.snd.2.snd.2.fst.length ∧
                                                                                        (0 : Nat) = (0 : Nat) ∧
                                                                                          v8.snd.2.snd.2.snd.2.snd.2.snd.2.fst.length = v8.snd.2.snd.2.snd.2.snd.2.snd.2.fst.length ∧
                                                                                            (0 : Nat) = (0 : Nat) ∧
                                                                                              v8.2.snd.2.snd.2.snd.2.snd.2.snd.2.fst.length = v8.2.snd.2.snd.2.snd.2.snd.2.snd.2.fst.length ∧
                                                                                                k7
                                                                                                  (IntKind.i64.wrap (v6.fst + (1 : Int)), v8.2.fst, v8.snd.2.fst, v8.2.snd.2.fst, v8.snd.2.snd.2.fst,
                                                                                                    v8.2.snd.2.snd.2.fst, v8.snd.2.snd.2.snd.2.fst, v8.2.snd.2.snd.2.snd.2.fst,
                                                                                                    v8.snd.2.snd.2.snd.2.snd.2.fst, v8.2.snd.2.snd.2.snd.2.snd.2.fst,
                                                                                                    v8.snd.2.snd.2.snd.2.snd.2.snd.2.fst, v8.2.snd.2.snd.2.snd.2.snd.2.snd.2.fst, ())))
                                                                    ((0 : Int), v6.2.fst, v6.snd.2.fst, v6.2.snd.2.fst, v6.snd.2.snd.2.fst, v6.2.snd.2.snd.2.fst, v6.snd.2.snd.2.snd.2.fst,
                                                                      v6.2.snd.2.snd.2.snd.2.fst, v6.snd.2.snd.2.snd.2.snd.2.fst, v6.2.snd.2.snd.2.snd.2.snd.2.fst,
                                                                      v6.snd.2.snd.2.snd.2.snd.2.snd.2.fst, v6.2.snd.2.snd.2.snd.2.snd.2.snd.2.fst, PUnit.unit))
                                          (P
                                            (List.take v6.2.snd.2.snd.2.snd.2.snd.2.fst.length (List.drop ((0 : Nat)) v6.2.snd.2.snd.2.snd.2.snd.2.fst),
                                              List.take v6.snd.2.snd.2.snd.2.snd.2.snd.2.fst.length (List.drop ((0 : Nat)) v6.snd.2.snd.2.snd.2.snd.2.snd.2.fst),
                                              List.take v6.2.snd.2.snd.2.snd.2.snd.2.snd.2.fst.length (List.drop ((0 : Nat)) v6.2.snd.2.snd.2.snd.2.snd.2.snd.2.fst), true, ())))
                                      ((0 : Int), p.fst, p.2.fst, p.snd.2.fst, false, y4.fst.2.snd.2.fst, [], [], [], y4.1.fst, y4.fst.2.fst, y4.1.snd.2.fst, PUnit.unit)) = fnW tabW (look [(70, s_copyInts), (160, s_sAdd), (113, s_lettersOf), (124, s_applyL), (161, s_sIndex)]) s_sFrom Try.f139 (p, s, ()) P := by kernel_rfl
theorem cmp_zero : ∀ {a b : List Int}, m_compare a b = 0 ↔ a = b
  | [], [] => by simp [m_compare]
  | [], _ :: _ => by simp [m_compare]
  | _ :: _, [] => by simp [m_compare]
  | x :: a, y :: b => by
    simp only [m_compare, List.cons.injEq]
    by_cases h1 : x < y
    · rw [if_pos h1]
      exact ⟨fun h => by omega, fun h => by omega⟩
    · rw [if_neg h1]
      by_cases h2 : x > y
      · rw [if_pos h2]
        exact ⟨fun h => by omega, fun h => by omega⟩
      · rw [if_neg h2, cmp_zero]
        exact ⟨fun h => ⟨by omega, h⟩, fun h => h.2⟩
theorem cmp_neg : ∀ (a b : List Int), m_compare b a = - m_compare a b
  | [], [] => by simp [m_compare]
  | [], _ :: _ => by simp [m_compare]
  | _ :: _, [] => by simp [m_compare]
  | x :: a, y :: b => by
    simp only [m_compare]
    rcases Int.lt_trichotomy x y with h1 | h1 | h1
    · simp [h1, show ¬ y < x by omega]
    · subst h1
      simp [cmp_neg a b]
    · simp [h1, show ¬ x < y by omega]
theorem cmp_trans : ∀ {a b c : List Int}, m_compare a b < 0 → m_compare b c < 0 → m_compare a c < 0
  | [], [], _, h, _ => by simp [m_compare] at h
  | _ :: _, [], _, h, _ => by simp [m_compare] at h
  | _, _ :: _, [], _, h => by simp [m_compare] at h
  | [], _ :: _, _ :: _, _, _ => by simp [m_compare]
  | x :: a, y :: b, z :: c, h1, h2 => by
    simp only [m_compare] at h1 h2 ⊢
    by_cases e1 : x < y
    · by_cases e2 : y < z
      · rw [if_pos (by omega)]; omega
      · rw [if_neg e2] at h2
        by_cases e3 : y > z
        · rw [if_pos e3] at h2; omega
        · rw [if_pos (by omega)]; omega
    · rw [if_neg e1] at h1
      by_cases e2 : x > y
      · rw [if_pos e2] at h1; omega
      · rw [if_neg e2] at h1
        by_cases e3 : y < z
        · rw [if_pos (by omega)]; omega
        · rw [if_neg e3] at h2
          by_cases e4 : y > z
          · rw [if_pos e4] at h2; omega
          · rw [if_neg e4] at h2
            rw [if_neg (by omega), if_neg (by omega)]
            exact cmp_trans h1 h2
theorem lt_iff {a b : List Int} : m_lt a b = true ↔ m_compare a b < 0 := decide_eq_true_iff
theorem lt_trans' {a b c : List Int} (h1 : m_lt a b = true) (h2 : m_lt b c = true) : m_lt a c = true := lt_iff.2 (cmp_trans (lt_iff.1 h1) (lt_iff.1 h2))
theorem lt_irrefl' (a : List Int) : m_lt a a = false := by
  have : m_compare a a = 0 := cmp_zero.2 rfl
  unfold m_lt; rw [this]; rfl
theorem lt_total {a b : List Int} (h : m_lt a b = false) (hne : a ≠ b) : m_lt b a = true := by
  rw [lt_iff, cmp_neg a b]
  have h1 : ¬ m_compare a b < 0 := fun h' => by rw [lt_iff.2 h'] at h; cases h
  have h2 : m_compare a b ≠ 0 := fun h' => hne (cmp_zero.1 h')
  omega
theorem takeWhile_iff {α : Type} (q : α → Bool) : ∀ (l : List α), l.Pairwise (fun i j => q j = true → q i = true) → ∀ k (hk : k < l.length), k < (l.takeWhile q).length ↔ q l[k] = true
  | [], _, k, hk => by simp at hk
  | a :: l, h, k, hk => by
    obtain ⟨h1, h2⟩ := List.pairwise_cons.1 h
    by_cases ha : q a = true
    · rw [List.takeWhile_cons_of_pos ha]
      rcases k with _ | k
      · simpa using ha
      · simp only [List.length_cons, List.getElem_cons_succ, Nat.add_lt_add_iff_right]
        exact takeWhile_iff q l h2 k (by simpa using hk)
    · rw [List.takeWhile_cons_of_neg ha]
      simp only [List.length_nil, Nat.not_lt_zero, false_iff]
      rcases k with _ | k
      · exact ha
      · simp only [List.getElem_cons_succ]
        exact fun hq => ha (h1 _ (List.getElem_mem _) hq)
theorem SearchOK.len2 {m : Nat} {L : List (List Int)} {srt : List Int} (h : SearchOK m L srt) : srt.length = L.length := by rw [h.perm.length_eq, upto_len]
theorem SearchOK.idx {m : Nat} {L : List (List Int)} {srt : List Int} (h : SearchOK m L srt) {k : Nat} (hk : k < srt.length) : 0 ≤ srt[k] ∧ srt[k] < L.length := mem_upto.1 (h.perm.mem_iff.1 (List.getElem_mem hk))
theorem SearchOK.slot_iff {m : Nat} {L : List (List Int)} {srt : List Int} (h : SearchOK m L srt) (s : List Int) {k : Nat} (hk : k < srt.length) : k < slotOf L srt s ↔ m_lt (L.getD srt[k].toNat []) s = true :=
  takeWhile_iff _ srt (h.sorted.imp fun hij hj => lt_trans' hij hj) k hk
theorem slot_le (L : List (List Int)) (srt s : List Int) : slotOf L srt s ≤ srt.length := (List.takeWhile_sublist _).length_le
theorem SearchOK.inj {m : Nat} {L : List (List Int)} {srt : List Int} (h : SearchOK m L srt) {i j : Nat} (hi : i < L.length) (hj : j < L.length) (e : L[i] = L[j]) : i = j := by
  have mem : ∀ i, i < L.length → (i : Int) ∈ srt := fun i hi => h.perm.mem_iff.2 (mem_upto.2 ⟨by omega, by omega⟩)
  obtain ⟨p, hp, ep⟩ := List.mem_iff_getElem.1 (mem i hi)
  obtain ⟨q, hq, eq⟩ := List.mem_iff_getElem.1 (mem j hj)
  have get : ∀ i (hi : i < L.length), L.getD ((i : Int)).toNat [] = L[i] := fun i hi => by rw [Int.toNat_natCast, List.getD_eq_getElem?_getD, List.getElem?_eq_getElem hi]; rfl
  rcases Nat.lt_trichotomy p q with h1 | h1 | h1
  · have := List.pairwise_iff_getElem.1 h.sorted p q hp hq h1
    rw [ep, eq, get i hi, get j hj, e, lt_irrefl'] at this
    cases this
  · subst h1
    rw [ep] at eq
    omega
  · have := List.pairwise_iff_getElem.1 h.sorted q p hq hp h1
    rw [ep, eq, get i hi, get j hj, e, lt_irrefl'] at this
    cases this
theorem getD_nat {L : List (List Int)} {k : Nat} (h : k < L.length) : L.getD k [] = L[k] := by rw [List.getD_eq_getElem?_getD, List.getElem?_eq_getElem h]; rfl
/-- What stands at the slot. -/
theorem SearchOK.at_slot {m : Nat} {L : List (List Int)} {srt : List Int} (h : SearchOK m L srt) {s : List Int} :
    (∃ hk : slotOf L srt s < srt.length, L.getD srt[slotOf L srt s].toNat [] = s ∧ m_pos L s = srt[slotOf L srt s]) ∨ (m_pos L s = -1 ∧ ∀ hk : slotOf L srt s < srt.length, L.getD srt[slotOf L srt s].toNat [] ≠ s) := by
  by_cases hm : s ∈ L
  · left
    obtain ⟨j, hj, rfl⟩ := List.mem_iff_getElem.1 hm
    obtain ⟨p, hp, ep⟩ := List.mem_iff_getElem.1 (h.perm.mem_iff.2 (mem_upto.2 ⟨by omega, by omega⟩) : (j : Int) ∈ srt)
    have gj : L.getD srt[p].toNat [] = L[j] := by rw [ep, Int.toNat_natCast, getD_nat hj]
    have hs : slotOf L srt L[j] = p := by
      have h1 : ¬ p < slotOf L srt L[j] := fun h1 => by
        have := (h.slot_iff L[j] hp).1 h1
        rw [gj, lt_irrefl'] at this; cases this
      have h2 : ¬ slotOf L srt L[j] < p := fun h2 => by
        have h3 := (h.slot_iff L[j] (k := slotOf L srt L[j]) (by omega)).2 (by
          have := List.pairwise_iff_getElem.1 h.sorted (slotOf L srt L[j]) p (by omega) hp h2
          rw [gj] at this; exact this)
        omega
      omega
    have hx : L.idxOf L[j] = j := by
      have h1 : L.idxOf L[j] < L.length := List.idxOf_lt_length_of_mem hm
      exact h.inj h1 hj (List.getElem_idxOf h1)
    refine ⟨by omega, ?_, ?_⟩
    · simp only [hs]; exact gj
    · unfold m_pos
      rw [if_pos hm, hx]
      simp only [hs]; exact ep.symm
  · right
    refine ⟨by unfold m_pos; rw [if_neg hm], fun hk e => hm ?_⟩
    have hi := h.idx hk
    rw [getD_nat (by omega)] at e
    rw [← e]
    exact List.getElem_mem _
theorem ins_perm (srt : List Int) (k : Nat) (x : Int) : (m_ins srt k x).Perm (x :: srt) := by
  unfold m_ins
  refine List.perm_middle.trans (List.Perm.cons x ?_)
  rw [List.take_append_drop]
theorem SearchOK.add {m : Nat} {L : List (List Int)} {srt s : List Int} (h : SearchOK m L srt) (hn : s ∉ L) (hl : s.length = m) (hr : L.length < 3000) : SearchOK m (L ++ [s]) (m_ins srt (slotOf L srt s) L.length) := by
  have get1 : ∀ i ∈ srt, (L ++ [s]).getD i.toNat [] = L.getD i.toNat [] := fun i hi => by
    have := mem_upto.1 (h.perm.mem_iff.1 hi)
    rw [List.getD_eq_getElem?_getD, List.getD_eq_getElem?_getD, List.getElem?_append_left (by omega)]
  have get2 : (L ++ [s]).getD ((L.length : Int)).toNat [] = s := by
    rw [Int.toNat_natCast, List.getD_eq_getElem?_getD, List.getElem?_append_right (by omega), Nat.sub_self]; rfl
  refine ⟨by rw [List.length_append, List.length_singleton]; omega, fun x hx => ?_, h.short, ?_, ?_⟩
  · rcases List.mem_append.1 hx with hx | hx
    · exact h.len x hx
    · rw [List.mem_singleton.1 hx]; exact hl
  · refine (ins_perm _ _ _).trans ?_
    rw [List.length_append, List.length_singleton, upto_succ]
    exact (List.Perm.cons _ h.perm).trans (List.perm_append_singleton _ _).symm
  · unfold m_ins
    have hs := h.sorted
    rw [← List.take_append_drop (slotOf L srt s) srt] at hs
    obtain ⟨s1, s2, s3⟩ := List.pairwise_append.1 hs
    have mt : ∀ i ∈ srt.take (slotOf L srt s), i ∈ srt ∧ m_lt (L.getD i.toNat []) s = true := fun i hi => by
      obtain ⟨k, hk, rfl⟩ := List.mem_iff_getElem.1 hi
      have hk2 : k < slotOf L srt s := by rw [List.length_take] at hk; omega
      have hk3 : k < srt.length := by rw [List.length_take] at hk; omega
      rw [List.getElem_take]
      exact ⟨List.getElem_mem _, (h.slot_iff s hk3).1 hk2⟩
    have md : ∀ i ∈ srt.drop (slotOf L srt s), i ∈ srt ∧ m_lt s (L.getD i.toNat []) = true := fun i hi => by
      obtain ⟨k, hk, rfl⟩ := List.mem_iff_getElem.1 hi
      rw [List.length_drop] at hk
      have hk3 : slotOf L srt s + k < srt.length := by omega
      rw [List.getElem_drop]
      refine ⟨List.getElem_mem _, lt_total ?_ fun e => hn ?_⟩
      · exact Bool.eq_false_iff.2 fun hh => by
          have := (h.slot_iff s hk3).2 hh
          omega
      · have hi := h.idx hk3
        rw [getD_nat (by omega)] at e
        rw [← e]; exact List.getElem_mem _
    refine List.pairwise_append.2 ⟨s1.imp_of_mem fun {a b} ha hb hab => ?_, List.pairwise_cons.2 ⟨fun b hb => ?_, s2.imp_of_mem fun {a b} ha hb hab => ?_⟩, fun a ha b hb => ?_⟩
    · rw [get1 a (mt a ha).1, get1 b (mt b hb).1]; exact hab
    · rw [get2, get1 b (md b hb).1]; exact (md b hb).2
    · rw [get1 a (md a ha).1, get1 b (md b hb).1]; exact hab
    · rcases List.mem_cons.1 hb with rfl | hb
      · rw [get2, get1 a (mt a ha).1]; exact (mt a ha).2
      · rw [get1 a (mt a ha).1, get1 b (md b hb).1]; exact s3 a ha b hb
theorem srtOf_snoc (L : List (List Int)) (s : List Int) : srtOf (L ++ [s]) = m_ins (srtOf L) (slotOf L (srtOf L) s) L.length := by
  unfold srtOf
  rw [List.length_append, List.length_singleton, List.range_succ, List.foldl_append]
  have e : ∀ (is : List Nat) (S : List Int), (∀ i ∈ is, i < L.length) → is.foldl (fun (S : List Int) (i : Nat) => m_ins S (slotOf ((L ++ [s]).take i) S ((L ++ [s]).getD i [])) (i : Int)) S = is.foldl (fun (S : List Int) (i : Nat) => m_ins S (slotOf (L.take i) S (L.getD i [])) (i : Int)) S := by
    intro is
    induction is with
    | nil => intro S _; rfl
    | cons i is ih =>
      intro S h
      have hi := h i (by simp)
      rw [List.foldl_cons, List.foldl_cons, ih _ fun j hj => h j (List.mem_cons_of_mem _ hj)]
      congr 2
      rw [List.take_append_of_le_length (by omega), List.getD_eq_getElem?_getD, List.getElem?_append_left hi, ← List.getD_eq_getElem?_getD]
  rw [e _ _ fun i hi => List.mem_range.1 hi]
  simp only [List.foldl_cons, List.foldl_nil]
  congr 2
  · rw [List.take_append_of_le_length (Nat.le_refl _), List.take_length]
  · rw [List.getD_eq_getElem?_getD, List.getElem?_append_right (by omega), Nat.sub_self]; rfl
theorem searchOK_nil {m : Nat} (h : m ≤ 20) : SearchOK m [] [] := ⟨by simp, fun x hx => (by cases hx), h, by simp [upto], List.Pairwise.nil⟩
theorem idx_at {α : Type} {xs : List α} {y : Int} (h0 : 0 ≤ y) (h : y.toNat < xs.length) : idx xs y = some xs[y.toNat] := by
  unfold idx
  rw [if_pos h0, List.getElem?_eq_getElem h]
theorem p_slot (f : SS) (s : List Int) (h : SearchOK s.length f.1 f.2.2.1) : fnW tab (look [(135, s_precedes)]) s_slot Try.f169 (f, s, ()) (fun (z : Int) => z = (slotOf f.1 f.2.2.1 s : Int)) := by
  obtain ⟨L, D, srt, b, ⟨⟩⟩ := f
  dsimp only at h ⊢
  have hle := slot_le L srt s
  have hl2 := h.len2
  have hfew := h.few
  refine Eq.mp (w_slot (L, D, srt, b, ()) s _) ?_
  refine WLoop.mk (fun v => v.2.2.1 = L ∧ v.2.2.2.2.1 = srt ∧ ∃ lo hi : Nat, v.1 = lo ∧ v.2.1 = hi ∧ lo ≤ hi ∧ hi ≤ srt.length ∧ lo ≤ slotOf L srt s ∧ slotOf L srt s ≤ hi) (fun v => (v.2.1 - v.1).toNat)
    ⟨rfl, rfl, 0, srt.length, rfl, rfl, by omega, by omega, by omega, hle⟩ ?_
  rintro ⟨lo', hi', L', D', srt', b', ⟨⟩⟩ ⟨h1, h2, lo, hi, h3, h4, h5, h6, h7, h8⟩
  dsimp only at h1 h2 h3 h4 ⊢
  subst h1 h2 h3 h4
  refine Br.dec (fun hl => ?_) fun hl => ?_
  · have em : IntKind.i64.wrap ((IntKind.i64.wrap ((lo : Int) + (hi : Int))).tdiv 2) = (((lo + hi) / 2 : Nat) : Int) := by
      rw [wrap_id (n := (lo : Int) + (hi : Int)) (by omega) (by omega), Int.tdiv_eq_ediv_of_nonneg (by omega), wrap_id (by omega) (by omega)]
      omega
    rw [em]
    have hm1 : (lo + hi) / 2 < srt'.length := by omega
    have hi1 := h.idx hm1
    have hi2 : srt'[(lo + hi) / 2].toNat < L'.length := by omega
    have hgd := getD_nat hi2
    have hlen := h.len _ (List.getElem_mem hi2)
    have hsh : short L'[srt'[(lo + hi) / 2].toNat] := by
      unfold short
      have := h.short; omega
    refine ⟨by decide, _, idx_nat hm1, _, idx_at hi1.1 hi2, _, if_pos ⟨hsh, hlen⟩, ⟨fun hc => ?_, fun hc => ?_⟩⟩
    · have hc : m_lt L'[srt'[(lo + hi) / 2].toNat] s = true := hc
      have hs := (h.slot_iff s hm1).2 (by rw [hgd]; exact hc)
      rw [wrap_nat (by omega)]
      exact ⟨⟨rfl, rfl, (lo + hi) / 2 + 1, hi, rfl, rfl, by omega, h6, by omega, h8⟩, by omega⟩
    · have hc : m_lt L'[srt'[(lo + hi) / 2].toNat] s = false := hc
      have hs : ¬ (lo + hi) / 2 < slotOf L' srt' s := fun hh => by
        have := (h.slot_iff s hm1).1 hh
        rw [hgd, hc] at this; cases this
      exact ⟨⟨rfl, rfl, lo, (lo + hi) / 2, rfl, rfl, by omega, by omega, h7, by omega⟩, by omega⟩
  · show (lo : Int) = _
    omega
theorem sound_slot : Sound Try.prog 169 s_slot :=
  Sound.mkS tabOK (envCons sound_precedes envNil) mixed Try.func169 (by kernel_rfl) (by kernel_rfl) fun x h => p_slot x.1 x.2.1 h
theorem p_sIndex (f : SS) (s : List Int) (h : SearchOK s.length f.1 f.2.2.1) : fnW tab (look [(169, s_slot), (90, s_equalInts)]) s_sIndex Try.f161 (f, s, ()) (fun (z : Int) => z = m_pos f.1 s) := by
  obtain ⟨L, D, srt, b, ⟨⟩⟩ := f
  dsimp only at h ⊢
  refine Eq.mp (w_sIndex (L, D, srt, b, ()) s _) ⟨_, if_pos h, Br.dec (fun hl => ?_) fun hl => ?_⟩
  · have hl : slotOf L srt s < srt.length := by
      have hl : ((slotOf L srt s : Nat) : Int) < (srt.length : Int) := hl
      omega
    have hi1 := h.idx hl
    have hi2 : srt[slotOf L srt s].toNat < L.length := by omega
    have hgd := getD_nat hi2
    have hlen := h.len _ (List.getElem_mem hi2)
    have hsh : short L[srt[slotOf L srt s].toNat] := by
      unfold short
      have := h.short; omega
    refine ⟨_, idx_nat hl, _, idx_at hi1.1 hi2, _, if_pos hsh, ⟨fun hc => ⟨_, idx_nat hl, ?_⟩, fun hc => ?_⟩⟩
    · have hc : L[srt[slotOf L srt s].toNat] = s := of_decide_eq_true hc
      rcases h.at_slot (s := s) with ⟨hk, _, e⟩ | ⟨_, hne⟩
      · exact e.symm
      · exact absurd (by rw [hgd]; exact hc) (hne hl)
    · have hc : ¬ L[srt[slotOf L srt s].toNat] = s := of_decide_eq_false hc
      rcases h.at_slot (s := s) with ⟨hk, e, _⟩ | ⟨e, _⟩
      · rw [hgd] at e; exact absurd e hc
      · exact e.symm
  · have hl : ¬ slotOf L srt s < srt.length := by
      have hl : ¬ ((slotOf L srt s : Nat) : Int) < (srt.length : Int) := hl
      omega
    rcases h.at_slot (s := s) with ⟨hk, e, _⟩ | ⟨e, _⟩
    · exact absurd hk hl
    · exact e.symm
theorem sound_sIndex : Sound Try.prog 161 s_sIndex :=
  Sound.mkS tabOK (envCons sound_slot (envCons sound_equalInts envNil)) mixed Try.func161 (by kernel_rfl) (by kernel_rfl) fun x h => p_sIndex x.1 x.2.1 h
theorem ins_splice {S : List Int} {k : Nat} (h : k ≤ S.length) (n : Int) :
    (splice (S ++ [0]) (k + 1) (List.take ((S ++ [0]).length - (k + 1)) (List.take ((S ++ [0]).length - k) (List.drop k (S ++ [0]))))).set k n = m_ins S k n := by
  obtain ⟨A, B, rfl, hA⟩ : ∃ A B, S = A ++ B ∧ A.length = k := ⟨S.take k, S.drop k, (List.take_append_drop k S).symm, by rw [List.length_take]; omega⟩
  subst hA
  have e1 : List.drop A.length (A ++ B ++ [0]) = B ++ [0] := by rw [List.append_assoc, List.drop_left]
  have e2 : List.take ((A ++ B ++ [0]).length - A.length) (B ++ [0]) = B ++ [0] := List.take_of_length_le (by simp only [List.length_append, List.length_singleton]; omega)
  have e3 : List.take ((A ++ B ++ [0]).length - (A.length + 1)) (B ++ [0]) = B := by
    have : (A ++ B ++ [(0 : Int)]).length - (A.length + 1) = B.length := by simp only [List.length_append, List.length_singleton]; omega
    rw [this, List.take_left]
  rw [e1, e2, e3]
  unfold splice m_ins
  have e4 : List.drop (A.length + 1 + B.length) (A ++ B ++ [0]) = [] := List.drop_eq_nil_of_le (by simp only [List.length_append, List.length_singleton]; omega)
  obtain ⟨c, hc⟩ : ∃ c, List.take (A.length + 1) (A ++ B ++ [0]) = A ++ [c] := by
    rw [List.append_assoc, List.take_append, List.take_of_length_le (by omega)]
    cases B with
    | nil => exact ⟨0, by simp⟩
    | cons b B => exact ⟨b, by simp⟩
  rw [e4, hc, List.append_nil, List.append_assoc, List.singleton_append, set_mid, List.take_left, List.drop_left]
theorem p_sAdd (L : List (List Int)) (D S : List Int) (b : Bool) (s : List Int) (d : Int) (h : SearchOK s.length L S ∧ D.length ≤ 3000) :
    fnMW tabT (look [(169, s_slot)]) s_sAdd Try.f160 (L, D, S, b, s, d, ()) (fun (z : (List (List Int) × List Int × List Int × Bool × Unit) × Unit) => z = ((L ++ [s], D ++ [d], m_ins S (slotOf L S s) L.length, b, ()), ())) := by
  obtain ⟨h, hD⟩ := h
  have hle := slot_le L S s
  have hl2 := h.len2
  have hfew := h.few
  refine Eq.mp (w_sAdd L D S b s d _) ?_
  rw [whole_row L, whole_row D, whole_row S]
  refine ⟨_, if_pos h, ?_⟩
  dsimp only
  have es : List.take 1 (List.drop 0 [(0 : Int)]) = [0] := rfl
  have el : (S ++ [(0 : Int)]).length = S.length + 1 := by simp
  rw [es, wrap_nat (by omega), Nat.zero_add, Nat.zero_add, Int.toNat_natCast, Int.toNat_natCast, Int.toNat_natCast]
  refine ⟨rfl, rfl, by show S.length + 1 ≤ 4294967296; omega, ⟨by omega, by omega, by omega⟩, ⟨by omega, by omega, by omega⟩, ⟨by omega, by omega⟩, ?_, rfl, rfl, by show L.length + 1 ≤ 4294967296; omega, rfl, rfl, by show D.length + 1 ≤ 4294967296; omega, ?_⟩
  · unfold splice
    simp only [List.length_append, List.length_take, List.length_drop, List.length_singleton]
    omega
  · rw [ins_splice hle, whole_row, whole_row]
    have e5 : List.take (S ++ [(0 : Int)]).length (List.drop 0 (m_ins S (slotOf L S s) (L.length : Int))) = m_ins S (slotOf L S s) (L.length : Int) := by
      rw [List.drop_zero, List.take_of_length_le]
      unfold m_ins
      simp only [List.length_append, List.length_cons, List.length_take, List.length_drop, List.length_nil]
      omega
    rw [e5]
    rfl
theorem sound_sAdd : MSound Try.prog 160 s_sAdd :=
  MSound.mkM tabTOK (envCons sound_slot envNil) mixed Try.func160 (by kernel_rfl) (by kernel_rfl) fun x h => p_sAdd x.1 x.2.1 x.2.2.1 x.2.2.2.1 x.2.2.2.2.1 x.2.2.2.2.2.1 h
/-- What holds all along a search. -/
structure BfsOK (p : PP) (m : Nat) (L : List (List Int)) (D : List Int) : Prop where
  ok : SearchOK m L (srtOf L)
  len : D.length = L.length
  row : ∀ x ∈ L, ∀ y ∈ x, 0 ≤ y ∧ y < p.1
  dep : ∀ j (h : j < D.length), 0 ≤ D[j] ∧ D[j] ≤ j
theorem next_ok {p : PP} (hv : Valid p) {x : List Int} {l : Int} (hx : ∀ y ∈ x, 0 ≤ y ∧ y < p.1) (hl : isLetter (List.length p.2.2.1) l) :
    (m_compose x (m_letterOf p.2.2.1 l)).length = x.length ∧ ∀ y ∈ m_compose x (m_letterOf p.2.2.1 l), 0 ≤ y ∧ y < p.1 := by
  obtain ⟨h1, h2⟩ := letter_ok hv hl
  refine ⟨compose_len _ _, fun y hy => ?_⟩
  have := compose_row (n := (m_letterOf p.2.2.1 l).length) (fun z hz => by have := hx z hz; omega) h2 y hy
  omega
theorem BfsOK.add {p : PP} {m : Nat} {L : List (List Int)} {D : List Int} (h : BfsOK p m L D) {y : List Int} {d : Int} (hn : y ∉ L) (hl : y.length = m) (hr : L.length < 3000) (hy : ∀ z ∈ y, 0 ≤ z ∧ z < p.1) (hd : 0 ≤ d ∧ d ≤ L.length) : BfsOK p m (L ++ [y]) (D ++ [d]) := by
  have hlen := h.len
  refine ⟨by rw [srtOf_snoc]; exact h.ok.add hn hl hr, by simp [hlen], fun x hx => ?_, fun j hj => ?_⟩
  · rcases List.mem_append.1 hx with hx | hx
    · exact h.row x hx
    · rw [List.mem_singleton.1 hx]; exact hy
  · by_cases e : j < D.length
    · rw [List.getElem_append_left e]; exact h.dep j e
    · simp only [List.length_append, List.length_singleton] at hj
      have : j = D.length := by omega
      subst this
      rw [List.getElem_append_right (by omega)]
      simp only [Nat.sub_self, List.getElem_cons_zero]
      omega
theorem bfs_start {p : PP} {s : List Int} (hs : s.length ≤ 20) (hr : ∀ y ∈ s, 0 ≤ y ∧ y < p.1) : BfsOK p s.length [s] [0] := by
  refine ⟨?_, rfl, fun x hx => by rw [List.mem_singleton.1 hx]; exact hr, fun j hj => ?_⟩
  · have := (searchOK_nil hs).add (s := s) (by simp) rfl (by simp)
    have e : srtOf [s] = m_ins [] (slotOf [] [] s) 0 := srtOf_snoc [] s
    rw [e]; exact this
  · simp only [List.length_singleton] at hj
    have : j = 0 := by omega
    subst this
    simp
theorem m_pos_neg {L : List (List Int)} {s : List Int} : m_pos L s ≥ 0 ↔ s ∈ L := by
  unfold m_pos
  split
  · rename_i h; exact ⟨fun _ => h, fun _ => by omega⟩
  · rename_i h; exact ⟨fun hh => by omega, fun hh => absurd hh h⟩
theorem p_sFrom (p : PP) (s : List Int) (h : m_validP p = true ∧ s.length ≤ 20 ∧ ∀ y ∈ s, 0 ≤ y ∧ y < p.1) : fnW tabW (look [(70, s_copyInts), (160, s_sAdd), (113, s_lettersOf), (124, s_applyL), (161, s_sIndex)]) s_sFrom Try.f139 (p, s, ()) (fun (z : SS) => z = m_search p.2.2.1 s) := by
  obtain ⟨hv, hs, hr⟩ := h
  have hV := valid hv
  have hfew := hV.few
  have hb0 := bfs_start hs hr
  have hsh : short s := by unfold short; omega
  obtain ⟨ls, hls⟩ : ∃ ls, m_letters (List.length p.2.2.1) = ls := ⟨_, rfl⟩
  refine Eq.mp (w_sFrom p s _) ⟨_, if_pos hsh, _, if_pos ⟨searchOK_nil hs, by show 0 ≤ 3000; omega⟩, ls, (if_pos (by show List.length p.2.2.1 ≤ 8; exact hfew.2)).trans (congrArg some hls), rfl, rfl, rfl, rfl, rfl, rfl, rfl, rfl, rfl, rfl, rfl, rfl, ?_⟩
  have e0 : m_ins [] (slotOf [] [] s) ((([] : List (List Int)).length : Nat) : Int) = srtOf [s] := (srtOf_snoc [] s).symm
  show WLoop _ ((0 : Int), p.1, p.2.1, p.2.2.1, false, false, [], [], [], [s], [(0 : Int)], m_ins [] (slotOf [] [] s) ((([] : List (List Int)).length : Nat) : Int), PUnit.unit)
  rw [e0]
  have hll : ls.length ≤ 16 := by rw [← hls, m_letters_len]; omega
  have hmem : ∀ l ∈ ls, isLetter (List.length p.2.2.1) l := fun l hl => mem_letters (hls ▸ hl)
  have hstart : bfsGo p.2.2.1 ls 3001 0 [s] [0] = m_bfs p.2.2.1 s := by unfold m_bfs; rw [hls]
  refine WLoop.mk (fun v => v.2.1 = p.1 ∧ v.2.2.1 = p.2.1 ∧ v.2.2.2.1 = p.2.2.1 ∧ v.2.2.2.2.2.1 = false ∧ ∃ k : Nat, v.1 = k ∧ k ≤ v.2.2.2.2.2.2.2.2.2.1.length ∧
      BfsOK p s.length v.2.2.2.2.2.2.2.2.2.1 v.2.2.2.2.2.2.2.2.2.2.1 ∧ v.2.2.2.2.2.2.2.2.2.2.2.1 = srtOf v.2.2.2.2.2.2.2.2.2.1 ∧
      bfsGo p.2.2.1 ls (3001 - k) k v.2.2.2.2.2.2.2.2.2.1 v.2.2.2.2.2.2.2.2.2.2.1 = m_bfs p.2.2.1 s) (fun v => 3001 - v.1.toNat)
    ⟨rfl, rfl, rfl, rfl, 0, rfl, by simp, hb0, rfl, hstart⟩ ?_
  rintro ⟨k', n1, n2, n3, b0, wh, x1, x2, x3, L0, D0, S0, ⟨⟩⟩ ⟨h1, h2, h3, h4, k, h5, h6, h7, h8, h9⟩
  dsimp only at h1 h2 h3 h4 h5 h6 h7 h8 h9
  subst h1 h2 h3 h4 h5 h8
  dsimp only
  have hL0 := h7.ok.few
  have hD0 := h7.len
  refine Br.dec (fun hl => ⟨rfl, rfl, rfl, rfl, rfl, rfl, rfl, rfl, rfl, rfl, rfl, rfl, ?_⟩) fun hl => ?_
  · have hk : k < L0.length := by omega
    have hkD : k < D0.length := by omega
    have hx : ∀ y ∈ L0[k], 0 ≤ y ∧ y < p.1 := h7.row _ (List.getElem_mem hk)
    have hxl : L0[k].length = s.length := h7.ok.len _ (List.getElem_mem hk)
    have hdk := h7.dep k hkD
    obtain ⟨f, hf⟩ : ∃ f, 3001 - k = f + 1 := ⟨3000 - k, by omega⟩
    have hgo : ∀ L' D' ok, bfsIn p.2.2.1 L0[k] D0[k] ls L0 D0 = (L', D', ok) → m_bfs p.2.2.1 s = if ok = true then bfsGo p.2.2.1 ls f (k + 1) L' D' else (L', D', false) := by
      intro L' D' ok he
      rw [← h9, hf, bfsGo, if_pos hk, getD_nat hk, List.getD_eq_getElem?_getD, List.getElem?_eq_getElem hkD]
      simp only [Option.getD_some]
      rw [he]
      cases ok <;> rfl
    refine WLoop.mk (fun v => v.2.1 = p.1 ∧ v.2.2.1 = p.2.1 ∧ v.2.2.2.1 = p.2.2.1 ∧ v.2.2.2.2.2.1 = false ∧ ∃ i : Nat, v.1 = i ∧ i ≤ ls.length ∧ BfsOK p s.length v.2.2.2.2.2.2.2.2.2.1 v.2.2.2.2.2.2.2.2.2.2.1 ∧
        v.2.2.2.2.2.2.2.2.2.2.2.1 = srtOf v.2.2.2.2.2.2.2.2.2.1 ∧ (∃ A, v.2.2.2.2.2.2.2.2.2.1 = L0 ++ A) ∧ (∃ A, v.2.2.2.2.2.2.2.2.2.2.1 = D0 ++ A) ∧
        bfsIn p.2.2.1 L0[k] D0[k] (ls.drop i) v.2.2.2.2.2.2.2.2.2.1 v.2.2.2.2.2.2.2.2.2.2.1 = bfsIn p.2.2.1 L0[k] D0[k] ls L0 D0) (fun v => ls.length - v.1.toNat)
      ⟨rfl, rfl, rfl, rfl, 0, rfl, Nat.zero_le _, h7, rfl, ⟨[], by simp⟩, ⟨[], by simp⟩, rfl⟩ ?_
    rintro ⟨i', m1, m2, m3, b1, wh1, y1, y2, y3, L, D, S, ⟨⟩⟩ ⟨g1, g2, g3, g4, i, g5, g6, g7, g8, ⟨A, g9⟩, ⟨A', g10⟩, g11⟩
    dsimp only at g1 g2 g3 g4 g5 g6 g7 g8 g9 g10 g11
    subst g1 g2 g3 g4 g5 g8
    dsimp only
    have hLf := g7.ok.few
    have hDl := g7.len
    rw [whole_row L, whole_row D, whole_row (srtOf L)]
    refine Br.dec (fun hli => ?_) fun hli => ?_
    · have hi : i < ls.length := by omega
      have hkL : k < L.length := by rw [g9, List.length_append]; omega
      have hLk : L[k] = L0[k] := by simp only [g9]; exact List.getElem_append_left hk
      have hkD2 : k < D.length := by rw [hDl]; exact hkL
      have hDk : D[k] = D0[k] := by simp only [g10]; exact List.getElem_append_left hkD
      have hlet := hmem _ (List.getElem_mem hi)
      obtain ⟨nl, nr⟩ := next_ok hV hx hlet
      rw [List.drop_eq_getElem_cons hi] at g11
      simp only [bfsIn] at g11
      refine ⟨⟨by omega, by omega⟩, L0[k], by rw [Int.toNat_natCast, Nat.zero_add, List.getElem?_eq_getElem hkL, hLk], _, idx_nat hi, _, if_pos ⟨hv, by show L0[k].length ≤ 20; omega, hx, hlet⟩, ?_⟩
      dsimp only
      have hyl : (m_compose L0[k] (m_letterOf p.2.2.1 ls[i])).length = s.length := by rw [nl, hxl]
      refine ⟨_, if_pos (by show SearchOK (m_compose L0[k] (m_letterOf p.2.2.1 ls[i])).length L (srtOf L); rw [hyl]; exact g7.ok), Br.dec (fun hin => ?_) fun hin => ?_⟩
      · have hin : m_compose L0[k] (m_letterOf p.2.2.1 ls[i]) ∈ L := m_pos_neg.1 hin
        rw [if_pos hin] at g11
        rw [wrap_nat (by omega)]
        exact ⟨rfl, rfl, rfl, rfl, rfl, rfl, rfl, rfl, rfl, rfl, rfl, rfl, ⟨rfl, rfl, rfl, rfl, i + 1, rfl, hi, g7, rfl, ⟨A, g9⟩, ⟨A', g10⟩, g11⟩, by omega⟩
      · have hin : m_compose L0[k] (m_letterOf p.2.2.1 ls[i]) ∉ L := fun hh => hin (m_pos_neg.2 hh)
        rw [if_neg hin] at g11
        refine ⟨fun hfull => ?_, fun hfull => ⟨⟨by omega, by omega⟩, D0[k], by rw [Int.toNat_natCast, Nat.zero_add, List.getElem?_eq_getElem hkD2, hDk], rfl, rfl, rfl, rfl, rfl, rfl, ?_⟩⟩
        · have hfull : L.length = 3000 := by
            have : (L.length : Int) = 3000 := by simpa using hfull
            omega
          rw [if_pos hfull] at g11
          have := hgo _ _ _ g11.symm
          rw [if_neg (by decide)] at this
          unfold m_search
          rw [this]
        · have hfull : L.length ≠ 3000 := by
            have : (L.length : Int) ≠ 3000 := by simpa using hfull
            omega
          rw [if_neg hfull] at g11
          rw [wrap_id (n := D0[k] + 1) (by omega) (by omega)]
          refine ⟨_, if_pos ⟨by show SearchOK (m_compose L0[k] (m_letterOf p.2.2.1 ls[i])).length L (srtOf L); rw [hyl]; exact g7.ok, by show D.length ≤ 3000; omega⟩, ?_⟩
          dsimp only
          rw [wrap_nat (by omega), ← srtOf_snoc]
          refine ⟨rfl, rfl, rfl, rfl, rfl, rfl, rfl, rfl, rfl, rfl, rfl, rfl, ⟨rfl, rfl, rfl, rfl, i + 1, rfl, hi, g7.add hin hyl (by omega) nr ⟨by omega, by omega⟩, rfl, ⟨A ++ [m_compose L0[k] (m_letterOf p.2.2.1 ls[i])], by rw [g9, List.append_assoc]⟩, ⟨A' ++ [D0[k] + 1], by rw [g10, List.append_assoc]⟩, g11⟩, by omega⟩
    · have : i = ls.length := by omega
      subst this
      rw [List.drop_length, bfsIn] at g11
      have := hgo _ _ _ g11.symm
      rw [if_pos rfl] at this
      rw [wrap_nat (by omega)]
      refine ⟨rfl, rfl, rfl, rfl, rfl, rfl, rfl, rfl, rfl, rfl, rfl, rfl, ⟨rfl, rfl, rfl, rfl, k + 1, rfl, by rw [g9, List.length_append]; omega, g7, rfl, ?_⟩, by omega⟩
      rw [show 3001 - (k + 1) = f by omega]
      exact this.symm
  · have hk : k = L0.length := by omega
    rw [whole_row L0, whole_row D0, whole_row (srtOf L0)]
    obtain ⟨f, hf⟩ : ∃ f, 3001 - k = f + 1 := ⟨3000 - k, by omega⟩
    rw [hf, bfsGo, if_neg (by omega)] at h9
    unfold m_search
    rw [← h9]
theorem sound_sFrom : Sound Try.prog 139 s_sFrom :=
  Sound.mkS tabWOK (envCons sound_copyInts (envConsM sound_sAdd (envCons sound_lettersOf (envCons sound_applyL (envCons sound_sIndex envNil))))) mixed Try.func139 (by kernel_rfl) (by kernel_rfl) fun x h => p_sFrom x.1 x.2.1 h
end Go.Proofs.Ytfghmbpogmcboaa
