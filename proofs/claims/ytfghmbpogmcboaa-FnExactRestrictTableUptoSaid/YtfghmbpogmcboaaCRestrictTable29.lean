/-
  Part 30 of the proof that the statement FnExactRestrictTable holds.
-/
import Derived.Test.YtfghmbpogmcboaaCRestrictTable28
import Derived.KernelRfl
namespace Go.Proofs.Ytfghmbpogmcboaa
open Go.RowKit

def m_inRange (x a b : Int) : Bool := decide (a ≤ x ∧ x ≤ b)
def m_isPoint (n x : Int) : Bool := decide (0 ≤ x ∧ x ≤ IntKind.i64.wrap (n - 1))
def m_equalInts (a b : List Int) : Bool := decide (a = b)
def m_containsInt (xs : List Int) (x : Int) : Bool := decide (x ∈ xs)
def short (xs : List Int) : Prop := xs.length ≤ 4294967296
noncomputable abbrev s_inRange : Spec := mkS (.pair tI (.pair tI (.pair tI .unit))) .bool false true (fun _ => True) (fun x => m_inRange x.1 x.2.1 x.2.2.1)
noncomputable abbrev s_isPoint : Spec := mkS (.pair tI (.pair tI .unit)) .bool false true (fun _ => True) (fun x => m_isPoint x.1 x.2.1)
noncomputable abbrev s_equalInts : Spec := mkS (.pair tL (.pair tL .unit)) .bool false true (fun x => short x.1) (fun x => m_equalInts x.1 x.2.1)
noncomputable abbrev s_containsInt : Spec := mkS (.pair tL (.pair tI .unit)) .bool false true (fun x => short x.1) (fun x => m_containsInt x.1 x.2.1)
theorem w_inRange (x a b : Int) (P : Bool → Prop) : (Br (decide (x ≥ a)) (P (decide (x ≤ b))) (P false)) = fnW tab (look []) s_inRange Try.f57 (x, a, b, ()) P := by kernel_rfl
theorem w_within (x a b : Int) (P : Bool → Prop) : (Br (decide (x ≥ a)) (P (decide (x ≤ b))) (P false)) = fnW tab (look []) s_inRange Try.f61 (x, a, b, ()) P := by kernel_rfl
theorem w_isPoint (n x : Int) (P : Bool → Prop) : (∃ (y3 : Bool), s_inRange.fn (x, 0, IntKind.i64.wrap (n - 1), ()) = some y3 ∧ P y3) = fnW tab (look [(61, s_inRange)]) s_isPoint Try.f119 (n, x, ()) P := by kernel_rfl
theorem w_equalInts (a b : List Int) (P : Bool → Prop) : (Br ((↑a.length : Int) != (↑b.length : Int)) (P false)
  (WLoop
    (fun (v3 : Int × PUnit) (k4 : Int × PUnit → Prop) =>
      Br (decide (v3.fst < (↑a.length : Int))) (∃ (y5 : Int), idx a v3.fst = some y5 ∧ ∃ (y6 : Int), idx b v3.fst = some y6 ∧ Br (y5 != y6) (P false) (k4 (IntKind.i64.wrap (v3.fst + 1), ())))
        (P true))
    (0, PUnit.unit))) = fnW tab (look []) s_equalInts Try.f90 (a, b, ()) P := by kernel_rfl
theorem w_containsInt (xs : List Int) (x : Int) (P : Bool → Prop) : (WLoop
  (fun (v3 : Int × PUnit) (k4 : Int × PUnit → Prop) =>
    Br (decide (v3.fst < (↑xs.length : Int))) (∃ (y5 : Int), idx xs v3.fst = some y5 ∧ Br (y5 == x) (P true) (k4 (IntKind.i64.wrap (v3.fst + 1), ()))) (P false))
  (0, PUnit.unit)) = fnW tab (look []) s_containsInt Try.f131 (xs, x, ()) P := by kernel_rfl
theorem p_inRange (x a b : Int) (_ : True) : fnW tab (look []) s_inRange Try.f57 (x, a, b, ()) (fun (z : Bool) => z = m_inRange x a b) := by
  refine Eq.mp (w_inRange x a b _) ?_
  refine Br.dec (fun h => ?_) fun h => ?_
  · have h : a ≤ x := h
    simp [m_inRange, h]
  · exact (decide_eq_false fun hh => h hh.1).symm
theorem sound_inRange : Sound Try.prog 57 s_inRange :=
  Sound.mkS tabOK envNil mixed Try.func57 (by kernel_rfl) (by kernel_rfl) fun x h => p_inRange x.1 x.2.1 x.2.2.1 h
theorem p_within (x a b : Int) (_ : True) : fnW tab (look []) s_inRange Try.f61 (x, a, b, ()) (fun (z : Bool) => z = m_inRange x a b) := by
  refine Eq.mp (w_within x a b _) ?_
  refine Br.dec (fun h => ?_) fun h => ?_
  · have h : a ≤ x := h
    simp [m_inRange, h]
  · exact (decide_eq_false fun hh => h hh.1).symm
theorem sound_within : Sound Try.prog 61 s_inRange :=
  Sound.mkS tabOK envNil mixed Try.func61 (by kernel_rfl) (by kernel_rfl) fun x h => p_within x.1 x.2.1 x.2.2.1 h
theorem p_isPoint (n x : Int) (_ : True) : fnW tab (look [(61, s_inRange)]) s_isPoint Try.f119 (n, x, ()) (fun (z : Bool) => z = m_isPoint n x) :=
  Eq.mp (w_isPoint n x _) ⟨_, if_pos trivial, rfl⟩
theorem sound_isPoint : Sound Try.prog 119 s_isPoint :=
  Sound.mkS tabOK (envCons sound_within envNil) mixed Try.func119 (by kernel_rfl) (by kernel_rfl) fun x h => p_isPoint x.1 x.2.1 h
theorem p_containsInt (xs : List Int) (x : Int) (h : short xs) : fnW tab (look []) s_containsInt Try.f131 (xs, x, ()) (fun (z : Bool) => z = m_containsInt xs x) := by
  refine Eq.mp (w_containsInt xs x _) ?_
  unfold short at h
  refine loop_range xs.length (fun v => v.1) (fun j _ => x ∉ xs.take j) rfl (by simp) ?_
  rintro j ⟨i, ⟨⟩⟩ K hj hi hR hK
  dsimp only at hi ⊢
  subst hi
  refine Br.dec (fun hl => ?_) fun hl => ?_
  · have hl : j < xs.length := by omega
    refine ⟨_, idx_nat hl, ⟨fun he => ?_, fun he => ?_⟩⟩
    · have hm := List.getElem_mem hl
      simp only [beq_iff_eq] at he
      rw [he] at hm
      exact (decide_eq_true hm).symm
    · rw [wrap_nat (by omega)]
      refine hK hl _ rfl ?_
      simp only [beq_eq_false_iff_ne, ne_eq] at he
      rw [List.take_succ_eq_append_getElem hl]
      simp only [List.mem_append, List.mem_singleton, not_or]
      exact ⟨hR, fun hx => he hx.symm⟩
  · have : j = xs.length := by omega
    subst this
    rw [List.take_length] at hR
    exact (decide_eq_false hR).symm
theorem sound_containsInt : Sound Try.prog 131 s_containsInt :=
  Sound.mkS tabOK envNil mixed Try.func131 (by kernel_rfl) (by kernel_rfl) fun x h => p_containsInt x.1 x.2.1 h
theorem eq_loop (a b : List Int) (hlen : a.length = b.length) (h : short a) :
    WLoop (fun (v3 : Int × PUnit) (k4 : Int × PUnit → Prop) =>
      Br (decide (v3.fst < (↑a.length : Int))) (∃ (y5 : Int), idx a v3.fst = some y5 ∧ ∃ (y6 : Int), idx b v3.fst = some y6 ∧ Br (y5 != y6) (false = m_equalInts a b) (k4 (IntKind.i64.wrap (v3.fst + 1), ())))
        (true = m_equalInts a b))
    (0, PUnit.unit) := by
  unfold short at h
  refine loop_range a.length (fun v => v.1) (fun j _ => a.take j = b.take j) rfl (by simp) ?_
  rintro j ⟨i, ⟨⟩⟩ K hj hi hR hK
  dsimp only at hi ⊢
  subst hi
  refine Br.dec (fun hl => ?_) fun hl => ?_
  · have hl1 : j < a.length := by omega
    have hl2 : j < b.length := by omega
    refine ⟨_, idx_nat hl1, _, idx_nat hl2, ⟨fun he => ?_, fun he => ?_⟩⟩
    · simp only [bne_iff_ne, ne_eq] at he
      refine (decide_eq_false fun hab => he ?_).symm
      subst hab
      rfl
    · rw [wrap_nat (by omega)]
      refine hK hl1 _ rfl ?_
      simp only [bne_eq_false_iff_eq] at he
      rw [List.take_succ_eq_append_getElem hl1, List.take_succ_eq_append_getElem hl2, hR, he]
  · have hj' : j = a.length := by omega
    subst hj'
    rw [List.take_length, hlen, List.take_length] at hR
    exact (decide_eq_true hR).symm
theorem p_equalInts (a b : List Int) (h : short a) : fnW tab (look []) s_equalInts Try.f90 (a, b, ()) (fun (z : Bool) => z = m_equalInts a b) := by
  refine Eq.mp (w_equalInts a b _) ⟨fun hl => ?_, fun hl => ?_⟩
  · simp only [bne_iff_ne, ne_eq, Int.natCast_inj] at hl
    exact (decide_eq_false fun hab => hl (by rw [hab])).symm
  · simp only [bne_eq_false_iff_eq, Int.natCast_inj] at hl
    exact eq_loop a b hl h
theorem sound_equalInts : Sound Try.prog 90 s_equalInts :=
  Sound.mkS tabOK envNil mixed Try.func90 (by kernel_rfl) (by kernel_rfl) fun x h => p_equalInts x.1 x.2.1 h
end Go.Proofs.Ytfghmbpogmcboaa

namespace Go.Proofs.Ytfghmbpogmcboaa
open Go.RowKit

abbrev TT : Type := List Int × List (List Int) × List Int × Unit
def shortLL (xs : List (List Int)) : Prop := xs.length ≤ 4294967296 ∧ ∀ r ∈ xs, short r
def shortT (t : TT) : Prop := short t.1 ∧ shortLL t.2.1 ∧ short t.2.2.1
def roomy (room : Int) : Prop := 0 ≤ room ∧ room ≤ 4294967296
def m_sz (n : Nat) (room : Int) : Int := if room - n < 0 then -1 else room - n
def m_szL (xs : List Int) (room : Int) : Int := m_sz xs.length room
def szGo : List (List Int) → Int → Int
  | [], room => room
  | r :: rs, room => if m_szL r room < 0 then -1 else szGo rs (m_szL r room)
def m_szLL (xs : List (List Int)) (room : Int) : Int := if m_sz xs.length room < 0 then -1 else szGo xs (m_sz xs.length room)
def m_szTable (t : TT) (room : Int) : Int :=
  if m_szL t.1 room < 0 then -1 else if m_szLL t.2.1 (m_szL t.1 room) < 0 then -1 else
  if m_szL t.2.2.1 (m_szLL t.2.1 (m_szL t.1 room)) < 0 then -1 else m_szL t.2.2.1 (m_szLL t.2.1 (m_szL t.1 room))
def m_eqLL (a b : List (List Int)) : Bool := decide (a = b)
def m_eqT (a b : TT) : Bool := decide (a.1 = b.1) && (decide (a.2.1 = b.2.1) && decide (a.2.2.1 = b.2.2.1))
noncomputable abbrev s_szL : Spec := mkS (.pair tL (.pair tI .unit)) tI false true (fun x => short x.1 ∧ roomy x.2.1) (fun x => m_szL x.1 x.2.1)
noncomputable abbrev s_szLL : Spec := mkS (.pair tLL (.pair tI .unit)) tI false true (fun x => shortLL x.1 ∧ roomy x.2.1) (fun x => m_szLL x.1 x.2.1)
noncomputable abbrev s_szTable : Spec := mkS (.pair tTable (.pair tI .unit)) tI false true (fun x => shortT x.1 ∧ roomy x.2.1) (fun x => m_szTable x.1 x.2.1)
noncomputable abbrev s_toL : Spec := mkS (.pair tL .unit) tL false true (fun x => short x.1) (fun x => x.1)
noncomputable abbrev s_toLL : Spec := mkS (.pair tLL .unit) tLL false true (fun x => shortLL x.1) (fun x => x.1)
noncomputable abbrev s_toTable : Spec := mkS (.pair tTable .unit) tTable false true (fun x => shortT x.1) (fun x => x.1)
noncomputable abbrev s_eqLL : Spec := mkS (.pair tLL (.pair tLL .unit)) .bool false true (fun x => shortLL x.1) (fun x => m_eqLL x.1 x.2.1)
noncomputable abbrev s_eqTable : Spec := mkS (.pair tTable (.pair tTable .unit)) .bool false true (fun x => shortT x.1) (fun x => m_eqT x.1 x.2.1)
theorem w_szL (xs : List Int) (room : Int) (P : Int → Prop) : (Br (decide (IntKind.i64.wrap (room - (↑xs.length : Int)) < 0)) (P (-1)) (P (IntKind.i64.wrap (room - (↑xs.length : Int))))) = fnW tab (look []) s_szL Try.f66 (xs, room, ()) P := by kernel_rfl
theorem w_szLL (xs : List (List Int)) (room : Int) (P : Int → Prop) : (Br (decide (IntKind.i64.wrap (room - (↑xs.length : Int)) < 0)) (P (-1))
  (WLoop
    (fun (v3 : Int × Int × PUnit) (k4 : Int × Int × PUnit → Prop) =>
      Br (decide (v3.2.fst < (↑xs.length : Int)))
        (∃ (y5 : List Int), idx xs v3.2.fst = some y5 ∧ ∃ (y6 : Int), s_szL.fn (y5, v3.fst, ()) = some y6 ∧ Br (decide (y6 < 0)) (P (-1)) (k4 (y6, IntKind.i64.wrap (v3.2.fst + 1), ()))) (P v3.fst))
    (IntKind.i64.wrap (room - (↑xs.length : Int)), 0, PUnit.unit))) = fnW tab (look [(66, s_szL)]) s_szLL Try.f55 (xs, room, ()) P := by kernel_rfl
theorem w_szTable (t : List Int × List (List Int) × List Int × Unit) (room : Int) (P : Int → Prop) : (∃ (y3 : Int),
  s_szL.fn (t.fst, room, ()) = some y3 ∧
    Br (decide (y3 < 0)) (P (-1))
      (∃ (y4 : Int), s_szLL.fn (t.2.fst, y3, ()) = some y4 ∧ Br (decide (y4 < 0)) (P (-1)) (∃ (y5 : Int), s_szL.fn (t.snd.2.fst, y4, ()) = some y5 ∧ Br (decide (y5 < 0)) (P (-1)) (P y5)))) = fnW tab (look [(66, s_szL), (55, s_szLL)]) s_szTable Try.f23 (t, room, ()) P := by kernel_rfl
theorem w_toL (xs : List Int) (P : List Int → Prop) : ((0 ≤ (↑xs.length : Int) ∧ (↑xs.length : Int) < (↑maxRow : Int) + 1) ∧
  (↑xs.length : Int) = (↑xs.length : Int) ∧
    0 = 0 ∧
      (List.replicate (↑xs.length : Int).toNat (Int.ofNat 0)).length = (List.replicate (↑xs.length : Int).toNat (Int.ofNat 0)).length ∧
        WLoop
          (fun (v2 : Int × List Int × PUnit) (k3 : Int × List Int × PUnit → Prop) =>
            Br (decide (v2.fst < (↑xs.length : Int)))
              (∃ (y4 : Int),
                idx xs v2.fst = some y4 ∧
                  (0 ≤ v2.fst ∧ v2.fst < (↑v2.2.fst.length : Int)) ∧
                    0 + v2.fst.toNat < v2.2.fst.length ∧
                      0 = 0 ∧ v2.2.fst.length = (v2.2.fst.set (0 + v2.fst.toNat) y4).length ∧ k3 (IntKind.i64.wrap (v2.fst + 1), v2.2.fst.set (0 + v2.fst.toNat) y4, ()))
              (P (List.take v2.2.fst.length (List.drop 0 v2.2.fst))))
          (0, List.replicate (↑xs.length : Int).toNat (Int.ofNat 0), PUnit.unit)) = fnW tab (look []) s_toL Try.f26 (xs, ()) P := by kernel_rfl
theorem w_toLL (xs : List (List Int)) (P : List (List Int) → Prop) : ((0 ≤ (↑xs.length : Int) ∧ (↑xs.length : Int) < (↑maxRow : Int) + 1) ∧
  (↑xs.length : Int) = (↑xs.length : Int) ∧
    0 = 0 ∧
      (List.replicate (↑xs.length : Int).toNat ([] : List Int)).length = (List.replicate (↑xs.length : Int).toNat ([] : List Int)).length ∧
        WLoop
          (fun (v2 : Int × List (List Int) × PUnit) (k3 : Int × List (List Int) × PUnit → Prop) =>
            Br (decide (v2.fst < (↑xs.length : Int)))
              (∃ (y4 : List Int),
                idx xs v2.fst = some y4 ∧
                  ∃ (y5 : List Int),
                    s_toL.fn (y4, ()) = some y5 ∧
                      (0 ≤ v2.fst ∧ v2.fst < (↑v2.2.fst.length : Int)) ∧
                        0 + v2.fst.toNat < v2.2.fst.length ∧
                          0 = 0 ∧ v2.2.fst.length = (v2.2.fst.set (0 + v2.fst.toNat) y5).length ∧ k3 (IntKind.i64.wrap (v2.fst + 1), v2.2.fst.set (0 + v2.fst.toNat) y5, ()))
              (P (List.take v2.2.fst.length (List.drop 0 v2.2.fst))))
          (0, List.replicate (↑xs.length : Int).toNat ([] : List Int), PUnit.unit)) = fnW tab (look [(26, s_toL)]) s_toLL Try.f59 (xs, ()) P := by kernel_rfl
theorem w_toTable (t : List Int × List (List Int) × List Int × Unit) (P : (List Int × List (List Int) × List Int × Unit) → Prop) : (∃ (y2 : List Int), s_toL.fn (t.fst, ()) = some y2 ∧ ∃ (y3 : List (List Int)), s_toLL.fn (t.2.fst, ()) = some y3 ∧ ∃ (y4 : List Int), s_toL.fn (t.snd.2.fst, ()) = some y4 ∧ P (y2, y3, y4, ())) = fnW tab (look [(26, s_toL), (59, s_toLL)]) s_toTable Try.f25 (t, ()) P := by kernel_rfl
theorem w_eqL (a b : List Int) (P : Bool → Prop) : (Br ((↑a.length : Int) != (↑b.length : Int)) (P false)
  (WLoop
    (fun (v3 : Int × PUnit) (k4 : Int × PUnit → Prop) =>
      Br (decide (v3.fst < (↑a.length : Int))) (∃ (y5 : Int), idx a v3.fst = some y5 ∧ ∃ (y6 : Int), idx b v3.fst = some y6 ∧ Br (y5 != y6) (P false) (k4 (IntKind.i64.wrap (v3.fst + 1), ())))
        (P true))
    (0, PUnit.unit))) = fnW tab (look []) s_equalInts Try.f18 (a, b, ()) P := by kernel_rfl
theorem w_eqLL (a b : List (List Int)) (P : Bool → Prop) : (Br ((↑a.length : Int) != (↑b.length : Int)) (P false)
  (WLoop
    (fun (v3 : Int × PUnit) (k4 : Int × PUnit → Prop) =>
      Br (decide (v3.fst < (↑a.length : Int)))
        (∃ (y5 : List Int),
          idx a v3.fst = some y5 ∧ ∃ (y6 : List Int), idx b v3.fst = some y6 ∧ ∃ (y7 : Bool), s_equalInts.fn (y5, y6, ()) = some y7 ∧ Br (!y7) (P false) (k4 (IntKind.i64.wrap (v3.fst + 1), ())))
        (P true))
    (0, PUnit.unit))) = fnW tab (look [(18, s_equalInts)]) s_eqLL Try.f35 (a, b, ()) P := by kernel_rfl
theorem w_eqTable (a b : List Int × List (List Int) × List Int × Unit) (P : Bool → Prop) : (∃ (y3 : Bool),
  s_equalInts.fn (a.fst, b.fst, ()) = some y3 ∧
    Br (!y3) (P false)
      (∃ (y4 : Bool), s_eqLL.fn (a.2.fst, b.2.fst, ()) = some y4 ∧ Br (!y4) (P false) (∃ (y5 : Bool), s_equalInts.fn (a.snd.2.fst, b.snd.2.fst, ()) = some y5 ∧ Br (!y5) (P false) (P true)))) = fnW tab (look [(18, s_equalInts), (35, s_eqLL)]) s_eqTable Try.f28 (a, b, ()) P := by kernel_rfl
theorem m_sz_room {n : Nat} {room : Int} (h : roomy room) (h2 : ¬ m_sz n room < 0) : roomy (m_sz n room) := by
  unfold m_sz roomy at *
  split at h2 <;> simp_all
  omega
theorem p_szL (xs : List Int) (room : Int) (h : short xs ∧ roomy room) : fnW tab (look []) s_szL Try.f66 (xs, room, ()) (fun (z : Int) => z = m_szL xs room) := by
  obtain ⟨h1, h2, h3⟩ := h
  unfold short at h1
  refine Eq.mp (w_szL xs room _) ?_
  rw [wrap_id (by omega) (by omega)]
  refine Br.dec (fun h => ?_) fun h => ?_
  · simp only [m_szL, m_sz, if_pos h]
  · simp only [m_szL, m_sz, if_neg h]
theorem sound_szL : Sound Try.prog 66 s_szL :=
  Sound.mkS tabOK envNil mixed Try.func66 (by kernel_rfl) (by kernel_rfl) fun x h => p_szL x.1 x.2.1 h
theorem p_szLL (xs : List (List Int)) (room : Int) (h : shortLL xs ∧ roomy room) : fnW tab (look [(66, s_szL)]) s_szLL Try.f55 (xs, room, ()) (fun (z : Int) => z = m_szLL xs room) := by
  obtain ⟨⟨h1, h4⟩, h2, h3⟩ := h
  refine Eq.mp (w_szLL xs room _) ?_
  rw [wrap_id (by omega) (by omega)]
  refine Br.dec (fun h => ?_) fun h => ?_
  · simp only [m_szLL, m_sz, if_pos h]; rfl
  · refine loop_range xs.length (fun v => v.2.1) (fun j v => roomy v.1 ∧ szGo (xs.drop j) v.1 = m_szLL xs room) rfl ?_ ?_
    · refine ⟨by unfold roomy; omega, ?_⟩
      simp only [m_szLL, m_sz, if_neg h, List.drop_zero]
    · rintro j ⟨r, i, ⟨⟩⟩ K hj hi ⟨hr, hR⟩ hK
      dsimp only at hi hr hR ⊢
      subst hi
      refine Br.dec (fun hl => ?_) fun hl => ?_
      · have hl : j < xs.length := by omega
        have hd : xs.drop j = xs[j] :: xs.drop (j + 1) := List.drop_eq_getElem_cons hl
        refine ⟨_, idx_nat hl, _, if_pos ⟨h4 _ (List.getElem_mem hl), hr⟩, ?_⟩
        rw [hd] at hR
        simp only [szGo] at hR
        refine Br.dec (fun hn => ?_) fun hn => ?_
        · have hn : m_szL xs[j] r < 0 := hn
          rw [if_pos hn] at hR
          exact hR
        · have hn : ¬ m_szL xs[j] r < 0 := hn
          rw [if_neg hn] at hR
          rw [wrap_nat (by omega)]
          exact hK hl _ rfl ⟨m_sz_room hr hn, hR⟩
      · have : j = xs.length := by omega
        subst this
        rw [List.drop_length] at hR
        exact hR
theorem sound_szLL : Sound Try.prog 55 s_szLL :=
  Sound.mkS tabOK (envCons sound_szL envNil) mixed Try.func55 (by kernel_rfl) (by kernel_rfl) fun x h => p_szLL x.1 x.2.1 h
theorem szGo_room : ∀ (xs : List (List Int)) (room : Int), roomy room → ¬ szGo xs room < 0 → roomy (szGo xs room)
  | [], room, h, _ => h
  | r :: rs, room, h, h2 => by
    simp only [szGo] at h2 ⊢
    split
    · rename_i hn; rw [if_pos hn] at h2; exact absurd (show (-1 : Int) < 0 by decide) h2
    · rename_i hn; rw [if_neg hn] at h2; exact szGo_room rs _ (m_sz_room h hn) h2
theorem m_szLL_room {xs : List (List Int)} {room : Int} (h : roomy room) (h2 : ¬ m_szLL xs room < 0) : roomy (m_szLL xs room) := by
  unfold m_szLL at *
  split
  · rename_i hn; rw [if_pos hn] at h2; exact absurd (show (-1 : Int) < 0 by decide) h2
  · rename_i hn; rw [if_neg hn] at h2; exact szGo_room _ _ (m_sz_room h hn) h2
theorem p_szTable (t : TT) (room : Int) (h : shortT t ∧ roomy room) : fnW tab (look [(66, s_szL), (55, s_szLL)]) s_szTable Try.f23 (t, room, ()) (fun (z : Int) => z = m_szTable t room) := by
  obtain ⟨⟨h1, h2, h3⟩, hr⟩ := h
  refine Eq.mp (w_szTable t room _) ?_
  refine ⟨_, if_pos ⟨h1, hr⟩, Br.dec (fun hn => ?_) fun hn => ?_⟩
  · exact (if_pos hn).symm
  · have r1 := m_sz_room hr hn
    refine ⟨_, if_pos ⟨h2, r1⟩, Br.dec (fun hm => ?_) fun hm => ?_⟩
    · exact ((if_neg hn).trans (if_pos hm)).symm
    · have r2 := m_szLL_room r1 hm
      refine ⟨_, if_pos ⟨h3, r2⟩, Br.dec (fun hk => ?_) fun hk => ?_⟩
      · exact ((if_neg hn).trans ((if_neg hm).trans (if_pos hk))).symm
      · exact ((if_neg hn).trans ((if_neg hm).trans (if_neg hk))).symm
theorem sound_szTable : Sound Try.prog 23 s_szTable :=
  Sound.mkS tabOK (envCons sound_szL (envCons sound_szLL envNil)) mixed Try.func23 (by kernel_rfl) (by kernel_rfl) fun x h => p_szTable x.1 x.2.1 h
theorem take_set_succ {α : Type} {ys xs : List α} {j : Nat} (h : j < xs.length) (hl : ys.length = xs.length) (ht : ys.take j = xs.take j) : (ys.set j xs[j]).take (j + 1) = xs.take (j + 1) := by
  have h1 : j < (ys.set j xs[j]).length := by rw [List.length_set]; omega
  rw [List.take_succ_eq_append_getElem h1, List.take_succ_eq_append_getElem h, List.getElem_set_self, List.take_set_of_le (Nat.le_refl j), ht]
theorem p_toL (xs : List Int) (h : short xs) : fnW tab (look []) s_toL Try.f26 (xs, ()) (fun (z : List Int) => z = xs) := by
  unfold short at h
  refine Eq.mp (w_toL xs _) ?_
  refine ⟨⟨by omega, by show (xs.length : Int) < (4294967296 : Int) + 1; omega⟩, rfl, rfl, rfl, ?_⟩
  refine loop_range xs.length (fun v => v.1) (fun j v => v.2.1.length = xs.length ∧ v.2.1.take j = xs.take j) rfl ⟨by simp, by simp⟩ ?_
  rintro j ⟨i, ys, ⟨⟩⟩ K hj hi ⟨h1, h2⟩ hK
  dsimp only at hi h1 h2 ⊢
  subst hi
  refine Br.dec (fun hl => ?_) fun hl => ?_
  · have hl : j < xs.length := by omega
    refine ⟨_, idx_nat hl, ⟨by omega, by omega⟩, by rw [Int.toNat_natCast]; omega, rfl, by rw [List.length_set], ?_⟩
    rw [wrap_nat (by omega), Int.toNat_natCast, Nat.zero_add]
    exact hK hl _ rfl ⟨by rw [List.length_set]; exact h1, take_set_succ hl h1 h2⟩
  · have : j = xs.length := by omega
    subst this
    rw [List.take_length, ← h1, List.take_length] at h2
    rw [List.drop_zero, List.take_length]
    exact h2
theorem sound_toL : Sound Try.prog 26 s_toL :=
  Sound.mkS tabOK envNil mixed Try.func26 (by kernel_rfl) (by kernel_rfl) fun x h => p_toL x.1 h
theorem p_toLL (xs : List (List Int)) (h : shortLL xs) : fnW tab (look [(26, s_toL)]) s_toLL Try.f59 (xs, ()) (fun (z : List (List Int)) => z = xs) := by
  obtain ⟨h, h4⟩ := h
  refine Eq.mp (w_toLL xs _) ?_
  refine ⟨⟨by omega, by show (xs.length : Int) < (4294967296 : Int) + 1; omega⟩, rfl, rfl, rfl, ?_⟩
  refine loop_range xs.length (fun v => v.1) (fun j v => v.2.1.length = xs.length ∧ v.2.1.take j = xs.take j) rfl ⟨by simp, by simp⟩ ?_
  rintro j ⟨i, ys, ⟨⟩⟩ K hj hi ⟨h1, h2⟩ hK
  dsimp only at hi h1 h2 ⊢
  subst hi
  refine Br.dec (fun hl => ?_) fun hl => ?_
  · have hl : j < xs.length := by omega
    refine ⟨_, idx_nat hl, _, if_pos (h4 _ (List.getElem_mem hl)), ⟨by omega, by omega⟩, by rw [Int.toNat_natCast]; omega, rfl, by rw [List.length_set], ?_⟩
    rw [wrap_nat (by omega), Int.toNat_natCast, Nat.zero_add]
    exact hK hl _ rfl ⟨by rw [List.length_set]; exact h1, take_set_succ hl h1 h2⟩
  · have : j = xs.length := by omega
    subst this
    rw [List.take_length, ← h1, List.take_length] at h2
    rw [List.drop_zero, List.take_length]
    exact h2
theorem sound_toLL : Sound Try.prog 59 s_toLL :=
  Sound.mkS tabOK (envCons sound_toL envNil) mixed Try.func59 (by kernel_rfl) (by kernel_rfl) fun x h => p_toLL x.1 h
theorem p_toTable (t : TT) (h : shortT t) : fnW tab (look [(26, s_toL), (59, s_toLL)]) s_toTable Try.f25 (t, ()) (fun (z : TT) => z = t) := by
  refine Eq.mp (w_toTable t _) ?_
  exact ⟨_, if_pos h.1, _, if_pos h.2.1, _, if_pos h.2.2, rfl⟩
theorem sound_toTable : Sound Try.prog 25 s_toTable :=
  Sound.mkS tabOK (envCons sound_toL (envCons sound_toLL envNil)) mixed Try.func25 (by kernel_rfl) (by kernel_rfl) fun x h => p_toTable x.1 h
theorem p_eqL (a b : List Int) (h : short a) : fnW tab (look []) s_equalInts Try.f18 (a, b, ()) (fun (z : Bool) => z = m_equalInts a b) := by
  refine Eq.mp (w_eqL a b _) ⟨fun hl => ?_, fun hl => ?_⟩
  · simp only [bne_iff_ne, ne_eq, Int.natCast_inj] at hl
    exact (decide_eq_false fun hab => hl (by rw [hab])).symm
  · simp only [bne_eq_false_iff_eq, Int.natCast_inj] at hl
    exact eq_loop a b hl h
theorem sound_eqL : Sound Try.prog 18 s_equalInts :=
  Sound.mkS tabOK envNil mixed Try.func18 (by kernel_rfl) (by kernel_rfl) fun x h => p_eqL x.1 x.2.1 h
theorem p_eqLL (a b : List (List Int)) (h : shortLL a) : fnW tab (look [(18, s_equalInts)]) s_eqLL Try.f35 (a, b, ()) (fun (z : Bool) => z = m_eqLL a b) := by
  obtain ⟨h, h4⟩ := h
  refine Eq.mp (w_eqLL a b _) ⟨fun hl => ?_, fun hl => ?_⟩
  · simp only [bne_iff_ne, ne_eq, Int.natCast_inj] at hl
    exact (decide_eq_false fun hab => hl (by rw [hab])).symm
  · simp only [bne_eq_false_iff_eq, Int.natCast_inj] at hl
    refine loop_range a.length (fun v => v.1) (fun j _ => a.take j = b.take j) rfl (by simp) ?_
    rintro j ⟨i, ⟨⟩⟩ K hj hi hR hK
    dsimp only at hi ⊢
    subst hi
    refine Br.dec (fun hlt => ?_) fun hlt => ?_
    · have hl1 : j < a.length := by omega
      have hl2 : j < b.length := by omega
      refine ⟨_, idx_nat hl1, _, idx_nat hl2, _, if_pos (h4 _ (List.getElem_mem hl1)), ⟨fun he => ?_, fun he => ?_⟩⟩
      · refine (decide_eq_false fun hab => ?_).symm
        subst hab
        simp [m_equalInts] at he
      · rw [wrap_nat (by omega)]
        refine hK hl1 _ rfl ?_
        simp only [m_equalInts, Bool.not_eq_false', decide_eq_true_eq] at he
        rw [List.take_succ_eq_append_getElem hl1, List.take_succ_eq_append_getElem hl2, hR]
        exact congrArg (fun x => List.take j b ++ [x]) he
    · have hj' : j = a.length := by omega
      subst hj'
      rw [List.take_length, hl, List.take_length] at hR
      exact (decide_eq_true hR).symm
theorem sound_eqLL : Sound Try.prog 35 s_eqLL :=
  Sound.mkS tabOK (envCons sound_eqL envNil) mixed Try.func35 (by kernel_rfl) (by kernel_rfl) fun x h => p_eqLL x.1 x.2.1 h
theorem p_eqTable (a b : TT) (h : shortT a) : fnW tab (look [(18, s_equalInts), (35, s_eqLL)]) s_eqTable Try.f28 (a, b, ()) (fun (z : Bool) => z = m_eqT a b) := by
  refine Eq.mp (w_eqTable a b _) ?_
  refine ⟨_, if_pos h.1, ⟨fun h1 => ?_, fun h1 => ?_⟩⟩
  · have h1 : (!m_equalInts a.1 b.1) = true := h1
    simp only [m_equalInts] at h1
    unfold m_eqT
    cases hd : decide (a.1 = b.1) <;> simp_all
  · have h1 : (!m_equalInts a.1 b.1) = false := h1
    simp only [m_equalInts] at h1
    refine ⟨_, if_pos h.2.1, ⟨fun h2 => ?_, fun h2 => ?_⟩⟩
    · have h2 : (!m_eqLL a.2.1 b.2.1) = true := h2
      simp only [m_eqLL] at h2
      unfold m_eqT
      cases hd : decide (a.2.1 = b.2.1) <;> simp_all
    · have h2 : (!m_eqLL a.2.1 b.2.1) = false := h2
      simp only [m_eqLL] at h2
      refine ⟨_, if_pos h.2.2, ⟨fun h3 => ?_, fun h3 => ?_⟩⟩
      · have h3 : (!m_equalInts a.2.2.1 b.2.2.1) = true := h3
        simp only [m_equalInts] at h3
        unfold m_eqT
        cases hd : decide (a.2.2.1 = b.2.2.1) <;> simp_all
      · have h3 : (!m_equalInts a.2.2.1 b.2.2.1) = false := h3
        simp only [m_equalInts] at h3
        unfold m_eqT
        simp_all
theorem sound_eqTable : Sound Try.prog 28 s_eqTable :=
  Sound.mkS tabOK (envCons sound_eqL (envCons sound_eqLL envNil)) mixed Try.func28 (by kernel_rfl) (by kernel_rfl) fun x h => p_eqTable x.1 x.2.1 h
end Go.Proofs.Ytfghmbpogmcboaa

namespace Go.Proofs.Ytfghmbpogmcboaa
open Go.RowKit

def m_index : List Int → Int → Int → Int
  | [], _, _ => -1
  | y :: r, x, i => if y = x then i else m_index r x (i + 1)
noncomputable abbrev s_index : Spec := mkS (.pair tL (.pair tI .unit)) tI false true (fun x => short x.1) (fun x => m_index x.1 x.2.1 0)
def PL (n : Int) (xs : List Int) (k : Nat) : Prop := ∀ j (h : j < xs.length), j < k → 0 ≤ xs[j] ∧ xs[j] ≤ n - 1 ∧ (0 < j → xs[j - 1] < xs[j])
def DL (n : Int) (xs : List Int) (k : Nat) : Prop := ∀ j (h : j < xs.length), j < k → 0 ≤ xs[j] ∧ xs[j] ≤ n - 1 ∧ xs[j] ∉ xs.take j
noncomputable def dec (p : Prop) : Bool := @decide p (Classical.propDecidable p)
theorem dec_true {p : Prop} (h : p) : true = dec p := (@decide_eq_true p (Classical.propDecidable p) h).symm
theorem dec_false {p : Prop} (h : ¬ p) : false = dec p := (@decide_eq_false p (Classical.propDecidable p) h).symm
theorem dec_iff {p : Prop} : dec p = true ↔ p := @decide_eq_true_iff p (Classical.propDecidable p)
def nOK (n : Int) : Prop := 0 ≤ n ∧ n ≤ 4294967296
noncomputable def m_pointList (n : Int) (xs : List Int) : Bool := dec (0 < xs.length ∧ PL n xs xs.length)
noncomputable def m_distinct (n : Int) (xs : List Int) (m : Int) : Bool := dec ((xs.length : Int) = m ∧ DL n xs xs.length)
def WF (t : TT) : Prop := m_pointList 20 t.1 = true ∧ (1 ≤ t.2.1.length ∧ t.2.1.length ≤ 3000) ∧ t.2.2.1.length = t.2.1.length ∧
  ∀ j (h1 : j < t.2.1.length) (h2 : j < t.2.2.1.length), m_distinct 20 t.2.1[j] t.1.length = true ∧ 0 ≤ t.2.2.1[j] ∧ t.2.2.1[j] ≤ 3000
noncomputable def m_wellFormed (t : TT) : Bool := dec (WF t)
noncomputable abbrev s_pointList : Spec := mkS (.pair tI (.pair tL .unit)) .bool false true (fun x => nOK x.1 ∧ short x.2.1) (fun x => m_pointList x.1 x.2.1)
noncomputable abbrev s_distinct : Spec := mkS (.pair tI (.pair tL (.pair tI .unit))) .bool false true (fun x => nOK x.1 ∧ short x.2.1) (fun x => m_distinct x.1 x.2.1 x.2.2.1)
noncomputable abbrev s_isPattern : Spec := mkS (.pair tI (.pair tI (.pair tL .unit))) .bool false true (fun x => nOK x.1 ∧ short x.2.2.1) (fun x => m_distinct x.1 x.2.2.1 x.2.1)
noncomputable abbrev s_lenLL : Spec := mkS (.pair tLL .unit) tI false true (fun _ => True) (fun x => (List.length x.1 : Int))
noncomputable abbrev s_wellFormed : Spec := mkS (.pair tTable .unit) .bool false true (fun x => shortT x.1) (fun x => m_wellFormed x.1)
theorem w_index (xs : List Int) (x : Int) (P : Int → Prop) : (WLoop
  (fun (v3 : Int × PUnit) (k4 : Int × PUnit → Prop) =>
    Br (decide (v3.fst < (↑xs.length : Int))) (∃ (y5 : Int), idx xs v3.fst = some y5 ∧ Br (x == y5) (P v3.fst) (k4 (IntKind.i64.wrap (v3.fst + (1 : Int)), ()))) (P (-1 : Int)))
  ((0 : Int), PUnit.unit)) = fnW tab (look []) s_index Try.f75 (xs, x, ()) P := by kernel_rfl
theorem w_contains (xs : List Int) (x : Int) (P : Bool → Prop) : (∃ (y3 : Int), s_index.fn (xs, x, ()) = some y3 ∧ P (decide (y3 ≥ (0 : Int)))) = fnW tab (look [(75, s_index)]) s_containsInt Try.f153 (xs, x, ()) P := by kernel_rfl
theorem w_isPointList (n : Int) (xs : List Int) (P : Bool → Prop) : (∃ (y3 : Bool),
  s_inRange.fn ((↑xs.length : Int), (1 : Int), n, ()) = some y3 ∧
    Br (!y3) (P false)
      (WLoop
        (fun (v4 : Int × PUnit) (k5 : Int × PUnit → Prop) =>
          Br (decide (v4.fst < (↑xs.length : Int)))
            (∃ (y6 : Int),
              idx xs v4.fst = some y6 ∧
                ∃ (y7 : Bool),
                  s_inRange.fn (y6, (0 : Int), IntKind.i64.wrap (n - (1 : Int)), ()) = some y7 ∧
                    Br (!y7) (P false)
                      (Br (decide (v4.fst > (0 : Int)))
                        (∃ (y8 : Int),
                          idx xs v4.fst = some y8 ∧
                            ∃ (y9 : Int), idx xs (IntKind.i64.wrap (v4.fst - (1 : Int))) = some y9 ∧ Br (decide (y8 ≤ y9)) (P false) (k5 (IntKind.i64.wrap (v4.fst + (1 : Int)), ())))
                        (k5 (IntKind.i64.wrap (v4.fst + (1 : Int)), ()))))
            (P true))
        ((0 : Int), PUnit.unit))) = fnW tab (look [(57, s_inRange)]) s_pointList Try.f68 (n, xs, ()) P := by kernel_rfl
theorem w_isTracked (n : Int) (xs : List Int) (P : Bool → Prop) : (WLoop
  (fun (v3 : Int × PUnit) (k4 : Int × PUnit → Prop) =>
    Br (decide (v3.fst < (↑xs.length : Int)))
      (∃ (y5 : Int),
        idx xs v3.fst = some y5 ∧
          ∃ (y6 : Bool),
            s_isPoint.fn (n, y5, ()) = some y6 ∧
              Br (!y6) (P false)
                (Br (decide (v3.fst > (0 : Int)))
                  (∃ (y7 : Int), idx xs (IntKind.i64.wrap (v3.fst - (1 : Int))) = some y7 ∧ Br (decide (y7 ≥ y5)) (P false) (k4 (IntKind.i64.wrap (v3.fst + (1 : Int)), ())))
                  (k4 (IntKind.i64.wrap (v3.fst + (1 : Int)), ()))))
      (P (decide ((↑xs.length : Int) > (0 : Int)))))
  ((0 : Int), PUnit.unit)) = fnW tab (look [(119, s_isPoint)]) s_pointList Try.f74 (n, xs, ()) P := by kernel_rfl
theorem w_isDistinctList (n : Int) (xs : List Int) (m : Int) (P : Bool → Prop) : (Br ((↑xs.length : Int) != m) (P false)
  (WLoop
    (fun (v4 : Int × PUnit) (k5 : Int × PUnit → Prop) =>
      Br (decide (v4.fst < (↑xs.length : Int)))
        (∃ (y6 : Int),
          idx xs v4.fst = some y6 ∧
            ∃ (y7 : Bool),
              s_inRange.fn (y6, (0 : Int), IntKind.i64.wrap (n - (1 : Int)), ()) = some y7 ∧
                Br (!y7) (P false)
                  (((0 : Int) ≤ (0 : Int) ∧ (0 : Int) ≤ v4.fst ∧ v4.fst ≤ (↑xs.length : Int)) ∧
                    ∃ (y8 : Int),
                      idx xs v4.fst = some y8 ∧
                        ∃ (y9 : Bool),
                          s_containsInt.fn (List.drop (Int.toNat (0 : Int)) (List.take v4.fst.toNat xs), y8, ()) = some y9 ∧ Br y9 (P false) (k5 (IntKind.i64.wrap (v4.fst + (1 : Int)), ()))))
        (P true))
    ((0 : Int), PUnit.unit))) = fnW tab (look [(57, s_inRange), (131, s_containsInt)]) s_distinct Try.f117 (n, xs, m, ()) P := by kernel_rfl
theorem w_isPattern (n m : Int) (xs : List Int) (P : Bool → Prop) : (WLoop
  (fun (v4 : Int × PUnit) (k5 : Int × PUnit → Prop) =>
    Br (decide (v4.fst < (↑xs.length : Int)))
      (∃ (y6 : Int),
        idx xs v4.fst = some y6 ∧
          ∃ (y7 : Bool),
            s_isPoint.fn (n, y6, ()) = some y7 ∧
              Br (!y7) (P false)
                (((0 : Int) ≤ (0 : Int) ∧ (0 : Int) ≤ v4.fst ∧ v4.fst ≤ (↑xs.length : Int)) ∧
                  ∃ (y8 : Bool), s_containsInt.fn (List.drop (Int.toNat (0 : Int)) (List.take v4.fst.toNat xs), y6, ()) = some y8 ∧ Br y8 (P false) (k5 (IntKind.i64.wrap (v4.fst + (1 : Int)), ()))))
      (P ((↑xs.length : Int) == m)))
  ((0 : Int), PUnit.unit)) = fnW tab (look [(119, s_isPoint), (153, s_containsInt)]) s_isPattern Try.f118 (n, m, xs, ()) P := by kernel_rfl
theorem w_lenLL (xs : List (List Int)) (P : Int → Prop) : (P (↑xs.length : Int)) = fnW tab (look []) s_lenLL Try.f62 (xs, ()) P := by kernel_rfl
theorem w_specWellFormed (t : List Int × List (List Int) × List Int × Unit) (P : Bool → Prop) : (∃ (y2 : Bool),
  s_pointList.fn ((20 : Int), t.fst, ()) = some y2 ∧
    Br (!y2) (P false)
      (∃ (y3 : Bool),
        s_inRange.fn ((↑t.2.fst.length : Int), (1 : Int), (3000 : Int), ()) = some y3 ∧
          Br (!y3) (P false)
            (Br ((↑t.snd.2.fst.length : Int) != (↑t.2.fst.length : Int)) (P false)
              (WLoop
                (fun (v4 : Int × List Int × List (List Int) × List Int × PUnit) (k5 : Int × List Int × List (List Int) × List Int × PUnit → Prop) =>
                  Br (decide (v4.fst < (↑t.2.fst.length : Int)))
                    (∃ (y6 : List Int),
                      idx v4.snd.2.fst v4.fst = some y6 ∧
                        ∃ (y7 : Bool),
                          s_distinct.fn ((20 : Int), y6, (↑v4.2.fst.length : Int), ()) = some y7 ∧
                            Br (!y7) (P false)
                              (∃ (y8 : Int),
                                idx v4.2.snd.2.fst v4.fst = some y8 ∧
                                  ∃ (y9 : Bool),
                                    s_inRange.fn (y8, (0 : Int), (3000 : Int), ()) = some y9 ∧
                                      Br (!y9) (P false) (k5 (IntKind.i64.wrap (v4.fst + (1 : Int)), v4.2.fst, v4.snd.2.fst, v4.2.snd.2.fst, ()))))
                    (P true))
                ((0 : Int), t.fst, t.2.fst, t.snd.2.fst, PUnit.unit))))) = fnW tab (look [(68, s_pointList), (57, s_inRange), (117, s_distinct)]) s_wellFormed Try.f67 (t, ()) P := by kernel_rfl
theorem w_implWellFormed (t : List Int × List (List Int) × List Int × Unit) (P : Bool → Prop) : (∃ (y2 : Bool),
  s_pointList.fn ((20 : Int), t.fst, ()) = some y2 ∧
    Br (!y2) (P false)
      (Br ((↑t.2.fst.length : Int) != (↑t.snd.2.fst.length : Int)) (P false)
        (∃ (y3 : Int),
          s_lenLL.fn (t.2.fst, ()) = some y3 ∧
            ∃ (y4 : Bool),
              s_inRange.fn (y3, (1 : Int), (3000 : Int), ()) = some y4 ∧
                Br (!y4) (P false)
                  (WLoop
                    (fun (v5 : Int × List Int × List (List Int) × List Int × PUnit) (k6 : Int × List Int × List (List Int) × List Int × PUnit → Prop) =>
                      Br (decide (v5.fst < (↑t.2.fst.length : Int)))
                        (∃ (y7 : List Int),
                          idx t.2.fst v5.fst = some y7 ∧
                            ∃ (y8 : Bool),
                              s_isPattern.fn ((20 : Int), (↑v5.2.fst.length : Int), y7, ()) = some y8 ∧
                                Br (!y8) (P false)
                                  (∃ (y9 : Int),
                                    idx v5.2.snd.2.fst v5.fst = some y9 ∧
                                      ∃ (y10 : Bool),
                                        s_inRange.fn (y9, (0 : Int), (3000 : Int), ()) = some y10 ∧
                                          Br (!y10) (P false) (k6 (IntKind.i64.wrap (v5.fst + (1 : Int)), v5.2.fst, v5.snd.2.fst, v5.2.snd.2.fst, ()))))
                        (P true))
                    ((0 : Int), t.fst, t.2.fst, t.snd.2.fst, PUnit.unit))))) = fnW tab (look [(74, s_pointList), (61, s_inRange), (118, s_isPattern), (62, s_lenLL)]) s_wellFormed Try.f73 (t, ()) P := by kernel_rfl
theorem m_index_neg : ∀ (xs : List Int) (x i : Int), 0 ≤ i → (m_index xs x i < 0 ↔ x ∉ xs)
  | [], x, i, _ => by simp [m_index]
  | y :: r, x, i, h => by
    simp only [m_index]
    split
    · rename_i hy; subst hy; simp; omega
    · rename_i hy
      rw [m_index_neg r x (i + 1) (by omega)]
      simp only [List.mem_cons, not_or]
      exact ⟨fun h => ⟨fun e => hy e.symm, h⟩, fun h => h.2⟩
theorem p_index (xs : List Int) (x : Int) (h : short xs) : fnW tab (look []) s_index Try.f75 (xs, x, ()) (fun (z : Int) => z = m_index xs x 0) := by
  unfold short at h
  refine Eq.mp (w_index xs x _) ?_
  refine loop_range xs.length (fun v => v.1) (fun j _ => m_index (xs.drop j) x j = m_index xs x 0) rfl (by simp) ?_
  rintro j ⟨i, ⟨⟩⟩ K hj hi hR hK
  dsimp only at hi ⊢
  subst hi
  refine Br.dec (fun hl => ?_) fun hl => ?_
  · have hl : j < xs.length := by omega
    rw [List.drop_eq_getElem_cons hl] at hR
    simp only [m_index] at hR
    refine ⟨_, idx_nat hl, ⟨fun he => ?_, fun he => ?_⟩⟩
    · simp only [beq_iff_eq] at he
      rw [if_pos he.symm] at hR
      exact hR
    · simp only [beq_eq_false_iff_ne, ne_eq] at he
      rw [if_neg (fun e => he e.symm)] at hR
      rw [wrap_nat (by omega)]
      exact hK hl _ rfl (by push_cast; exact hR)
  · have : j = xs.length := by omega
    subst this
    rw [List.drop_length] at hR
    exact hR
theorem sound_index : Sound Try.prog 75 s_index :=
  Sound.mkS tabOK envNil mixed Try.func75 (by kernel_rfl) (by kernel_rfl) fun x h => p_index x.1 x.2.1 h
theorem p_contains (xs : List Int) (x : Int) (h : short xs) : fnW tab (look [(75, s_index)]) s_containsInt Try.f153 (xs, x, ()) (fun (z : Bool) => z = m_containsInt xs x) := by
  refine Eq.mp (w_contains xs x _) ⟨_, if_pos h, ?_⟩
  have := m_index_neg xs x 0 (Int.le_refl 0)
  show decide (m_index xs x 0 ≥ 0) = decide (x ∈ xs)
  by_cases hx : x ∈ xs
  · rw [decide_eq_true hx]
    exact decide_eq_true (by have := mt this.1 (fun h => h hx); omega)
  · rw [decide_eq_false hx]
    exact decide_eq_false (by have := this.2 hx; omega)
theorem sound_contains : Sound Try.prog 153 s_containsInt :=
  Sound.mkS tabOK (envCons sound_index envNil) mixed Try.func153 (by kernel_rfl) (by kernel_rfl) fun x h => p_contains x.1 x.2.1 h
theorem p_lenLL (xs : List (List Int)) (_ : True) : fnW tab (look []) s_lenLL Try.f62 (xs, ()) (fun (z : Int) => z = (xs.length : Int)) := Eq.mp (w_lenLL xs _) rfl
theorem sound_lenLL : Sound Try.prog 62 s_lenLL :=
  Sound.mkS tabOK envNil mixed Try.func62 (by kernel_rfl) (by kernel_rfl) fun x h => p_lenLL x.1 h
theorem m_point_iff {n x : Int} (hn : nOK n) : m_isPoint n x = true ↔ 0 ≤ x ∧ x ≤ n - 1 := by
  unfold m_isPoint nOK at *
  rw [wrap_id (by omega) (by omega), decide_eq_true_iff]
theorem m_range_iff {x a b : Int} : m_inRange x a b = true ↔ a ≤ x ∧ x ≤ b := decide_eq_true_iff
theorem bnot_true {b : Bool} (h : (!b) = true) : ¬ b = true := by cases b <;> simp_all
theorem bnot_false {b : Bool} (h : (!b) = false) : b = true := by cases b <;> simp_all
theorem pl_len {n : Int} {xs : List Int} (h : PL n xs xs.length) : ∀ j (hj : j < xs.length), (j : Int) ≤ xs[j]
  | 0, hj => (h 0 hj hj).1
  | j + 1, hj => by
    have h1 := pl_len h j (by omega)
    have h2 := (h (j + 1) hj hj).2.2 (by omega)
    simp only [Nat.add_sub_cancel] at h2
    omega
theorem pl_step {n : Int} {xs : List Int} {j : Nat} (hl : j < xs.length) (h : PL n xs j) (h1 : 0 ≤ xs[j]) (h2 : xs[j] ≤ n - 1) (h3 : 0 < j → xs[j - 1] < xs[j]) : PL n xs (j + 1) := by
  intro i hi hij
  by_cases e : i = j
  · subst e; exact ⟨h1, h2, h3⟩
  · exact h i hi (by omega)
theorem p_isTracked (n : Int) (xs : List Int) (h : nOK n ∧ short xs) : fnW tab (look [(119, s_isPoint)]) s_pointList Try.f74 (n, xs, ()) (fun (z : Bool) => z = m_pointList n xs) := by
  obtain ⟨hn, h⟩ := h
  unfold short at h
  refine Eq.mp (w_isTracked n xs _) ?_
  refine loop_range xs.length (fun v => v.1) (fun j _ => PL n xs j) rfl (fun j _ hj => absurd hj (Nat.not_lt_zero _)) ?_
  rintro j ⟨i, ⟨⟩⟩ K hj hi hR hK
  dsimp only at hi ⊢
  subst hi
  refine Br.dec (fun hl => ?_) fun hl => ?_
  · have hl : j < xs.length := by omega
    refine ⟨_, idx_nat hl, _, if_pos trivial, ⟨fun hp => ?_, fun hp => ?_⟩⟩
    · have hp := bnot_true hp
      rw [m_point_iff hn] at hp
      exact dec_false fun hh => hp ⟨(hh.2 j hl hl).1, (hh.2 j hl hl).2.1⟩
    · have hp := bnot_false hp
      rw [m_point_iff hn] at hp
      refine Br.dec (fun h0 => ?_) fun h0 => ?_
      · have h0 : 0 < j := by omega
        rw [wrap_id (by omega) (by omega), show (j : Int) - 1 = ((j - 1 : Nat) : Int) by omega]
        refine ⟨_, idx_nat (by omega), Br.dec (fun hg => ?_) fun hg => ?_⟩
        · exact dec_false fun hh => by have := (hh.2 j hl hl).2.2 h0; omega
        · rw [wrap_nat (by omega)]
          exact hK hl _ rfl (pl_step hl hR hp.1 hp.2 fun _ => by omega)
      · have h0 : j = 0 := by omega
        rw [wrap_nat (by omega)]
        exact hK hl _ rfl (pl_step hl hR hp.1 hp.2 fun h => by omega)
  · have : j = xs.length := by omega
    subst this
    by_cases h0 : 0 < xs.length
    · rw [decide_eq_true (show (xs.length : Int) > 0 by omega)]; exact dec_true ⟨h0, hR⟩
    · rw [decide_eq_false (show ¬ (xs.length : Int) > 0 by omega)]; exact dec_false fun hh => h0 hh.1
theorem sound_isTracked : Sound Try.prog 74 s_pointList :=
  Sound.mkS tabOK (envCons sound_isPoint envNil) mixed Try.func74 (by kernel_rfl) (by kernel_rfl) fun x h => p_isTracked x.1 x.2.1 h
theorem p_isPointList (n : Int) (xs : List Int) (h : nOK n ∧ short xs) : fnW tab (look [(57, s_inRange)]) s_pointList Try.f68 (n, xs, ()) (fun (z : Bool) => z = m_pointList n xs) := by
  obtain ⟨hn, h⟩ := h
  unfold short at h
  refine Eq.mp (w_isPointList n xs _) ⟨_, if_pos trivial, ⟨fun hp => ?_, fun hp => ?_⟩⟩
  · have hp := bnot_true hp
    rw [m_range_iff] at hp
    dsimp only at hp
    refine dec_false fun hh => hp ⟨by omega, ?_⟩
    have := pl_len hh.2 (xs.length - 1) (by omega)
    have := (hh.2 (xs.length - 1) (by omega) (by omega)).2.1
    omega
  · have hp := bnot_false hp
    rw [m_range_iff] at hp
    dsimp only at hp
    refine loop_range xs.length (fun v => v.1) (fun j _ => PL n xs j) rfl (fun j _ hj => absurd hj (Nat.not_lt_zero _)) ?_
    rintro j ⟨i, ⟨⟩⟩ K hj hi hR hK
    dsimp only at hi ⊢
    subst hi
    refine Br.dec (fun hl => ?_) fun hl => ?_
    · have hl : j < xs.length := by omega
      refine ⟨_, idx_nat hl, _, if_pos trivial, ⟨fun hq => ?_, fun hq => ?_⟩⟩
      · have hq := bnot_true hq
        unfold nOK at hn
        rw [m_range_iff, wrap_id (by omega) (by omega)] at hq
        exact dec_false fun hh => hq ⟨(hh.2 j hl hl).1, (hh.2 j hl hl).2.1⟩
      · have hq := bnot_false hq
        unfold nOK at hn
        rw [m_range_iff, wrap_id (by omega) (by omega)] at hq
        refine Br.dec (fun h0 => ?_) fun h0 => ?_
        · have h0 : 0 < j := by omega
          rw [wrap_id (by omega) (by omega), show (j : Int) - 1 = ((j - 1 : Nat) : Int) by omega]
          refine ⟨_, idx_nat hl, _, idx_nat (by omega), Br.dec (fun hg => ?_) fun hg => ?_⟩
          · exact dec_false fun hh => by have := (hh.2 j hl hl).2.2 h0; omega
          · rw [wrap_nat (by omega)]
            exact hK hl _ rfl (pl_step hl hR hq.1 hq.2 fun _ => by omega)
        · rw [wrap_nat (by omega)]
          exact hK hl _ rfl (pl_step hl hR hq.1 hq.2 fun h => by omega)
    · have : j = xs.length := by omega
      subst this
      exact dec_true ⟨by omega, hR⟩
theorem sound_isPointList : Sound Try.prog 68 s_pointList :=
  Sound.mkS tabOK (envCons sound_inRange envNil) mixed Try.func68 (by kernel_rfl) (by kernel_rfl) fun x h => p_isPointList x.1 x.2.1 h
theorem dl_step {n : Int} {xs : List Int} {j : Nat} (hl : j < xs.length) (h : DL n xs j) (h1 : 0 ≤ xs[j]) (h2 : xs[j] ≤ n - 1) (h3 : xs[j] ∉ xs.take j) : DL n xs (j + 1) := by
  intro i hi hij
  by_cases e : i = j
  · subst e; exact ⟨h1, h2, h3⟩
  · exact h i hi (by omega)
theorem short_take {xs : List Int} (h : short xs) (j : Nat) : short (xs.take j) := by
  unfold short at *
  rw [List.length_take]
  omega
theorem p_isDistinctList (n : Int) (xs : List Int) (m : Int) (h : nOK n ∧ short xs) : fnW tab (look [(57, s_inRange), (131, s_containsInt)]) s_distinct Try.f117 (n, xs, m, ()) (fun (z : Bool) => z = m_distinct n xs m) := by
  obtain ⟨hn, hs⟩ := h
  have h := hs
  unfold short at h
  refine Eq.mp (w_isDistinctList n xs m _) ⟨fun hp => ?_, fun hp => ?_⟩
  · simp only [bne_iff_ne, ne_eq] at hp
    exact dec_false fun hh => hp hh.1
  · simp only [bne_eq_false_iff_eq] at hp
    refine loop_range xs.length (fun v => v.1) (fun j _ => DL n xs j) rfl (fun j _ hj => absurd hj (Nat.not_lt_zero _)) ?_
    rintro j ⟨i, ⟨⟩⟩ K hj hi hR hK
    dsimp only at hi ⊢
    subst hi
    refine Br.dec (fun hl => ?_) fun hl => ?_
    · have hl : j < xs.length := by omega
      refine ⟨_, idx_nat hl, _, if_pos trivial, ⟨fun hq => ?_, fun hq => ?_⟩⟩
      · have hq := bnot_true hq
        unfold nOK at hn
        rw [m_range_iff, wrap_id (by omega) (by omega)] at hq
        exact dec_false fun hh => hq ⟨(hh.2 j hl hl).1, (hh.2 j hl hl).2.1⟩
      · have hq := bnot_false hq
        unfold nOK at hn
        rw [m_range_iff, wrap_id (by omega) (by omega)] at hq
        refine ⟨⟨by omega, by omega, by omega⟩, _, idx_nat hl, ?_⟩
        rw [show (Int.toNat 0) = 0 from rfl, List.drop_zero, Int.toNat_natCast]
        refine ⟨_, if_pos (short_take hs j), ⟨fun hc => ?_, fun hc => ?_⟩⟩
        · have hc : decide (xs[j] ∈ xs.take j) = true := hc
          rw [decide_eq_true_iff] at hc
          exact dec_false fun hh => (hh.2 j hl hl).2.2 hc
        · have hc : decide (xs[j] ∈ xs.take j) = false := hc
          rw [decide_eq_false_iff_not] at hc
          rw [wrap_nat (by omega)]
          exact hK hl _ rfl (dl_step hl hR hq.1 hq.2 hc)
    · have : j = xs.length := by omega
      subst this
      exact dec_true ⟨hp, hR⟩
theorem sound_isDistinctList : Sound Try.prog 117 s_distinct :=
  Sound.mkS tabOK (envCons sound_inRange (envCons sound_containsInt envNil)) mixed Try.func117 (by kernel_rfl) (by kernel_rfl) fun x h => p_isDistinctList x.1 x.2.1 x.2.2.1 h
theorem p_isPattern (n m : Int) (xs : List Int) (h : nOK n ∧ short xs) : fnW tab (look [(119, s_isPoint), (153, s_containsInt)]) s_isPattern Try.f118 (n, m, xs, ()) (fun (z : Bool) => z = m_distinct n xs m) := by
  obtain ⟨hn, hs⟩ := h
  have h := hs
  unfold short at h
  refine Eq.mp (w_isPattern n m xs _) ?_
  refine loop_range xs.length (fun v => v.1) (fun j _ => DL n xs j) rfl (fun j _ hj => absurd hj (Nat.not_lt_zero _)) ?_
  rintro j ⟨i, ⟨⟩⟩ K hj hi hR hK
  dsimp only at hi ⊢
  subst hi
  refine Br.dec (fun hl => ?_) fun hl => ?_
  · have hl : j < xs.length := by omega
    refine ⟨_, idx_nat hl, _, if_pos trivial, ⟨fun hq => ?_, fun hq => ?_⟩⟩
    · have hq := bnot_true hq
      rw [m_point_iff hn] at hq
      exact dec_false fun hh => hq ⟨(hh.2 j hl hl).1, (hh.2 j hl hl).2.1⟩
    · have hq := bnot_false hq
      rw [m_point_iff hn] at hq
      refine ⟨⟨by omega, by omega, by omega⟩, ?_⟩
      rw [show (Int.toNat 0) = 0 from rfl, List.drop_zero, Int.toNat_natCast]
      refine ⟨_, if_pos (short_take hs j), ⟨fun hc => ?_, fun hc => ?_⟩⟩
      · have hc : decide (xs[j] ∈ xs.take j) = true := hc
        rw [decide_eq_true_iff] at hc
        exact dec_false fun hh => (hh.2 j hl hl).2.2 hc
      · have hc : decide (xs[j] ∈ xs.take j) = false := hc
        rw [decide_eq_false_iff_not] at hc
        rw [wrap_nat (by omega)]
        exact hK hl _ rfl (dl_step hl hR hq.1 hq.2 hc)
  · have : j = xs.length := by omega
    subst this
    by_cases he : (xs.length : Int) = m
    · rw [beq_iff_eq.2 he]; exact dec_true ⟨he, hR⟩
    · rw [beq_eq_false_iff_ne.2 he]; exact dec_false fun hh => he hh.1
theorem sound_isPattern : Sound Try.prog 118 s_isPattern :=
  Sound.mkS tabOK (envCons sound_isPoint (envCons sound_contains envNil)) mixed Try.func118 (by kernel_rfl) (by kernel_rfl) fun x h => p_isPattern x.1 x.2.1 x.2.2.1 h
theorem nOK20 : nOK 20 := ⟨by omega, by omega⟩
/-- What a table's check has seen so far. -/
def WFk (t : TT) (k : Nat) : Prop := ∀ j (h1 : j < t.2.1.length) (h2 : j < t.2.2.1.length), j < k → m_distinct 20 t.2.1[j] t.1.length = true ∧ 0 ≤ t.2.2.1[j] ∧ t.2.2.1[j] ≤ 3000
theorem wf_step {t : TT} {j : Nat} (hl1 : j < t.2.1.length) (hl2 : j < t.2.2.1.length) (h : WFk t j) (h1 : m_distinct 20 t.2.1[j] t.1.length = true) (h2 : 0 ≤ t.2.2.1[j] ∧ t.2.2.1[j] ≤ 3000) : WFk t (j + 1) := by
  intro i hi hi2 hij
  by_cases e : i = j
  · subst e; exact ⟨h1, h2⟩
  · exact h i hi hi2 (by omega)
theorem p_specWellFormed (t : TT) (h : shortT t) : fnW tab (look [(68, s_pointList), (57, s_inRange), (117, s_distinct)]) s_wellFormed Try.f67 (t, ()) (fun (z : Bool) => z = m_wellFormed t) := by
  obtain ⟨hs1, ⟨hs2, hs2'⟩, hs3⟩ := h
  refine Eq.mp (w_specWellFormed t _) ⟨_, if_pos ⟨nOK20, hs1⟩, ⟨fun hp => ?_, fun hp => ?_⟩⟩
  · exact dec_false fun hh => bnot_true hp hh.1
  · have hp := bnot_false hp
    refine ⟨_, if_pos trivial, ⟨fun hq => ?_, fun hq => ?_⟩⟩
    · have hq := bnot_true hq
      rw [m_range_iff] at hq
      dsimp only at hq
      exact dec_false fun hh => hq ⟨by have := hh.2.1.1; omega, by have := hh.2.1.2; omega⟩
    · have hq := bnot_false hq
      rw [m_range_iff] at hq
      dsimp only at hq
      refine ⟨fun hl => ?_, fun hl => ?_⟩
      · simp only [bne_iff_ne, ne_eq, Int.natCast_inj] at hl
        exact dec_false fun hh => hl hh.2.2.1
      · simp only [bne_eq_false_iff_eq, Int.natCast_inj] at hl
        refine loop_range t.2.1.length (fun v => v.1) (fun j v => v.2 = (t.1, t.2.1, t.2.2.1, ()) ∧ WFk t j) rfl ⟨rfl, fun j _ _ hj => absurd hj (Nat.not_lt_zero _)⟩ ?_
        rintro j ⟨i, v⟩ K hj hi ⟨hv, hR⟩ hK
        dsimp only at hi hv ⊢
        subst hi
        subst hv
        dsimp only
        refine Br.dec (fun hlt => ?_) fun hlt => ?_
        · have hl1 : j < t.2.1.length := by omega
          have hl2 : j < t.2.2.1.length := by omega
          refine ⟨_, idx_nat hl1, _, if_pos ⟨nOK20, hs2' _ (List.getElem_mem hl1)⟩, ⟨fun h1 => ?_, fun h1 => ?_⟩⟩
          · exact dec_false fun hh => bnot_true h1 (hh.2.2.2 j hl1 hl2).1
          · have h1 := bnot_false h1
            refine ⟨_, idx_nat hl2, _, if_pos trivial, ⟨fun h2 => ?_, fun h2 => ?_⟩⟩
            · have h2 := bnot_true h2
              rw [m_range_iff] at h2
              exact dec_false fun hh => h2 (hh.2.2.2 j hl1 hl2).2
            · have h2 := bnot_false h2
              rw [m_range_iff] at h2
              rw [wrap_nat (by omega)]
              exact hK hl1 _ rfl ⟨rfl, wf_step hl1 hl2 hR h1 h2⟩
        · have : j = t.2.1.length := by omega
          subst this
          exact dec_true ⟨hp, ⟨by omega, by omega⟩, hl, fun j h1 h2 => hR j h1 h2 h1⟩
theorem sound_specWellFormed : Sound Try.prog 67 s_wellFormed :=
  Sound.mkS tabOK (envCons sound_isPointList (envCons sound_inRange (envCons sound_isDistinctList envNil))) mixed Try.func67 (by kernel_rfl) (by kernel_rfl) fun x h => p_specWellFormed x.1 h
theorem p_implWellFormed (t : TT) (h : shortT t) : fnW tab (look [(74, s_pointList), (61, s_inRange), (118, s_isPattern), (62, s_lenLL)]) s_wellFormed Try.f73 (t, ()) (fun (z : Bool) => z = m_wellFormed t) := by
  obtain ⟨hs1, ⟨hs2, hs2'⟩, hs3⟩ := h
  refine Eq.mp (w_implWellFormed t _) ⟨_, if_pos ⟨nOK20, hs1⟩, ⟨fun hp => ?_, fun hp => ?_⟩⟩
  · exact dec_false fun hh => bnot_true hp hh.1
  · have hp := bnot_false hp
    refine ⟨fun hl => ?_, fun hl => ?_⟩
    · simp only [bne_iff_ne, ne_eq, Int.natCast_inj] at hl
      exact dec_false fun hh => hl hh.2.2.1.symm
    · simp only [bne_eq_false_iff_eq, Int.natCast_inj] at hl
      refine ⟨_, if_pos trivial, _, if_pos trivial, ⟨fun hq => ?_, fun hq => ?_⟩⟩
      · have hq := bnot_true hq
        rw [m_range_iff] at hq
        dsimp only at hq
        exact dec_false fun hh => hq ⟨by have := hh.2.1.1; omega, by have := hh.2.1.2; omega⟩
      · have hq := bnot_false hq
        rw [m_range_iff] at hq
        dsimp only at hq
        refine loop_range t.2.1.length (fun v => v.1) (fun j v => v.2 = (t.1, t.2.1, t.2.2.1, ()) ∧ WFk t j) rfl ⟨rfl, fun j _ _ hj => absurd hj (Nat.not_lt_zero _)⟩ ?_
        rintro j ⟨i, v⟩ K hj hi ⟨hv, hR⟩ hK
        dsimp only at hi hv ⊢
        subst hi
        subst hv
        dsimp only
        refine Br.dec (fun hlt => ?_) fun hlt => ?_
        · have hl1 : j < t.2.1.length := by omega
          have hl2 : j < t.2.2.1.length := by omega
          refine ⟨_, idx_nat hl1, _, if_pos ⟨nOK20, hs2' _ (List.getElem_mem hl1)⟩, ⟨fun h1 => ?_, fun h1 => ?_⟩⟩
          · exact dec_false fun hh => bnot_true h1 (hh.2.2.2 j hl1 hl2).1
          · have h1 := bnot_false h1
            refine ⟨_, idx_nat hl2, _, if_pos trivial, ⟨fun h2 => ?_, fun h2 => ?_⟩⟩
            · have h2 := bnot_true h2
              rw [m_range_iff] at h2
              exact dec_false fun hh => h2 (hh.2.2.2 j hl1 hl2).2
            · have h2 := bnot_false h2
              rw [m_range_iff] at h2
              rw [wrap_nat (by omega)]
              exact hK hl1 _ rfl ⟨rfl, wf_step hl1 hl2 hR h1 h2⟩
        · have : j = t.2.1.length := by omega
          subst this
          exact dec_true ⟨hp, ⟨by omega, by omega⟩, hl.symm, fun j h1 h2 => hR j h1 h2 h1⟩
theorem sound_implWellFormed : Sound Try.prog 73 s_wellFormed :=
  Sound.mkS tabOK (envCons sound_isTracked (envCons sound_within (envCons sound_isPattern (envCons sound_lenLL envNil)))) mixed Try.func73 (by kernel_rfl) (by kernel_rfl) fun x h => p_implWellFormed x.1 h
theorem m_eqT_self (t : TT) : m_eqT t t = true := by simp [m_eqT]
end Go.Proofs.Ytfghmbpogmcboaa

namespace Go.Proofs.Ytfghmbpogmcboaa
open Go.RowKit

theorem m_szTable_room {t : TT} {room : Int} (h : roomy room) (h2 : ¬ m_szTable t room < 0) : roomy (m_szTable t room) := by
  have hm : ¬ ((-1 : Int) < 0) → False := fun h => h (by decide)
  unfold m_szTable at h2 ⊢
  split
  · rename_i h3; rw [if_pos h3] at h2; exact (hm h2).elim
  · rename_i h3; rw [if_neg h3] at h2
    split
    · rename_i h4; rw [if_pos h4] at h2; exact (hm h2).elim
    · rename_i h4; rw [if_neg h4] at h2
      split
      · rename_i h5; rw [if_pos h5] at h2; exact (hm h2).elim
      · rename_i h5
        exact m_sz_room (m_szLL_room (m_sz_room h h3) h4) h5
theorem roomy_1m : roomy 1048576 := ⟨by decide, by decide⟩
end Go.Proofs.Ytfghmbpogmcboaa

namespace Go.Proofs.Ytfghmbpogmcboaa
open Go.RowKit

def m_indexF {α : Type} (P : α → Bool) : List α → Int → Int
  | [], _ => -1
  | y :: r, i => if P y = true then i else m_indexF P r (i + 1)
noncomputable abbrev s_tabEntry : Spec := mkS (.pair tTable (.pair tL .unit)) tI false true (fun x => shortT x.1 ∧ short x.2.1) (fun x => m_indexF (fun p => decide (p = x.2.1)) x.1.2.1 0)
noncomputable abbrev s_lawTL : Spec := mkS (.pair tTable (.pair tL .unit)) .bool false true (fun x => shortT x.1 ∧ short x.2.1) (fun _ => true)
theorem w_tabEntry (t : List Int × List (List Int) × List Int × Unit) (xs : List Int) (P : Int → Prop) : (WLoop
  (fun (v3 : Int × List Int × List (List Int) × List Int × PUnit) (k4 : Int × List Int × List (List Int) × List Int × PUnit → Prop) =>
    Br (decide (v3.fst < (↑v3.snd.2.fst.length : Int)))
      (∃ (y5 : List Int),
        idx v3.snd.2.fst v3.fst = some y5 ∧
          ∃ (y6 : Bool), s_equalInts.fn (y5, xs, ()) = some y6 ∧ Br y6 (P v3.fst) (k4 (IntKind.i64.wrap (v3.fst + (1 : Int)), v3.2.fst, v3.snd.2.fst, v3.2.snd.2.fst, ())))
      (P (-1 : Int)))
  ((0 : Int), t.fst, t.2.fst, t.snd.2.fst, PUnit.unit)) = fnW tab (look [(90, s_equalInts)]) s_tabEntry Try.f72 (t, xs, ()) P := by kernel_rfl
def upto (n : Nat) : List Int := (List.range n).map Int.ofNat
def mask (xs : List Int) : Nat := xs.foldl (fun m x => m ||| 2 ^ x.toNat) 0
theorem m_indexF_lt {α : Type} (P : α → Bool) : ∀ (l : List α) (i : Int), 0 ≤ i → m_indexF P l i < i + l.length
  | [], i, _ => by simp only [m_indexF, List.length_nil]; omega
  | y :: r, i, h => by
    simp only [m_indexF, List.length_cons]
    split
    · omega
    · have := m_indexF_lt P r (i + 1) (by omega); omega
theorem p_tabEntry (t : TT) (xs : List Int) (h : shortT t ∧ short xs) : fnW tab (look [(90, s_equalInts)]) s_tabEntry Try.f72 (t, xs, ()) (fun (z : Int) => z = m_indexF (fun p => decide (p = xs)) t.2.1 0) := by
  obtain ⟨⟨_, ⟨h, h4⟩, _⟩, _⟩ := h
  refine Eq.mp (w_tabEntry t xs _) ?_
  refine loop_range t.2.1.length (fun v => v.1) (fun j v => v.2 = (t.1, t.2.1, t.2.2.1, ()) ∧ m_indexF (fun p => decide (p = xs)) (t.2.1.drop j) j = m_indexF (fun p => decide (p = xs)) t.2.1 0) rfl ⟨rfl, by simp⟩ ?_
  rintro j ⟨i, v⟩ K hj hi ⟨hv, hR⟩ hK
  dsimp only at hi hv ⊢
  subst hi hv
  dsimp only
  refine Br.dec (fun hl => ?_) fun hl => ?_
  · have hl : j < t.2.1.length := by omega
    rw [List.drop_eq_getElem_cons hl] at hR
    simp only [m_indexF] at hR
    refine ⟨_, idx_nat hl, _, if_pos (h4 _ (List.getElem_mem hl)), ⟨fun he => ?_, fun he => ?_⟩⟩
    · have he : decide (t.2.1[j] = xs) = true := he
      rw [if_pos he] at hR
      exact hR
    · have he : decide (t.2.1[j] = xs) = false := he
      rw [if_neg (by rw [he]; decide)] at hR
      rw [wrap_nat (by omega)]
      exact hK hl _ rfl ⟨rfl, by push_cast; exact hR⟩
  · have : j = t.2.1.length := by omega
    subst this
    rw [List.drop_length] at hR
    exact hR
theorem sound_tabEntry : Sound Try.prog 72 s_tabEntry :=
  Sound.mkS tabOK (envCons sound_equalInts envNil) mixed Try.func72 (by kernel_rfl) (by kernel_rfl) fun x h => p_tabEntry x.1 x.2.1 h
end Go.Proofs.Ytfghmbpogmcboaa

namespace Go.Proofs.Ytfghmbpogmcboaa
open Go.RowKit

theorem beq_dec {a b : Int} {P : Prop} (h : P ↔ a = b) : (a == b) = dec P := by
  by_cases e : a = b
  · rw [beq_iff_eq.2 e]; exact dec_true (h.2 e)
  · rw [beq_eq_false_iff_ne.2 e]; exact dec_false fun hp => e (h.1 hp)
end Go.Proofs.Ytfghmbpogmcboaa

namespace Go.Proofs.Ytfghmbpogmcboaa
open Go.RowKit

def gets (xs : List Int) (i : Int) : Int := xs.getD i.toNat 0
def inRow (n : Nat) (p : List Int) : Prop := ∀ y ∈ p, 0 ≤ y ∧ y < n
theorem gets_nat {xs : List Int} {i : Nat} (h : i < xs.length) : gets xs (i : Int) = xs[i] := by
  unfold gets
  rw [Int.toNat_natCast, List.getD_eq_getElem?_getD, List.getElem?_eq_getElem h]; rfl
theorem idx_gets {xs : List Int} {y : Int} (h0 : 0 ≤ y) (h : y < xs.length) : idx xs y = some (gets xs y) := by
  have hy : y.toNat < xs.length := by omega
  have e : y = (y.toNat : Int) := by omega
  rw [e, idx_nat hy, gets_nat hy]
structure PermOK (p : List Int) : Prop where
  pos : 1 ≤ p.length
  len : p.length ≤ 20
  row : inRow p.length p
  nodup : p.Nodup
theorem PermOK.inj {p : List Int} (h : PermOK p) (i j : Nat) (hi : i < p.length) (hj : j < p.length) (e : (gets p (i : Int)).toNat = (gets p (j : Int)).toNat) : i = j := by
  rw [gets_nat hi, gets_nat hj] at e
  have h1 := h.row _ (List.getElem_mem hi)
  have h2 := h.row _ (List.getElem_mem hj)
  have e : p[i] = p[j] := by omega
  refine Classical.byContradiction fun hne => ?_
  rcases Nat.lt_or_gt_of_ne hne with hl | hl
  · exact List.pairwise_iff_getElem.1 h.nodup i j hi hj hl e
  · exact List.pairwise_iff_getElem.1 h.nodup j i hj hi hl e.symm
theorem PermOK.lt {p : List Int} (h : PermOK p) {i : Nat} (hi : i < p.length) : (gets p (i : Int)).toNat < p.length := by
  rw [gets_nat hi]
  have := h.row _ (List.getElem_mem hi)
  omega
end Go.Proofs.Ytfghmbpogmcboaa

namespace Go.Proofs.Ytfghmbpogmcboaa
open Go.RowKit

abbrev rL : CK := .row tI 2
abbrev xLL : CK := .xrow tL 26
/-- The marks from k on. -/
def m_marks (k : Int) (n : Nat) : List Int := (List.range n).map fun i => k + (i : Nat)
def m_marksLL : Int → List (List Int) → List (List Int)
  | _, [] => []
  | k, r :: rs => m_marks k r.length :: m_marksLL (k + r.length) rs
def m_total : List (List Int) → Nat
  | [] => 0
  | r :: rs => r.length + m_total rs
def low (k : Int) : Prop := 0 ≤ k ∧ k ≤ 1099511627776
noncomputable abbrev s_markL : MSpec := mkM [none, none] [(true, rL), (false, .dat tI)] false [none] [.dat tI] (fun x => short x.1 ∧ low x.2.1) (fun x => ((x.2.1 + List.length x.1, ()), (m_marks x.2.1 (List.length x.1), ())))
noncomputable abbrev s_markLL : MSpec := mkM [none, none] [(true, xLL), (false, .dat tI)] false [none] [.dat tI] (fun x => shortLL x.1 ∧ low x.2.1 ∧ low (x.2.1 + m_total x.1)) (fun x => ((x.2.1 + m_total x.1, ()), (m_marksLL x.2.1 x.1, ())))
noncomputable abbrev s_markTable : MSpec := mkM [some 3, none] [(true, rL), (true, xLL), (true, rL), (false, .dat tI)] false [none] [.dat tI]
  (fun x => shortT (x.1, x.2.1, x.2.2.1, ()) ∧ low x.2.2.2.1 ∧ low (x.2.2.2.1 + (List.length x.1 + m_total x.2.1 + List.length x.2.2.1 : Nat))) (fun x => ((x.2.2.2.1 + (List.length x.1 + m_total x.2.1 + List.length x.2.2.1 : Nat), ()), (m_marks x.2.2.2.1 (List.length x.1), m_marksLL (x.2.2.2.1 + List.length x.1) x.2.1, m_marks (x.2.2.2.1 + List.length x.1 + m_total x.2.1) (List.length x.2.2.1), ())))
def m_heldL (xs : List Int) (k : Int) : Int := if xs = m_marks k xs.length then k + xs.length else -1
noncomputable abbrev s_heldL : Spec := mkS (.pair tL (.pair tI .unit)) tI false true (fun x => short x.1 ∧ low x.2.1) (fun x => m_heldL x.1 x.2.1)
def m_heldLL : List (List Int) → Int → Int
  | [], k => k
  | r :: rs, k => if m_heldL r k < 0 then -1 else m_heldLL rs (m_heldL r k)
noncomputable abbrev s_heldLL : Spec := mkS (.pair tLL (.pair tI .unit)) tI false true (fun x => shortLL x.1 ∧ low x.2.1 ∧ low (x.2.1 + m_total x.1)) (fun x => m_heldLL x.1 x.2.1)
def m_heldTable (t : TT) (k : Int) : Int :=
  if m_heldL t.1 k < 0 then -1 else if m_heldLL t.2.1 (m_heldL t.1 k) < 0 then -1 else
  if m_heldL t.2.2.1 (m_heldLL t.2.1 (m_heldL t.1 k)) < 0 then -1 else m_heldL t.2.2.1 (m_heldLL t.2.1 (m_heldL t.1 k))
noncomputable abbrev s_heldTable : Spec := mkS (.pair tTable (.pair tI .unit)) tI false true (fun x => shortT x.1 ∧ low x.2.1 ∧ low (x.2.1 + (List.length x.1.1 + m_total x.1.2.1 + List.length x.1.2.2.1 : Nat))) (fun x => m_heldTable x.1 x.2.1)
noncomputable abbrev s_toLm : MSpec := mkM [none] [(false, .dat tL)] false [none] [rL] (fun x => short x.1) (fun x => ((x.1, ()), ()))
noncomputable abbrev s_toLLm : MSpec := mkM [none] [(false, .dat tLL)] false [none] [xLL] (fun x => shortLL x.1) (fun x => ((x.1, ()), ()))
noncomputable abbrev s_toTablem : MSpec := mkM [some 3] [(false, .dat tL), (false, .dat tLL), (false, .dat tL)] false [some 3] [rL, xLL, rL] (fun x => shortT (x.1, x.2.1, x.2.2.1, ())) (fun x => ((x.1, x.2.1, x.2.2.1, ()), ()))
theorem w_markL (xs : List Int) (k : Int) (P : ((Int × Unit) × List Int × Unit) → Prop) : ((0 : Nat) = (0 : Nat) ∧
  xs.length = xs.length ∧
    WLoop
      (fun (v3 : Int × Int × List Int × PUnit) (k4 : Int × Int × List Int × PUnit → Prop) =>
        Br (decide (v3.2.fst < (↑v3.snd.2.fst.length : Int)))
          (((0 : Int) ≤ v3.2.fst ∧ v3.2.fst < (↑v3.snd.2.fst.length : Int)) ∧
            (0 : Nat) + v3.2.fst.toNat < v3.snd.2.fst.length ∧
              (0 : Nat) = (0 : Nat) ∧
                v3.snd.2.fst.length = (v3.snd.2.fst.set ((0 : Nat) + v3.2.fst.toNat) v3.fst).length ∧
                  k4 (IntKind.i64.wrap (v3.fst + (1 : Int)), IntKind.i64.wrap (v3.2.fst + (1 : Int)), v3.snd.2.fst.set ((0 : Nat) + v3.2.fst.toNat) v3.fst, ()))
          (P ((v3.fst, ()), v3.snd.2.fst, ())))
      (k, (0 : Int), xs, PUnit.unit)) = fnMW tabT (look []) s_markL Try.f21 (xs, k, ()) P := by kernel_rfl
theorem w_markLL (xs : List (List Int)) (k : Int) (P : ((Int × Unit) × List (List Int) × Unit) → Prop) : ((0 : Nat) = (0 : Nat) ∧
  xs.length = xs.length ∧
    WLoop
      (fun (v3 : Int × Int × List (List Int) × PUnit) (k4 : Int × Int × List (List Int) × PUnit → Prop) =>
        Br (decide (v3.2.fst < (↑v3.snd.2.fst.length : Int)))
          (((0 : Int) ≤ v3.2.fst ∧ v3.2.fst < (↑v3.snd.2.fst.length : Int)) ∧
            ∃ (y5 : List Int),
              v3.snd.2.fst[(0 : Nat) + v3.2.fst.toNat]? = some y5 ∧
                ∃ (y6 : List Int),
                  v3.snd.2.fst[(0 : Nat) + v3.2.fst.toNat]? = some y6 ∧
                    ∃ (y7 : (Int × PUnit) × List Int × PUnit),
                      s_markL.fn (y6, v3.fst, ()) = some y7 ∧
                        ∃ (y8 : List Int),
                          v3.snd.2.fst[(0 : Nat) + v3.2.fst.toNat]? = some y8 ∧
                            y7.2.fst.length = y8.length ∧
                              (0 : Nat) = (0 : Nat) ∧
                                v3.snd.2.fst.length = (v3.snd.2.fst.set ((0 : Nat) + v3.2.fst.toNat) y7.2.fst).length ∧
                                  k4 (y7.1.fst, IntKind.i64.wrap (v3.2.fst + (1 : Int)), v3.snd.2.fst.set ((0 : Nat) + v3.2.fst.toNat) y7.2.fst, ()))
          (P ((v3.fst, ()), v3.snd.2.fst, ())))
      (k, (0 : Int), xs, PUnit.unit)) = fnMW tabT (look [(21, s_markL)]) s_markLL Try.f36 (xs, k, ()) P := by kernel_rfl
theorem w_markTable (a : List Int) (b : List (List Int)) (c : List Int) (k : Int) (P : ((Int × Unit) × List Int × List (List Int) × List Int × Unit) → Prop) : ((0 : Nat) = (0 : Nat) ∧
  a.length = a.length ∧
    ∃ (y5 : (Int × PUnit) × List Int × PUnit),
      s_markL.fn (a, k, ()) = some y5 ∧
        (y5.2.fst.length = a.length ∧ a.length = a.length) ∧
          (0 : Nat) = (0 : Nat) ∧
            b.length = b.length ∧
              ∃ (y6 : (Int × PUnit) × List (List Int) × PUnit),
                s_markLL.fn (b, y5.1.fst, ()) = some y6 ∧
                  (y6.2.fst.length = b.length ∧ b.length = b.length) ∧
                    (0 : Nat) = (0 : Nat) ∧
                      c.length = c.length ∧
                        ∃ (y7 : (Int × PUnit) × List Int × PUnit),
                          s_markL.fn (c, y6.1.fst, ()) = some y7 ∧ (y7.2.fst.length = c.length ∧ c.length = c.length) ∧ P ((y7.1.fst, ()), y5.2.fst, y6.2.fst, y7.2.fst, ())) = fnMW tabT (look [(21, s_markL), (36, s_markLL)]) s_markTable Try.f29 (a, b, c, k, ()) P := by kernel_rfl
theorem w_heldL (xs : List Int) (k : Int) (P : Int → Prop) : (WLoop
  (fun (v3 : Int × Int × PUnit) (k4 : Int × Int × PUnit → Prop) =>
    Br (decide (v3.2.fst < (↑xs.length : Int)))
      (∃ (y5 : Int), idx xs v3.2.fst = some y5 ∧ Br (y5 != v3.fst) (P (-1 : Int)) (k4 (IntKind.i64.wrap (v3.fst + (1 : Int)), IntKind.i64.wrap (v3.2.fst + (1 : Int)), ()))) (P v3.fst))
  (k, (0 : Int), PUnit.unit)) = fnW tab (look []) s_heldL Try.f22 (xs, k, ()) P := by kernel_rfl
theorem w_heldLL (xs : List (List Int)) (k : Int) (P : Int → Prop) : (WLoop
  (fun (v3 : Int × Int × PUnit) (k4 : Int × Int × PUnit → Prop) =>
    Br (decide (v3.2.fst < (↑xs.length : Int)))
      (∃ (y5 : List Int),
        idx xs v3.2.fst = some y5 ∧ ∃ (y6 : Int), s_heldL.fn (y5, v3.fst, ()) = some y6 ∧ Br (decide (y6 < (0 : Int))) (P (-1 : Int)) (k4 (y6, IntKind.i64.wrap (v3.2.fst + (1 : Int)), ())))
      (P v3.fst))
  (k, (0 : Int), PUnit.unit)) = fnW tab (look [(22, s_heldL)]) s_heldLL Try.f37 (xs, k, ()) P := by kernel_rfl
theorem w_heldTable (t : List Int × List (List Int) × List Int × Unit) (k : Int) (P : Int → Prop) : (∃ (y3 : Int),
  s_heldL.fn (t.fst, k, ()) = some y3 ∧
    Br (decide (y3 < (0 : Int))) (P (-1 : Int))
      (∃ (y4 : Int),
        s_heldLL.fn (t.2.fst, y3, ()) = some y4 ∧
          Br (decide (y4 < (0 : Int))) (P (-1 : Int)) (∃ (y5 : Int), s_heldL.fn (t.snd.2.fst, y4, ()) = some y5 ∧ Br (decide (y5 < (0 : Int))) (P (-1 : Int)) (P y5)))) = fnW tab (look [(22, s_heldL), (37, s_heldLL)]) s_heldTable Try.f30 (t, k, ()) P := by kernel_rfl
theorem w_toLm (xs : List Int) (P : ((List Int × Unit) × Unit) → Prop) : (((0 : Int) ≤ (↑xs.length : Int) ∧ (↑xs.length : Int) < (↑maxRow : Int) + (1 : Int)) ∧
  (↑xs.length : Int) = (↑xs.length : Int) ∧
    (0 : Nat) = (0 : Nat) ∧
      (List.replicate (↑xs.length : Int).toNat (Int.ofNat (nat_lit 0))).length = (List.replicate (↑xs.length : Int).toNat (Int.ofNat (nat_lit 0))).length ∧
        WLoop
          (fun (v2 : Int × List Int × PUnit) (k3 : Int × List Int × PUnit → Prop) =>
            Br (decide (v2.fst < (↑xs.length : Int)))
              (∃ (y4 : Int),
                idx xs v2.fst = some y4 ∧
                  ((0 : Int) ≤ v2.fst ∧ v2.fst < (↑v2.2.fst.length : Int)) ∧
                    (0 : Nat) + v2.fst.toNat < v2.2.fst.length ∧
                      (0 : Nat) = (0 : Nat) ∧
                        v2.2.fst.length = (v2.2.fst.set ((0 : Nat) + v2.fst.toNat) y4).length ∧ k3 (IntKind.i64.wrap (v2.fst + (1 : Int)), v2.2.fst.set ((0 : Nat) + v2.fst.toNat) y4, ()))
              (P ((List.take v2.2.fst.length (List.drop (0 : Nat) v2.2.fst), ()), ())))
          ((0 : Int), List.replicate (↑xs.length : Int).toNat (Int.ofNat (nat_lit 0)), PUnit.unit)) = fnMW tabT (look []) s_toLm Try.f26 (xs, ()) P := by kernel_rfl
theorem w_toLLm (xs : List (List Int)) (P : ((List (List Int) × Unit) × Unit) → Prop) : (((0 : Int) ≤ (↑xs.length : Int) ∧ (↑xs.length : Int) < (↑maxRow : Int) + (1 : Int)) ∧
  (↑xs.length : Int) = (↑xs.length : Int) ∧
    (0 : Nat) = (0 : Nat) ∧
      (List.replicate (↑xs.length : Int).toNat ([] : List Int)).length = (List.replicate (↑xs.length : Int).toNat ([] : List Int)).length ∧
        WLoop
          (fun (v2 : Int × List (List Int) × PUnit) (k3 : Int × List (List Int) × PUnit → Prop) =>
            Br (decide (v2.fst < (↑xs.length : Int)))
              (∃ (y4 : List Int),
                idx xs v2.fst = some y4 ∧
                  ∃ (y5 : (List Int × PUnit) × PUnit),
                    s_toLm.fn (y4, ()) = some y5 ∧
                      ((0 : Int) ≤ v2.fst ∧ v2.fst < (↑v2.2.fst.length : Int)) ∧
                        (0 : Nat) + v2.fst.toNat < v2.2.fst.length ∧
                          (0 : Nat) = (0 : Nat) ∧
                            v2.2.fst.length = (v2.2.fst.set ((0 : Nat) + v2.fst.toNat) (List.take y5.1.fst.length (List.drop (0 : Nat) y5.1.fst))).length ∧
                              k3 (IntKind.i64.wrap (v2.fst + (1 : Int)), v2.2.fst.set ((0 : Nat) + v2.fst.toNat) (List.take y5.1.fst.length (List.drop (0 : Nat) y5.1.fst)), ()))
              (P ((List.take v2.2.fst.length (List.drop (0 : Nat) v2.2.fst), ()), ())))
          ((0 : Int), List.replicate (↑xs.length : Int).toNat ([] : List Int), PUnit.unit)) = fnMW tabT (look [(26, s_toLm)]) s_toLLm Try.f59 (xs, ()) P := by kernel_rfl
theorem w_toTablem (a : List Int) (b : List (List Int)) (c : List Int) (P : ((List Int × List (List Int) × List Int × Unit) × Unit) → Prop) : (∃ (y4 : (List Int × PUnit) × PUnit),
  s_toLm.fn (a, ()) = some y4 ∧
    ∃ (y5 : (List (List Int) × PUnit) × PUnit),
      s_toLLm.fn (b, ()) = some y5 ∧
        ∃ (y6 : (List Int × PUnit) × PUnit),
          s_toLm.fn (c, ()) = some y6 ∧
            P ((List.take y4.1.fst.length (List.drop (0 : Nat) y4.1.fst), List.take y5.1.fst.length (List.drop (0 : Nat) y5.1.fst), List.take y6.1.fst.length (List.drop (0 : Nat) y6.1.fst), ()), ())) = fnMW tabT (look [(26, s_toLm), (59, s_toLLm)]) s_toTablem Try.f25 (a, b, c, ()) P := by kernel_rfl
theorem whole_row {α : Type} (xs : List α) : List.take xs.length (List.drop 0 xs) = xs := by rw [List.drop_zero, List.take_length]
theorem m_marks_len (k : Int) (n : Nat) : (m_marks k n).length = n := by simp [m_marks]
theorem m_marks_succ (k : Int) (n : Nat) : m_marks k (n + 1) = m_marks k n ++ [k + (n : Nat)] := by simp [m_marks, List.range_succ]
theorem m_total_append (a b : List (List Int)) : m_total (a ++ b) = m_total a + m_total b := by
  induction a with
  | nil => simp [m_total]
  | cons r a ih => simp only [List.cons_append, m_total, ih]; omega
theorem m_marksLL_append : ∀ (a b : List (List Int)) (k : Int), m_marksLL k (a ++ b) = m_marksLL k a ++ m_marksLL (k + m_total a) b
  | [], b, k => by simp [m_marksLL, m_total]
  | r :: a, b, k => by
    simp only [List.cons_append, m_marksLL, m_total, m_marksLL_append a b]
    congr 3
    omega
theorem m_marksLL_len : ∀ (xs : List (List Int)) (k : Int), (m_marksLL k xs).length = xs.length
  | [], _ => rfl
  | r :: xs, k => by simp [m_marksLL, m_marksLL_len xs]
theorem m_total_marks : ∀ (xs : List (List Int)) (k : Int), m_total (m_marksLL k xs) = m_total xs
  | [], _ => rfl
  | r :: xs, k => by simp [m_marksLL, m_total, m_marks_len, m_total_marks xs]
theorem shortLL_marks {xs : List (List Int)} (h : shortLL xs) (k : Int) : shortLL (m_marksLL k xs) := by
  refine ⟨by rw [m_marksLL_len]; exact h.1, ?_⟩
  have : ∀ (xs : List (List Int)) (k : Int), (∀ r ∈ xs, short r) → ∀ r ∈ m_marksLL k xs, short r := by
    intro xs
    induction xs with
    | nil => intro k _ r hr; cases hr
    | cons a xs ih =>
      intro k hx r hr
      simp only [m_marksLL] at hr
      rcases List.mem_cons.1 hr with rfl | hr
      · have := hx a (by simp); unfold short at *; rw [m_marks_len]; exact this
      · exact ih _ (fun r hr => hx r (List.mem_cons_of_mem _ hr)) r hr
  exact this xs k h.2
theorem m_total_drop {xs : List (List Int)} {j : Nat} (h : j < xs.length) : m_total (xs.drop j) = xs[j].length + m_total (xs.drop (j + 1)) := by
  rw [List.drop_eq_getElem_cons h]; rfl
theorem m_total_take {xs : List (List Int)} {j : Nat} (h : j < xs.length) : m_total (xs.take (j + 1)) = m_total (xs.take j) + xs[j].length := by
  rw [List.take_succ_eq_append_getElem h, m_total_append]; simp [m_total]
theorem m_total_split (xs : List (List Int)) (j : Nat) : m_total (xs.take j) + m_total (xs.drop j) = m_total xs := by
  rw [← m_total_append, List.take_append_drop]

theorem p_markL (xs : List Int) (k : Int) (h : short xs ∧ low k) : fnMW tabT (look []) s_markL Try.f21 (xs, k, ()) (fun (z : (Int × Unit) × List Int × Unit) => z = ((k + xs.length, ()), (m_marks k xs.length, ()))) := by
  obtain ⟨h1, h2, h3⟩ := h
  unfold short at h1
  refine Eq.mp (w_markL xs k _) ⟨rfl, rfl, ?_⟩
  refine loop_range xs.length (fun v => v.2.1) (fun j v => v.1 = k + (j : Nat) ∧ v.2.2.1.length = xs.length ∧ v.2.2.1.take j = m_marks k j) rfl ⟨by simp, rfl, by simp [m_marks]⟩ ?_
  rintro j ⟨k', i, ys, ⟨⟩⟩ K hj hi ⟨g1, g2, g3⟩ hK
  dsimp only at hi g1 g2 g3 ⊢
  subst hi; subst g1
  refine Br.dec (fun hl => ?_) fun hl => ?_
  · have hl : j < ys.length := by omega
    refine ⟨⟨by omega, by omega⟩, by rw [Int.toNat_natCast]; omega, rfl, by rw [List.length_set], ?_⟩
    rw [wrap_nat (by omega), Int.toNat_natCast, Nat.zero_add, wrap_id (by omega) (by omega)]
    refine hK (by omega) _ rfl ⟨by dsimp only; omega, by rw [List.length_set]; exact g2, ?_⟩
    rw [List.take_succ_eq_append_getElem (by rw [List.length_set]; exact hl), List.take_set_of_le (Nat.le_refl j), g3, List.getElem_set_self, m_marks_succ]
  · have hj' : j = xs.length := by omega
    subst hj'
    rw [← g2, List.take_length, g2] at g3
    rw [g3]
theorem sound_markL : MSound Try.prog 21 s_markL :=
  MSound.mkM tabTOK envNil mixed Try.func21 (by kernel_rfl) (by kernel_rfl) fun x h => p_markL x.1 x.2.1 h
theorem p_markLL (xs : List (List Int)) (k : Int) (h : shortLL xs ∧ low k ∧ low (k + m_total xs)) : fnMW tabT (look [(21, s_markL)]) s_markLL Try.f36 (xs, k, ()) (fun (z : (Int × Unit) × List (List Int) × Unit) => z = ((k + m_total xs, ()), (m_marksLL k xs, ()))) := by
  obtain ⟨⟨h1, h4⟩, ⟨h2, h3⟩, h5, h6⟩ := h
  refine Eq.mp (w_markLL xs k _) ⟨rfl, rfl, ?_⟩
  refine loop_range xs.length (fun v => v.2.1) (fun j v => v.1 = k + (m_total (xs.take j) : Nat) ∧ v.2.2.1.length = xs.length ∧ v.2.2.1.take j = m_marksLL k (xs.take j) ∧ v.2.2.1.drop j = xs.drop j) rfl ⟨by simp [m_total], rfl, by simp [m_marksLL], rfl⟩ ?_
  rintro j ⟨k', i, ys, ⟨⟩⟩ K hj hi ⟨g1, g2, g3, g4⟩ hK
  dsimp only at hi g1 g2 g3 g4 ⊢
  subst hi; subst g1
  refine Br.dec (fun hl => ?_) fun hl => ?_
  · have hl : j < ys.length := by omega
    have hlx : j < xs.length := by omega
    have hy : ys[j]? = some xs[j] := by
      have : (ys.drop j)[0]? = (xs.drop j)[0]? := by rw [g4]
      simpa [List.getElem?_drop, List.getElem?_eq_getElem hlx] using this
    have hsp := m_total_split xs j
    have htk := m_total_take hlx
    have hdr := m_total_drop hlx
    refine ⟨⟨by omega, by omega⟩, ?_⟩
    simp only [Int.toNat_natCast, Nat.zero_add]
    have hlow : low (k + (m_total (xs.take j) : Nat)) := ⟨by omega, by omega⟩
    refine ⟨_, hy, _, hy, _, if_pos ⟨h4 _ (List.getElem_mem hlx), hlow⟩, _, hy, m_marks_len _ _, trivial, by rw [List.length_set], ?_⟩
    rw [wrap_nat (by omega)]
    refine hK hlx _ rfl ⟨by dsimp only; omega, by rw [List.length_set]; exact g2, ?_, ?_⟩
    · rw [List.take_succ_eq_append_getElem (by rw [List.length_set]; exact hl), List.take_set_of_le (Nat.le_refl j), g3, List.getElem_set_self, List.take_succ_eq_append_getElem hlx, m_marksLL_append]
      rfl
    · dsimp only
      rw [List.drop_set_of_lt (by omega)]
      have e1 : ys.drop (j + 1) = (ys.drop j).drop 1 := by rw [List.drop_drop]
      rw [e1, g4, List.drop_drop]
  · have hj' : j = xs.length := by omega
    subst hj'
    rw [← g2, List.take_length, g2, List.take_length] at g3
    rw [g3, List.take_length]
theorem sound_markLL : MSound Try.prog 36 s_markLL :=
  MSound.mkM tabTOK (envConsM sound_markL envNil) mixed Try.func36 (by kernel_rfl) (by kernel_rfl) fun x h => p_markLL x.1 x.2.1 h
theorem p_markTable (a : List Int) (b : List (List Int)) (c : List Int) (k : Int) (h : shortT (a, b, c, ()) ∧ low k ∧ low (k + (List.length a + m_total b + List.length c : Nat))) : fnMW tabT (look [(21, s_markL), (36, s_markLL)]) s_markTable Try.f29 (a, b, c, k, ()) (fun (z : (Int × Unit) × List Int × List (List Int) × List Int × Unit) => z = ((k + (List.length a + m_total b + List.length c : Nat), ()), (m_marks k (List.length a), m_marksLL (k + List.length a) b, m_marks (k + List.length a + m_total b) (List.length c), ()))) := by
  obtain ⟨⟨h1, h2, h3⟩, ⟨h4, h5⟩, h6, h7⟩ := h
  have l1 : low (k + (List.length a : Nat)) := ⟨by omega, by omega⟩
  have l2 : low (k + (List.length a : Nat) + (m_total b : Nat)) := ⟨by omega, by omega⟩
  refine Eq.mp (w_markTable a b c k _) ⟨rfl, rfl, _, if_pos ⟨h1, h4, h5⟩, ⟨m_marks_len _ _, rfl⟩, rfl, rfl, _, if_pos ⟨h2, l1, l2⟩, ⟨m_marksLL_len _ _, rfl⟩, rfl, rfl, _, if_pos ⟨h3, l2⟩, ⟨m_marks_len _ _, rfl⟩, ?_⟩
  dsimp only
  rw [show k + (List.length a : Nat) + (m_total b : Nat) + (List.length c : Nat) = k + (List.length a + m_total b + List.length c : Nat) by omega]
theorem sound_markTable : MSound Try.prog 29 s_markTable :=
  MSound.mkM tabTOK (envConsM sound_markL (envConsM sound_markLL envNil)) mixed Try.func29 (by kernel_rfl) (by kernel_rfl) fun x h => p_markTable x.1 x.2.1 x.2.2.1 x.2.2.2.1 h
theorem p_heldL (xs : List Int) (k : Int) (h : short xs ∧ low k) : fnW tab (look []) s_heldL Try.f22 (xs, k, ()) (fun (z : Int) => z = m_heldL xs k) := by
  obtain ⟨h1, h2, h3⟩ := h
  unfold short at h1
  refine Eq.mp (w_heldL xs k _) ?_
  refine loop_range xs.length (fun v => v.2.1) (fun j v => v.1 = k + (j : Nat) ∧ xs.take j = m_marks k j) rfl ⟨by simp, by simp [m_marks]⟩ ?_
  rintro j ⟨k', i, ⟨⟩⟩ K hj hi ⟨g1, g3⟩ hK
  dsimp only at hi g1 g3 ⊢
  subst hi; subst g1
  refine Br.dec (fun hl => ?_) fun hl => ?_
  · have hl : j < xs.length := by omega
    refine ⟨_, idx_nat hl, fun hne => ?_, fun he => ?_⟩
    · simp only [bne_iff_ne, ne_eq] at hne
      unfold m_heldL
      rw [if_neg]
      intro he
      refine hne ?_
      have e1 : xs[j]? = (m_marks k xs.length)[j]? := by rw [← he]
      rw [List.getElem?_eq_getElem hl] at e1
      simpa [m_marks, hl] using e1
    · simp only [bne_eq_false_iff_eq] at he
      rw [wrap_nat (by omega), wrap_id (by omega) (by omega)]
      refine hK hl _ rfl ⟨by dsimp only; omega, ?_⟩
      rw [List.take_succ_eq_append_getElem hl, g3, he, m_marks_succ]
  · have hj' : j = xs.length := by omega
    subst hj'
    rw [List.take_length] at g3
    exact (if_pos g3).symm
theorem sound_heldL : Sound Try.prog 22 s_heldL :=
  Sound.mkS tabOK envNil mixed Try.func22 (by kernel_rfl) (by kernel_rfl) fun x h => p_heldL x.1 x.2.1 h
theorem m_heldL_marks (k : Int) (n : Nat) : m_heldL (m_marks k n) k = k + n := by unfold m_heldL; rw [m_marks_len, if_pos rfl]
theorem m_heldL_low {xs : List Int} {k : Int} (h : ¬ m_heldL xs k < 0) : m_heldL xs k = k + xs.length := by
  unfold m_heldL at *
  split at h
  · rename_i h1; rw [if_pos h1]
  · exact absurd (show (-1 : Int) < 0 by decide) h
theorem m_heldLL_marks : ∀ (xs : List (List Int)) (k : Int), 0 ≤ k → m_heldLL (m_marksLL k xs) k = k + m_total xs
  | [], k, _ => by simp [m_marksLL, m_heldLL, m_total]
  | r :: xs, k, h => by
    simp only [m_marksLL, m_heldLL, m_heldL_marks, m_total]
    rw [if_neg (by omega), m_heldLL_marks xs _ (by omega)]
    omega
theorem m_heldLL_low : ∀ (xs : List (List Int)) (k : Int), ¬ m_heldLL xs k < 0 → m_heldLL xs k = k + m_total xs
  | [], k, _ => by simp [m_heldLL, m_total]
  | r :: xs, k, h => by
    simp only [m_heldLL, m_total] at h ⊢
    split at h
    · exact absurd (show (-1 : Int) < 0 by decide) h
    · rename_i h1
      rw [if_neg h1, m_heldLL_low xs _ h, m_heldL_low h1]
      omega
theorem p_heldLL (xs : List (List Int)) (k : Int) (h : shortLL xs ∧ low k ∧ low (k + m_total xs)) : fnW tab (look [(22, s_heldL)]) s_heldLL Try.f37 (xs, k, ()) (fun (z : Int) => z = m_heldLL xs k) := by
  obtain ⟨⟨h1, h4⟩, ⟨h2, h3⟩, h5, h6⟩ := h
  refine Eq.mp (w_heldLL xs k _) ?_
  refine loop_range xs.length (fun v => v.2.1) (fun j v => 0 ≤ v.1 ∧ v.1 + (m_total (xs.drop j) : Nat) ≤ k + (m_total xs : Nat) ∧ m_heldLL (xs.drop j) v.1 = m_heldLL xs k) rfl ⟨h2, by simp, rfl⟩ ?_
  rintro j ⟨k', i, ⟨⟩⟩ K hj hi ⟨g1, g2, g3⟩ hK
  dsimp only at hi g1 g2 g3 ⊢
  subst hi
  refine Br.dec (fun hl => ?_) fun hl => ?_
  · have hl : j < xs.length := by omega
    have hdr := m_total_drop hl
    have hlow : low k' := ⟨g1, by omega⟩
    rw [List.drop_eq_getElem_cons hl] at g3
    simp only [m_heldLL] at g3
    refine ⟨_, idx_nat hl, _, if_pos ⟨h4 _ (List.getElem_mem hl), hlow⟩, Br.dec (fun hn => ?_) fun hn => ?_⟩
    · have hn : m_heldL xs[j] k' < 0 := hn
      rw [if_pos hn] at g3
      exact g3
    · have hn : ¬ m_heldL xs[j] k' < 0 := hn
      rw [if_neg hn] at g3
      have e1 := m_heldL_low hn
      rw [wrap_nat (by omega)]
      refine hK hl _ rfl ⟨by dsimp only; omega, by dsimp only; rw [e1]; omega, g3⟩
  · have hj' : j = xs.length := by omega
    subst hj'
    rw [List.drop_length] at g3
    exact g3
theorem sound_heldLL : Sound Try.prog 37 s_heldLL :=
  Sound.mkS tabOK (envCons sound_heldL envNil) mixed Try.func37 (by kernel_rfl) (by kernel_rfl) fun x h => p_heldLL x.1 x.2.1 h
theorem p_heldTable (t : TT) (k : Int) (h : shortT t ∧ low k ∧ low (k + (List.length t.1 + m_total t.2.1 + List.length t.2.2.1 : Nat))) : fnW tab (look [(22, s_heldL), (37, s_heldLL)]) s_heldTable Try.f30 (t, k, ()) (fun (z : Int) => z = m_heldTable t k) := by
  obtain ⟨⟨h1, h2, h3⟩, ⟨h4, h5⟩, h6, h7⟩ := h
  refine Eq.mp (w_heldTable t k _) ⟨_, if_pos ⟨h1, h4, h5⟩, Br.dec (fun hn => ?_) fun hn => ?_⟩
  · exact (if_pos hn).symm
  · have hn : ¬ m_heldL t.1 k < 0 := hn
    have e1 := m_heldL_low hn
    have l1 : low (m_heldL t.1 k) := by rw [e1]; exact ⟨by omega, by omega⟩
    have l2 : low (m_heldL t.1 k + (m_total t.2.1 : Nat)) := by rw [e1]; exact ⟨by omega, by omega⟩
    refine ⟨_, if_pos ⟨h2, l1, l2⟩, Br.dec (fun hm => ?_) fun hm => ?_⟩
    · exact ((if_neg hn).trans (if_pos hm)).symm
    · have hm : ¬ m_heldLL t.2.1 (m_heldL t.1 k) < 0 := hm
      have e2 := m_heldLL_low _ _ hm
      have l3 : low (m_heldLL t.2.1 (m_heldL t.1 k)) := by rw [e2]; exact l2
      refine ⟨_, if_pos ⟨h3, l3⟩, Br.dec (fun hk => ?_) fun hk => ?_⟩
      · exact ((if_neg hn).trans ((if_neg hm).trans (if_pos hk))).symm
      · exact ((if_neg hn).trans ((if_neg hm).trans (if_neg hk))).symm
theorem sound_heldTable : Sound Try.prog 30 s_heldTable :=
  Sound.mkS tabOK (envCons sound_heldL (envCons sound_heldLL envNil)) mixed Try.func30 (by kernel_rfl) (by kernel_rfl) fun x h => p_heldTable x.1 x.2.1 h
theorem p_toLm (xs : List Int) (h : short xs) : fnMW tabT (look []) s_toLm Try.f26 (xs, ()) (fun (z : (List Int × Unit) × Unit) => z = ((xs, ()), ())) := by
  unfold short at h
  refine Eq.mp (w_toLm xs _) ?_
  refine ⟨⟨by omega, by show (xs.length : Int) < (4294967296 : Int) + 1; omega⟩, rfl, rfl, rfl, ?_⟩
  refine loop_range xs.length (fun v => v.1) (fun j v => v.2.1.length = xs.length ∧ v.2.1.take j = xs.take j) rfl ⟨by simp, by simp⟩ ?_
  rintro j ⟨i, ys, ⟨⟩⟩ K hj hi ⟨h1, h2⟩ hK
  dsimp only at hi h1 h2 ⊢
  subst hi
  refine Br.dec (fun hl => ?_) fun hl => ?_
  · have hl : j < xs.length := by omega
    refine ⟨_, idx_nat hl, ⟨by omega, by omega⟩, by rw [Int.toNat_natCast]; omega, rfl, by rw [List.length_set], ?_⟩
    rw [wrap_nat (by omega), Int.toNat_natCast, Nat.zero_add]
    exact hK hl _ rfl ⟨by rw [List.length_set]; exact h1, take_set_succ hl h1 h2⟩
  · have : j = xs.length := by omega
    subst this
    rw [List.take_length, ← h1, List.take_length] at h2
    rw [whole_row, h2]
theorem sound_toLm : MSound Try.prog 26 s_toLm :=
  MSound.mkM tabTOK envNil mixed Try.func26 (by kernel_rfl) (by kernel_rfl) fun x h => p_toLm x.1 h
theorem p_toLLm (xs : List (List Int)) (h : shortLL xs) : fnMW tabT (look [(26, s_toLm)]) s_toLLm Try.f59 (xs, ()) (fun (z : (List (List Int) × Unit) × Unit) => z = ((xs, ()), ())) := by
  obtain ⟨h, h4⟩ := h
  refine Eq.mp (w_toLLm xs _) ?_
  refine ⟨⟨by omega, by show (xs.length : Int) < (4294967296 : Int) + 1; omega⟩, rfl, rfl, rfl, ?_⟩
  refine loop_range xs.length (fun v => v.1) (fun j v => v.2.1.length = xs.length ∧ v.2.1.take j = xs.take j) rfl ⟨by simp, by simp⟩ ?_
  rintro j ⟨i, ys, ⟨⟩⟩ K hj hi ⟨h1, h2⟩ hK
  dsimp only at hi h1 h2 ⊢
  subst hi
  refine Br.dec (fun hl => ?_) fun hl => ?_
  · have hl : j < xs.length := by omega
    refine ⟨_, idx_nat hl, _, if_pos (h4 _ (List.getElem_mem hl)), ⟨by omega, by omega⟩, by rw [Int.toNat_natCast]; omega, rfl, by rw [List.length_set], ?_⟩
    rw [wrap_nat (by omega), Int.toNat_natCast, Nat.zero_add]
    dsimp only
    rw [whole_row]
    exact hK hl _ rfl ⟨by rw [List.length_set]; exact h1, take_set_succ hl h1 h2⟩
  · have : j = xs.length := by omega
    subst this
    rw [List.take_length, ← h1, List.take_length] at h2
    rw [whole_row, h2]
theorem sound_toLLm : MSound Try.prog 59 s_toLLm :=
  MSound.mkM tabTOK (envConsM sound_toLm envNil) mixed Try.func59 (by kernel_rfl) (by kernel_rfl) fun x h => p_toLLm x.1 h
theorem p_toTablem (a : List Int) (b : List (List Int)) (c : List Int) (h : shortT (a, b, c, ())) : fnMW tabT (look [(26, s_toLm), (59, s_toLLm)]) s_toTablem Try.f25 (a, b, c, ()) (fun (z : (List Int × List (List Int) × List Int × Unit) × Unit) => z = ((a, b, c, ()), ())) := by
  refine Eq.mp (w_toTablem a b c _) ⟨_, if_pos h.1, _, if_pos h.2.1, _, if_pos h.2.2, ?_⟩
  simp only [whole_row]
theorem sound_toTablem : MSound Try.prog 25 s_toTablem :=
  MSound.mkM tabTOK (envConsM sound_toLm (envConsM sound_toLLm envNil)) mixed Try.func25 (by kernel_rfl) (by kernel_rfl) fun x h => p_toTablem x.1 x.2.1 x.2.2.1 h
end Go.Proofs.Ytfghmbpogmcboaa

namespace Go.Proofs.Ytfghmbpogmcboaa
open Go.RowKit

theorem m_equalInts_self (a : List Int) : m_equalInts a a = true := by simp [m_equalInts]
theorem sz_low {n : Nat} {room : Int} (h : ¬ m_sz n room < 0) : m_sz n room = room - n ∧ (n : Int) ≤ room := by
  unfold m_sz at *
  split at h
  · exact absurd (show (-1 : Int) < 0 by decide) h
  · rename_i h1; rw [if_neg h1]; exact ⟨rfl, by omega⟩
theorem szGo_low : ∀ (xs : List (List Int)) (room : Int), 0 ≤ room → ¬ szGo xs room < 0 → szGo xs room = room - m_total xs
  | [], room, _, _ => by simp [szGo, m_total]
  | r :: xs, room, h0, h => by
    simp only [szGo, m_total] at h ⊢
    split at h
    · exact absurd (show (-1 : Int) < 0 by decide) h
    · rename_i h1
      rw [if_neg h1]
      have e1 := sz_low (n := r.length) h1
      have e1 : m_szL r room = room - r.length ∧ (r.length : Int) ≤ room := e1
      rw [szGo_low xs _ (by rw [e1.1]; omega) h, e1.1]
      omega
theorem szLL_low {xs : List (List Int)} {room : Int} (h : ¬ m_szLL xs room < 0) : m_szLL xs room = room - xs.length - m_total xs := by
  unfold m_szLL at *
  split at h
  · exact absurd (show (-1 : Int) < 0 by decide) h
  · rename_i h1
    rw [if_neg h1]
    have e1 := sz_low h1
    rw [szGo_low xs _ (by rw [e1.1]; omega) h, e1.1]
theorem whole_marks (k : Int) (n : Nat) : List.take n (List.drop 0 (m_marks k n)) = m_marks k n := by rw [List.drop_zero, List.take_of_length_le (by rw [m_marks_len]; exact Nat.le_refl _)]
theorem low_one : low 1 := ⟨by decide, by decide⟩
end Go.Proofs.Ytfghmbpogmcboaa

namespace Go.Proofs.Ytfghmbpogmcboaa
open Go.RowKit

theorem bool_same {b : Bool} {P : Prop} (h : (!(b == b)) = true) : P := by simp at h
end Go.Proofs.Ytfghmbpogmcboaa

namespace Go.Proofs.Ytfghmbpogmcboaa
open Go.RowKit

noncomputable abbrev s_cloneO : MSpec := mkM [none] [(false, .dat (.oslice tI))] false [none] [rL] (fun x => short (x.1.getD [])) (fun x => ((x.1.getD [], ()), ()))
noncomputable abbrev s_cloneM : MSpec := mkM [none] [(false, .dat tL)] false [none] [rL] (fun x => short x.1) (fun x => ((x.1, ()), ()))
noncomputable abbrev s_copyInts : Spec := mkS (.pair tL .unit) tL false true (fun x => short x.1) (fun x => x.1)
theorem w_cloneO (xs : Option (List Int)) (P : ((List Int × Unit) × Unit) → Prop) : (Br xs.isNone (P ((List.take (0 : Nat) (List.drop (0 : Nat) []), ()), ()))
  ((0 : Nat) = (0 : Nat) ∧ (0 : Nat) = ([] : List Int).length ∧ (0 : Nat) + (xs.getD []).length ≤ maxRow ∧ P ((List.take ([] ++ xs.getD []).length (List.drop (0 : Nat) ([] ++ xs.getD [])), ()), ()))) = fnMW tabT (look []) s_cloneO Try.f76 (xs, ()) P := by kernel_rfl
theorem w_copyInts (xs : List Int) (P : List Int → Prop) : ((0 : Nat) = (0 : Nat) ∧ (0 : Nat) = ([] : List Int).length ∧ (0 : Nat) + xs.length ≤ maxRow ∧ P (List.take ([] ++ xs).length (List.drop (0 : Nat) ([] ++ xs)))) = fnW tab (look []) s_copyInts Try.f70 (xs, ()) P := by kernel_rfl
theorem p_cloneO (xs : Option (List Int)) (h : short (xs.getD [])) : fnMW tabT (look []) s_cloneO Try.f76 (xs, ()) (fun (z : (List Int × Unit) × Unit) => z = ((xs.getD [], ()), ())) := by
  unfold short at h
  refine Eq.mp (w_cloneO xs _) ⟨fun hn => ?_, fun _ => ⟨rfl, rfl, by show 0 + (xs.getD []).length ≤ 4294967296; omega, ?_⟩⟩
  · cases xs with
    | none => rfl
    | some y => cases hn
  · simp only [whole_row, List.nil_append]
theorem sound_cloneO : MSound Try.prog 76 s_cloneO :=
  MSound.mkM tabTOK envNil mixed Try.func76 (by kernel_rfl) (by kernel_rfl) fun x h => p_cloneO x.1 h
theorem sound_cloneM : MSound Try.prog 76 s_cloneM := MSound.ofO sound_cloneO fun _ _ h => ⟨h, rfl⟩
theorem p_copyInts (xs : List Int) (h : short xs) : fnW tab (look []) s_copyInts Try.f70 (xs, ()) (fun (z : List Int) => z = xs) := by
  unfold short at h
  refine Eq.mp (w_copyInts xs _) ⟨rfl, rfl, by show 0 + xs.length ≤ 4294967296; omega, ?_⟩
  simp only [whole_row, List.nil_append]
theorem sound_copyInts : Sound Try.prog 70 s_copyInts :=
  Sound.mkS tabOK envNil mixed Try.func70 (by kernel_rfl) (by kernel_rfl) fun x h => p_copyInts x.1 h
theorem m_index_spec : ∀ (xs : List Int) (x i : Int), x ∈ xs → ∃ j : Nat, m_index xs x i = i + j ∧ xs[j]? = some x ∧ ∀ k, k < j → xs[k]? ≠ some x
  | [], x, i, h => by cases h
  | y :: r, x, i, h => by
    simp only [m_index]
    split
    · rename_i hy; subst hy
      exact ⟨0, by simp, rfl, fun k hk => absurd hk (Nat.not_lt_zero _)⟩
    · rename_i hy
      have hr : x ∈ r := by
        rcases List.mem_cons.1 h with h | h
        · exact absurd h.symm hy
        · exact h
      obtain ⟨j, h1, h2, h3⟩ := m_index_spec r x (i + 1) hr
      refine ⟨j + 1, by rw [h1]; omega, by simpa using h2, fun k hk => ?_⟩
      rcases k with _ | k
      · simpa using hy
      · simpa using h3 k (by omega)
end Go.Proofs.Ytfghmbpogmcboaa

namespace Go.Proofs.Ytfghmbpogmcboaa
open Go.RowKit

/-- The entries at some indices. -/
def m_picked (xs is : List Int) : List Int := is.map (gets xs)
noncomputable abbrev s_pickedM : MSpec := mkM [none, none] [(false, .dat tL), (false, .dat tL)] false [none] [rL] (fun x => short x.2.1 ∧ inRow (List.length x.1) x.2.1) (fun x => ((m_picked x.1 x.2.1, ()), ()))
noncomputable abbrev s_project : Spec := mkS (.pair tL (.pair tL .unit)) tL false true (fun x => short x.1 ∧ inRow (List.length x.2.1) x.1) (fun x => m_picked x.2.1 x.1)
def m_key (xs : List Int) : ByteArray := bytesOf (xs.map fun x => IntKind.u8.wrap x)
noncomputable abbrev s_stateKey : Spec := mkS (.pair tL .unit) .str false true (fun x => short x.1) (fun x => m_key x.1)
/-- What is built up: patterns, and their distances. -/
abbrev RS : Type := List (List Int) × List Int
def posIn (ps : List (List Int)) (p : List Int) : Int := m_indexF (fun q => decide (q = p)) ps 0
def m_add (s : RS) (p : List Int) (d : Int) : RS :=
  if posIn s.1 p < 0 then (s.1 ++ [p], s.2 ++ [d])
  else (s.1, s.2.set (posIn s.1 p).toNat (if d < s.2.getD (posIn s.1 p).toNat 0 then d else s.2.getD (posIn s.1 p).toNat 0))
def m_rs (is : List Int) (t : TT) (k : Nat) : RS := (List.range k).foldl (fun (s : RS) (i : Nat) => m_add s (m_picked (t.2.1.getD i []) is) (t.2.2.1.getD i 0)) ([], [])
def m_at (xs ys : List Int) : List Int := ys.map fun y => m_index xs y 0
def m_among (xs ys : List Int) : List Int := m_at xs (ys.filter fun y => decide (y ∈ xs))
noncomputable def m_rok (t : TT) (d : List Int) : Bool := dec (m_wellFormed t = true ∧ m_pointList 20 d = true ∧ ∀ y ∈ d, y ∈ t.1)
noncomputable def m_restrict (t : TT) (d : List Int) : TT × Bool × Unit :=
  if m_rok t d = true then ((d, (m_rs (m_at t.1 d) t t.2.1.length).1, (m_rs (m_at t.1 d) t t.2.1.length).2, ()), true, ()) else (([], [], [], ()), false, ())
noncomputable abbrev s_implRestrict : MSpec := mkM [some 3, none] [(false, .dat tL), (false, .dat tLL), (false, .dat tL), (false, .dat tL)] true [some 3, none] [rL, xLL, rL, .dat .bool]
  (fun x => shortT (x.1, x.2.1, x.2.2.1, ()) ∧ short x.2.2.2.1)
  (fun x => (((m_restrict (x.1, x.2.1, x.2.2.1, ()) x.2.2.2.1).1.1, (m_restrict (x.1, x.2.1, x.2.2.1, ()) x.2.2.2.1).1.2.1, (m_restrict (x.1, x.2.1, x.2.2.1, ()) x.2.2.2.1).1.2.2.1, (m_restrict (x.1, x.2.1, x.2.2.1, ()) x.2.2.2.1).2.1, ()), ()))
noncomputable abbrev s_specRestrict : Spec := mkS (.pair tTable (.pair tL .unit)) (.pair tTable (.pair .bool .unit)) true true (fun x => shortT x.1 ∧ short x.2.1) (fun x => m_restrict x.1 x.2.1)
noncomputable abbrev s_indicesAmong : Spec := mkS (.pair tL (.pair tL .unit)) (.pair tL (.pair .bool .unit)) true true (fun x => m_pointList 20 x.1 = true ∧ short x.1 ∧ m_pointList 20 x.2.1 = true ∧ short x.2.1) (fun x => (m_among x.1 x.2.1, dec (∀ y ∈ x.2.1, y ∈ x.1), ()))
theorem w_pickedM (xs is : List Int) (P : ((List Int × Unit) × Unit) → Prop) : (((0 : Int) ≤ (↑is.length : Int) ∧ (↑is.length : Int) < (↑maxRow : Int) + (1 : Int)) ∧
  (↑is.length : Int) = (↑is.length : Int) ∧
    (0 : Nat) = (0 : Nat) ∧
      (List.replicate (↑is.length : Int).toNat (Int.ofNat (nat_lit 0))).length = (List.replicate (↑is.length : Int).toNat (Int.ofNat (nat_lit 0))).length ∧
        WLoop
          (fun (v3 : Int × List Int × PUnit) (k4 : Int × List Int × PUnit → Prop) =>
            Br (decide (v3.fst < (↑is.length : Int)))
              (∃ (y5 : Int),
                idx is v3.fst = some y5 ∧
                  ∃ (y6 : Int),
                    idx xs y5 = some y6 ∧
                      ((0 : Int) ≤ v3.fst ∧ v3.fst < (↑v3.2.fst.length : Int)) ∧
                        (0 : Nat) + v3.fst.toNat < v3.2.fst.length ∧
                          (0 : Nat) = (0 : Nat) ∧
                            v3.2.fst.length = (v3.2.fst.set ((0 : Nat) + v3.fst.toNat) y6).length ∧ k4 (IntKind.i64.wrap (v3.fst + (1 : Int)), v3.2.fst.set ((0 : Nat) + v3.fst.toNat) y6, ()))
              (P ((List.take v3.2.fst.length (List.drop (0 : Nat) v3.2.fst), ()), ())))
          ((0 : Int), List.replicate (↑is.length : Int).toNat (Int.ofNat (nat_lit 0)), PUnit.unit)) = fnMW tabT (look []) s_pickedM Try.f77 (xs, is, ()) P := by kernel_rfl
theorem w_project (is xs : List Int) (P : List Int → Prop) : ((0 : Nat) = (0 : Nat) ∧
  (0 : Nat) = ([] : List Int).length ∧
    WLoop
      (fun (v3 : Int × List Int × PUnit) (k4 : Int × List Int × PUnit → Prop) =>
        Br (decide (v3.fst < (↑is.length : Int)))
          (∃ (y5 : Int),
            idx is v3.fst = some y5 ∧
              ∃ (y6 : Int),
                idx xs y5 = some y6 ∧
                  (0 : Nat) = (0 : Nat) ∧
                    v3.2.fst.length = v3.2.fst.length ∧
                      v3.2.fst.length + (List.take (1 : Nat) (List.drop (0 : Nat) [y6])).length ≤ maxRow ∧
                        (0 : Nat) = (0 : Nat) ∧
                          (v3.2.fst ++ List.take (1 : Nat) (List.drop (0 : Nat) [y6])).length = (v3.2.fst ++ List.take (1 : Nat) (List.drop (0 : Nat) [y6])).length ∧
                            k4 (IntKind.i64.wrap (v3.fst + (1 : Int)), v3.2.fst ++ List.take (1 : Nat) (List.drop (0 : Nat) [y6]), ()))
          (P (List.take v3.2.fst.length (List.drop (0 : Nat) v3.2.fst))))
      ((0 : Int), [], PUnit.unit)) = fnW tab (look []) s_project Try.f71 (is, xs, ()) P := by kernel_rfl
theorem w_stateKey (xs : List Int) (P : ByteArray → Prop) : (((0 : Int) ≤ (↑xs.length : Int) ∧ (↑xs.length : Int) < (↑maxRow : Int) + (1 : Int)) ∧
  (↑xs.length : Int) = (↑xs.length : Int) ∧
    (0 : Nat) = (0 : Nat) ∧
      (List.replicate (↑xs.length : Int).toNat (Int.ofNat (nat_lit 0))).length = (List.replicate (↑xs.length : Int).toNat (Int.ofNat (nat_lit 0))).length ∧
        WLoop
          (fun (v2 : Int × List Int × PUnit) (k3 : Int × List Int × PUnit → Prop) =>
            Br (decide (v2.fst < (↑xs.length : Int)))
              (∃ (y4 : Int),
                idx xs v2.fst = some y4 ∧
                  ((0 : Int) ≤ v2.fst ∧ v2.fst < (↑v2.2.fst.length : Int)) ∧
                    (0 : Nat) + v2.fst.toNat < v2.2.fst.length ∧
                      (0 : Nat) = (0 : Nat) ∧
                        v2.2.fst.length = (v2.2.fst.set ((0 : Nat) + v2.fst.toNat) (IntKind.u8.wrap y4)).length ∧
                          k3 (IntKind.i64.wrap (v2.fst + (1 : Int)), v2.2.fst.set ((0 : Nat) + v2.fst.toNat) (IntKind.u8.wrap y4), ()))
              (P (bytesOf (List.take v2.2.fst.length (List.drop (0 : Nat) v2.2.fst)))))
          ((0 : Int), List.replicate (↑xs.length : Int).toNat (Int.ofNat (nat_lit 0)), PUnit.unit)) = fnW tab (look []) s_stateKey Try.f78 (xs, ()) P := by kernel_rfl
theorem w_indicesAmong (xs ys : List Int) (P : (List Int × Bool × Unit) → Prop) : ((0 : Nat) = (0 : Nat) ∧
  (0 : Nat) = ([] : List Int).length ∧
    WLoop
      (fun (v3 : Int × List Int × PUnit) (k4 : Int × List Int × PUnit → Prop) =>
        Br (decide (v3.fst < (↑ys.length : Int)))
          ((0 : Nat) = (0 : Nat) ∧
            v3.2.fst.length = v3.2.fst.length ∧
              WLoop
                (fun (v5 : Int × List Int × PUnit) (k6 : Int × List Int × PUnit → Prop) =>
                  Br (decide (v5.fst < (↑xs.length : Int)))
                    (∃ (y7 : Int),
                      idx xs v5.fst = some y7 ∧
                        ∃ (y8 : Int),
                          idx ys v3.fst = some y8 ∧
                            Br (y7 == y8)
                              ((0 : Nat) = (0 : Nat) ∧
                                v5.2.fst.length = v5.2.fst.length ∧
                                  v5.2.fst.length + (List.take (1 : Nat) (List.drop (0 : Nat) [v5.fst])).length ≤ maxRow ∧
                                    (0 : Nat) = (0 : Nat) ∧
                                      (v5.2.fst ++ List.take (1 : Nat) (List.drop (0 : Nat) [v5.fst])).length = (v5.2.fst ++ List.take (1 : Nat) (List.drop (0 : Nat) [v5.fst])).length ∧
                                        k6 (IntKind.i64.wrap (v5.fst + (1 : Int)), v5.2.fst ++ List.take (1 : Nat) (List.drop (0 : Nat) [v5.fst]), ()))
                              ((0 : Nat) = (0 : Nat) ∧ v5.2.fst.length = v5.2.fst.length ∧ k6 (IntKind.i64.wrap (v5.fst + (1 : Int)), v5.2.fst, ())))
                    ((0 : Nat) = (0 : Nat) ∧ v5.2.fst.length = v5.2.fst.length ∧ k4 (IntKind.i64.wrap (v3.fst + (1 : Int)), v5.2.fst, ())))
                ((0 : Int), v3.2.fst, PUnit.unit))
          (P (List.take v3.2.fst.length (List.drop (0 : Nat) v3.2.fst), (↑v3.2.fst.length : Int) == (↑ys.length : Int), ())))
      ((0 : Int), [], PUnit.unit)) = fnW tab (look []) s_indicesAmong Try.f69 (xs, ys, ()) P := by kernel_rfl
theorem w_implRestrict (a : List Int) (b : List (List Int)) (c : List Int) (d : List Int) (P : ((List Int × List (List Int) × List Int × Bool × Unit) × Unit) → Prop) : (∃ (y5 : Bool),
  s_wellFormed.fn ((a, b, c, ()), ()) = some y5 ∧
    Br (!y5) (P ((List.take (0 : Nat) (List.drop (0 : Nat) []), List.take (0 : Nat) (List.drop (0 : Nat) []), List.take (0 : Nat) (List.drop (0 : Nat) []), false, ()), ()))
      (∃ (y6 : Bool),
        s_pointList.fn ((20 : Int), d, ()) = some y6 ∧
          Br (!y6) (P ((List.take (0 : Nat) (List.drop (0 : Nat) []), List.take (0 : Nat) (List.drop (0 : Nat) []), List.take (0 : Nat) (List.drop (0 : Nat) []), false, ()), ()))
            ((0 : Nat) = (0 : Nat) ∧
              (0 : Nat) = ([] : List Int).length ∧
                (0 : Nat) = (0 : Nat) ∧
                  (0 : Nat) = ([] : List Int).length ∧
                    (0 : Nat) = (0 : Nat) ∧
                      (0 : Nat) = ([] : List Int).length ∧
                        (0 : Nat) = (0 : Nat) ∧
                          (0 : Nat) = ([] : List Int).length ∧
                            WLoop
                              (fun (v7 : Int × List Int × List (List Int) × List Int × List Int × List Int × List (List Int) × List Int × PUnit)
                                  (k8 : Int × List Int × List (List Int) × List Int × List Int × List Int × List (List Int) × List Int × PUnit → Prop) =>
                                Br (decide (v7.fst < (↑d.length : Int)))
                                  (∃ (y9 : Int),
                                    idx d v7.fst = some y9 ∧
                                      ∃ (y10 : Int),
                                        s_index.fn (v7.2.fst, y9, ()) = some y10 ∧
                                          Br (decide (y10 < (0 : Int)))
                                            (P
                                              ((List.take (0 : Nat) (List.drop (0 : Nat) []), List.take (0 : Nat) (List.drop (0 : Nat) []), List.take (0 : Nat) (List.drop (0 : Nat) []), false, ()),
                                                ()))
                                            ((0 : Nat) = (0 : Nat) ∧
                                              v7.snd.2.snd.2.fst.length = v7.snd.2.snd.2.fst.length ∧
                                                v7.snd.2.snd.2.fst.length + (List.take (1 : Nat) (List.drop (0 : Nat) [y10])).length ≤ maxRow ∧
                                                  (0 : Nat) = (0 : Nat) ∧
                                                    (v7.snd.2.snd.2.fst ++ List.take (1 : Nat) (List.drop (0 : Nat) [y10])).length =
                                                        (v7.snd.2.snd.2.fst ++ List.take (1 : Nat) (List.drop (0 : Nat) [y10])).length ∧
                                                      (0 : Nat) = (0 : Nat) ∧
                                                        v7.2.snd.2.snd.2.fst.length = v7.2.snd.2.snd.2.fst.length ∧
                                                          (0 : Nat) = (0 : Nat) ∧
                                                            v7.snd.2.snd.2.snd.2.fst.length = v7.snd.2.snd.2.snd.2.fst.length ∧
                                                              (0 : Nat) = (0 : Nat) ∧
                                                                v7.2.snd.2.snd.2.snd.2.fst.length = v7.2.snd.2.snd.2.snd.2.fst.length ∧
                                                                  k8
                                                                    (IntKind.i64.wrap (v7.fst + (1 : Int)), v7.2.fst, v7.snd.2.fst, v7.2.snd.2.fst,
                                                                      v7.snd.2.snd.2.fst ++ List.take (1 : Nat) (List.drop (0 : Nat) [y10]), v7.2.snd.2.snd.2.fst, v7.snd.2.snd.2.snd.2.fst,
                                                                      v7.2.snd.2.snd.2.snd.2.fst, ())))
                                  (∃ (y9 : (List Int × PUnit) × PUnit),
                                    s_cloneM.fn (d, ()) = some y9 ∧
                                      (0 : Nat) = (0 : Nat) ∧
                                        v7.snd.2.snd.2.fst.length = v7.snd.2.snd.2.fst.length ∧
                                          (0 : Nat) = (0 : Nat) ∧
                                            v7.2.snd.2.snd.2.fst.length = v7.2.snd.2.snd.2.fst.length ∧
                                              (0 : Nat) = (0 : Nat) ∧
                                                v7.snd.2.snd.2.snd.2.fst.length = v7.snd.2.snd.2.snd.2.fst.length ∧
                                                  (0 : Nat) = (0 : Nat) ∧
                                                    v7.2.snd.2.snd.2.snd.2.fst.length = v7.2.snd.2.snd.2.snd.2.fst.length ∧
                                                      (0 : Nat) = (0 : Nat) ∧
                                                        y9.1.fst.length = y9.1.fst.length ∧
                                                          (0 : Nat) = (0 : Nat) ∧
                                                            (0 : Nat) = ([] : List Int).length ∧
                                                              (0 : Nat) = (0 : Nat) ∧
                                                                (0 : Nat) = ([] : List Int).length ∧
                                                                  WLoop
                                                                    (fun
                                                                        (v10 :
                                                                          Int ×
                                                                            List Int ×
                                                                              List (List Int) ×
                                                                                List Int ×
                                                                                  List Int ×
                                                                                    (ByteArray → Option Int) × List Int × List (List Int) × List Int × List (List Int) × List Int × List Int × PUnit)
                                                                        (k11 :
                                                                          Int ×
                                                                              List Int ×
                                                                                List (List Int) ×
                                                                                  List Int ×
                                                                                    List Int ×
                                                                                      (ByteArray → Option Int) × List Int × List (List Int) × List Int × List (List Int) × List Int × List Int × PUnit →
                                                                            Prop) =>
                                                                      Br (decide (v10.fst < (↑v7.snd.2.fst.length : Int)))
                                                                        (∃ (y12 : List Int),
                                                                          idx v7.snd.2.fst v10.fst = some y12 ∧
                                                                            ∃ (y13 : (List Int × PUnit) × PUnit),
                                                                              s_pickedM.fn (y12, List.take v10.snd.2.snd.2.fst.length (List.drop (0 : Nat) v10.snd.2.snd.2.fst), ()) = some y13 ∧
                                                                                ∃ (y14 : ByteArray),
                                                                                  s_stateKey.fn (List.take y13.1.fst.length (List.drop (0 : Nat) y13.1.fst), ()) = some y14 ∧
                                                                                    Br (!(v10.snd.2.snd.2.snd.fst y14).isSome)
                                                                                      (∃ (y15 : ByteArray),
                                                                                        s_stateKey.fn (List.take y13.1.fst.length (List.drop (0 : Nat) y13.1.fst), ()) = some y15 ∧
                                                                                          (0 : Nat) = (0 : Nat) ∧
                                                                                            v10.2.snd.2.snd.2.snd.2.snd.2.fst.length = v10.2.snd.2.snd.2.snd.2.snd.2.fst.length ∧
                                                                                              v10.2.snd.2.snd.2.snd.2.snd.2.fst.length +
                                                                                                    (List.take (1 : Nat)
                                                                                                        (List.drop (0 : Nat) [List.take y13.1.fst.length (List.drop (0 : Nat) y13.1.fst)])).length ≤
                                                                                                  maxRow ∧
                                                                                                ∃ (y16 : Int),
                                                                                                  idx v10.2.snd.2.fst v10.fst = some y16 ∧
                                                                                                    (0 : Nat) = (0 : Nat) ∧
                                                                                                      v10.snd.2.snd.2.snd.2.snd.2.snd.2.fst.length = v10.snd.2.snd.2.snd.2.snd.2.snd.2.fst.length ∧
                                                                                                        v10.snd.2.snd.2.snd.2.snd.2.snd.2.fst.length + [y16].length ≤ maxRow ∧
                                                                                                          (0 : Nat) = (0 : Nat) ∧
                                                                                                            v10.snd.2.snd.2.fst.length = v10.snd.2.snd.2.fst.length ∧
                                                                                                              (0 : Nat) = (0 : Nat) ∧
                                                                                                                v10.snd.2.snd.2.snd.2.fst.length = v10.snd.2.snd.2.snd.2.fst.length ∧
                                                                                                                  (0 : Nat) = (0 : Nat) ∧
                                                                                                                    v10.2.snd.2.snd.2.snd.2.fst.length = v10.2.snd.2.snd.2.snd.2.fst.length ∧
                                                                                                                      (0 : Nat) = (0 : Nat) ∧
                                                                                                                        v10.snd.2.snd.2.snd.2.snd.2.fst.length =
                                                                                                                            v10.snd.2.snd.2.snd.2.snd.2.fst.length ∧
                                                                                                                          (0 : Nat) = (0 : Nat) ∧
                                                                                                                            v10.2.snd.2.snd.2.snd.2.snd.2.snd.2.fst.length =
                                                                                                                                v10.2.snd.2.snd.2.snd.2.snd.2.snd.2.fst.length ∧
                                                                                                                              (0 : Nat) = (0 : Nat) ∧
                                                                                                                                (v10.2.snd.2.snd.2.snd.2.snd.2.fst ++
                                                                                                                                        List.take (1 : Nat)
                                                                                                                                          (List.drop (0 : Nat)
                                                                                                                                            [List.take y13.1.fst.length
                                                                                                                                                (List.drop (0 : Nat) y13.1.fst)])).length =
                                                                                                                                    (v10.2.snd.2.snd.2.snd.2.snd.2.fst ++
                                                                                                                                        List.take (1 : Nat)
                                                                                                                                          (List.drop (0 : Nat)
                                                                                                                                            [List.take y13.1.fst.length
                                                                                                                                                (List.drop (0 : Nat) y13.1.fst)])).length ∧
                                                                                                                                  (0 : Nat) = (0 : Nat) ∧
                                                                                                                                    (v10.snd.2.snd.2.snd.2.snd.2.snd.2.fst ++ [y16]).length =
                                                                                                                                        (v10.snd.2.snd.2.snd.2.snd.2.snd.2.fst ++ [y16]).length ∧
                                                                                                                                      k11
                                                                                                                                        (IntKind.i64.wrap (v10.fst + (1 : Int)), v10.2.fst,
                                                                                                                                          v10.snd.2.fst, v10.2.snd.2.fst, v10.snd.2.snd.2.fst,
                                                                                                                                          upd1 v10.2.snd.2.snd.2.fst y15
                                                                                                                                            (↑v10.2.snd.2.snd.2.snd.2.snd.2.fst.length : Int),
                                                                                                                                          v10.snd.2.snd.2.snd.2.fst, v10.2.snd.2.snd.2.snd.2.fst,
                                                                                                                                          v10.snd.2.snd.2.snd.2.snd.2.fst,
                                                                                                                                          v10.2.snd.2.snd.2.snd.2.snd.2.fst ++
                                                                                                                                            List.take (1 : Nat)
                                                                                                                                              (List.drop (0 : Nat)
                                                                                                                                                [List.take y13.1.fst.length
                                                                                                                                                    (List.drop (0 : Nat) y13.1.fst)]),
                                                                                                                                          v10.snd.2.snd.2.snd.2.snd.2.snd.2.fst ++ [y16],
                                                                                                                                          v10.2.snd.2.snd.2.snd.2.snd.2.snd.2.fst, ()))
                                                                                      (((0 : Int) ≤ (v10.snd.2.snd.2.snd.fst y14).getD (Int.ofNat (nat_lit 0)) ∧
                                                                                          (v10.snd.2.snd.2.snd.fst y14).getD (Int.ofNat (nat_lit 0)) <
                                                                                            (↑v10.snd.2.snd.2.snd.2.snd.2.snd.2.fst.length : Int)) ∧
                                                                                        ∃ (y15 : Int),
                                                                                          v10.snd.2.snd.2.snd.2.snd.2.snd.2.fst[(0 : Nat) +
                                                                                                  ((v10.snd.2.snd.2.snd.fst y14).getD (Int.ofNat (nat_lit 0))).toNat]? =
                                                                                              some y15 ∧
                                                                                            ∃ (y16 : Int),
                                                                                              idx v10.2.snd.2.fst v10.fst = some y16 ∧
                                                                                                ((0 : Int) ≤ (v10.snd.2.snd.2.snd.fst y14).getD (Int.ofNat (nat_lit 0)) ∧
                                                                                                    (v10.snd.2.snd.2.snd.fst y14).getD (Int.ofNat (nat_lit 0)) <
                                                                                                      (↑v10.snd.2.snd.2.snd.2.snd.2.snd.2.fst.length : Int)) ∧
                                                                                                  (0 : Nat) + ((v10.snd.2.snd.2.snd.fst y14).getD (Int.ofNat (nat_lit 0))).toNat <
                                                                                                      v10.snd.2.snd.2.snd.2.snd.2.snd.2.fst.length ∧
                                                                                                    (0 : Nat) = (0 : Nat) ∧
                                                                                                      v10.snd.2.snd.2.fst.length = v10.snd.2.snd.2.fst.length ∧
                                                                                                        (0 : Nat) = (0 : Nat) ∧
                                                                                                          v10.snd.2.snd.2.snd.2.fst.length = v10.snd.2.snd.2.snd.2.fst.length ∧
                                                                                                            (0 : Nat) = (0 : Nat) ∧
                                                                                                              v10.2.snd.2.snd.2.snd.2.fst.length = v10.2.snd.2.snd.2.snd.2.fst.length ∧
                                                                                                                (0 : Nat) = (0 : Nat) ∧
                                                                                                                  v10.snd.2.snd.2.snd.2.snd.2.fst.length = v10.snd.2.snd.2.snd.2.snd.2.fst.length ∧
                                                                                                                    (0 : Nat) = (0 : Nat) ∧
                                                                                                                      v10.2.snd.2.snd.2.snd.2.snd.2.snd.2.fst.length =
                                                                                                                          v10.2.snd.2.snd.2.snd.2.snd.2.snd.2.fst.length ∧
                                                                                                                        (0 : Nat) = (0 : Nat) ∧
                                                                                                                          v10.2.snd.2.snd.2.snd.2.snd.2.fst.length =
                                                                                                                              v10.2.snd.2.snd.2.snd.2.snd.2.fst.length ∧
                                                                                                                            (0 : Nat) = (0 : Nat) ∧
                                                                                                                              v10.snd.2.snd.2.snd.2.snd.2.snd.2.fst.length =
                                                                                                                                  (v10.snd.2.snd.2.snd.2.snd.2.snd.2.fst.set
                                                                                                                                      ((0 : Nat) +
                                                                                                                                        ((v10.snd.2.snd.2.snd.fst y14).getD
                                                                                                                                            (Int.ofNat (nat_lit 0))).toNat)
                                                                                                                                      (if false = true then if y16 > y15 then y16 else y15
                                                                                                                                      else if y16 < y15 then y16 else y15)).length ∧
                                                                                                                                k11
                                                                                                                                  (IntKind.i64.wrap (v10.fst + (1 : Int)), v10.2.fst, v10.snd.2.fst,
                                                                                                                                    v10.2.snd.2.fst, v10.snd.2.snd.2.fst, v10.2.snd.2.snd.2.fst,
                                                                                                                                    v10.snd.2.snd.2.snd.2.fst, v10.2.snd.2.snd.2.snd.2.fst,
                                                                                                                                    v10.snd.2.snd.2.snd.2.snd.2.fst, v10.2.snd.2.snd.2.snd.2.snd.2.fst,
                                                                                                                                    v10.snd.2.snd.2.snd.2.snd.2.snd.2.fst.set
                                                                                                                                      ((0 : Nat) +
                                                                                                                                        ((v10.snd.2.snd.2.snd.fst y14).getD
                                                                                                                                            (Int.ofNat (nat_lit 0))).toNat)
                                                                                                                                      (if false = true then if y16 > y15 then y16 else y15
                                                                                                                                      else if y16 < y15 then y16 else y15),
                                                                                                                                    v10.2.snd.2.snd.2.snd.2.snd.2.snd.2.fst, ())))
                                                                        (P
                                                                          ((List.take v10.2.snd.2.snd.2.snd.2.snd.2.snd.2.fst.length (List.drop (0 : Nat) v10.2.snd.2.snd.2.snd.2.snd.2.snd.2.fst),
                                                                              List.take v10.2.snd.2.snd.2.snd.2.snd.2.fst.length (List.drop (0 : Nat) v10.2.snd.2.snd.2.snd.2.snd.2.fst),
                                                                              List.take v10.snd.2.snd.2.snd.2.snd.2.snd.2.fst.length (List.drop (0 : Nat) v10.snd.2.snd.2.snd.2.snd.2.snd.2.fst), true,
                                                                              ()),
                                                                            ())))
                                                                    ((0 : Int), v7.2.fst, v7.snd.2.fst, v7.2.snd.2.fst, v7.snd.2.snd.2.fst, fun (_ : ByteArray) => none, v7.2.snd.2.snd.2.fst,
                                                                      v7.snd.2.snd.2.snd.2.fst, v7.2.snd.2.snd.2.snd.2.fst, [], [], y9.1.fst, PUnit.unit)))
                              ((0 : Int), a, b, c, [], [], [], [], PUnit.unit)))) = fnMW tabT (look [(73, s_wellFormed), (74, s_pointList), (75, s_index), (76, s_cloneM), (77, s_pickedM), (78, s_stateKey)]) s_implRestrict Try.f27 (a, b, c, d, ()) P := by kernel_rfl
theorem w_specRestrict (t : List Int × List (List Int) × List Int × Unit) (d : List Int) (P : ((List Int × List (List Int) × List Int × Unit) × Bool × Unit) → Prop) : (∃ (y3 : Bool),
  s_wellFormed.fn ((t.fst, t.2.fst, t.snd.2.fst, ()), ()) = some y3 ∧
    Br (!y3) (P ((List.take (0 : Nat) (List.drop (0 : Nat) []), List.take (0 : Nat) (List.drop (0 : Nat) []), List.take (0 : Nat) (List.drop (0 : Nat) []), ()), false, ()))
      (∃ (y4 : Bool),
        s_pointList.fn ((20 : Int), d, ()) = some y4 ∧
          Br (!y4) (P ((List.take (0 : Nat) (List.drop (0 : Nat) []), List.take (0 : Nat) (List.drop (0 : Nat) []), List.take (0 : Nat) (List.drop (0 : Nat) []), ()), false, ()))
            (∃ (y5 : List Int × Bool × PUnit),
              s_indicesAmong.fn (t.fst, d, ()) = some y5 ∧
                Br (!y5.2.fst) (P ((List.take (0 : Nat) (List.drop (0 : Nat) []), List.take (0 : Nat) (List.drop (0 : Nat) []), List.take (0 : Nat) (List.drop (0 : Nat) []), ()), false, ()))
                  (∃ (y6 : List Int),
                    s_copyInts.fn (d, ()) = some y6 ∧
                      (0 : Nat) = (0 : Nat) ∧
                        (0 : Nat) = ([] : List Int).length ∧
                          (0 : Nat) = (0 : Nat) ∧
                            (0 : Nat) = ([] : List Int).length ∧
                              (0 : Nat) = (0 : Nat) ∧
                                (0 : Nat) = ([] : List Int).length ∧
                                  (0 : Nat) = (0 : Nat) ∧
                                    (0 : Nat) = ([] : List Int).length ∧
                                      (0 : Nat) = (0 : Nat) ∧
                                        (0 : Nat) = ([] : List Int).length ∧
                                          WLoop
                                            (fun (v7 : Int × List Int × List (List Int) × List Int × List Int × List Int × List (List Int) × List Int × List (List Int) × List Int × PUnit)
                                                (k8 : Int × List Int × List (List Int) × List Int × List Int × List Int × List (List Int) × List Int × List (List Int) × List Int × PUnit → Prop) =>
                                              Br (decide (v7.fst < (↑v7.snd.2.fst.length : Int)))
                                                (∃ (y9 : List Int),
                                                  idx v7.snd.2.fst v7.fst = some y9 ∧
                                                    ∃ (y10 : List Int),
                                                      s_project.fn (y5.fst, y9, ()) = some y10 ∧
                                                        ∃ (y11 : Int),
                                                          s_tabEntry.fn
                                                                ((v7.snd.2.snd.2.fst, List.take v7.snd.2.snd.2.snd.2.snd.2.fst.length (List.drop (0 : Nat) v7.snd.2.snd.2.snd.2.snd.2.fst),
                                                                    List.take v7.2.snd.2.snd.2.snd.2.snd.2.fst.length (List.drop (0 : Nat) v7.2.snd.2.snd.2.snd.2.snd.2.fst), ()),
                                                                  y10, ()) =
                                                              some y11 ∧
                                                            Br (decide (y11 < (0 : Int)))
                                                              ((0 : Nat) = (0 : Nat) ∧
                                                                v7.snd.2.snd.2.snd.2.snd.2.fst.length = v7.snd.2.snd.2.snd.2.snd.2.fst.length ∧
                                                                  v7.snd.2.snd.2.snd.2.snd.2.fst.length + (List.take (1 : Nat) (List.drop (0 : Nat) [y10])).length ≤ maxRow ∧
                                                                    ∃ (y12 : Int),
                                                                      idx v7.2.snd.2.fst v7.fst = some y12 ∧
                                                                        (0 : Nat) = (0 : Nat) ∧
                                                                          v7.2.snd.2.snd.2.snd.2.snd.2.fst.length = v7.2.snd.2.snd.2.snd.2.snd.2.fst.length ∧
                                                                            v7.2.snd.2.snd.2.snd.2.snd.2.fst.length + [y12].length ≤ maxRow ∧
                                                                              (0 : Nat) = (0 : Nat) ∧
                                                                                v7.2.snd.2.snd.2.fst.length = v7.2.snd.2.snd.2.fst.length ∧
                                                                                  (0 : Nat) = (0 : Nat) ∧
                                                                                    v7.snd.2.snd.2.snd.2.fst.length = v7.snd.2.snd.2.snd.2.fst.length ∧
                                                                                      (0 : Nat) = (0 : Nat) ∧
                                                                                        v7.2.snd.2.snd.2.snd.2.fst.length = v7.2.snd.2.snd.2.snd.2.fst.length ∧
                                                                                          (0 : Nat) = (0 : Nat) ∧
                                                                                            (v7.snd.2.snd.2.snd.2.snd.2.fst ++ List.take (1 : Nat) (List.drop (0 : Nat) [y10])).length =
                                                                                                (v7.snd.2.snd.2.snd.2.snd.2.fst ++ List.take (1 : Nat) (List.drop (0 : Nat) [y10])).length ∧
                                                                                              (0 : Nat) = (0 : Nat) ∧
                                                                                                (v7.2.snd.2.snd.2.snd.2.snd.2.fst ++ [y12]).length =
                                                                                                    (v7.2.snd.2.snd.2.snd.2.snd.2.fst ++ [y12]).length ∧
                                                                                                  k8
                                                                                                    (IntKind.i64.wrap (v7.fst + (1 : Int)), v7.2.fst, v7.snd.2.fst, v7.2.snd.2.fst, v7.snd.2.snd.2.fst,
                                                                                                      v7.2.snd.2.snd.2.fst, v7.snd.2.snd.2.snd.2.fst, v7.2.snd.2.snd.2.snd.2.fst,
                                                                                                      v7.snd.2.snd.2.snd.2.snd.2.fst ++ List.take (1 : Nat) (List.drop (0 : Nat) [y10]),
                                                                                                      v7.2.snd.2.snd.2.snd.2.snd.2.fst ++ [y12], ()))
                                                              (((0 : Int) ≤ y11 ∧ y11 < (↑v7.2.snd.2.snd.2.snd.2.snd.2.fst.length : Int)) ∧
                                                                ∃ (y12 : Int),
                                                                  v7.2.snd.2.snd.2.snd.2.snd.2.fst[(0 : Nat) + y11.toNat]? = some y12 ∧
                                                                    ∃ (y13 : Int),
                                                                      idx v7.2.snd.2.fst v7.fst = some y13 ∧
                                                                        ((0 : Int) ≤ y11 ∧ y11 < (↑v7.2.snd.2.snd.2.snd.2.snd.2.fst.length : Int)) ∧
                                                                          (0 : Nat) + y11.toNat < v7.2.snd.2.snd.2.snd.2.snd.2.fst.length ∧
                                                                            (0 : Nat) = (0 : Nat) ∧
                                                                              v7.2.snd.2.snd.2.fst.length = v7.2.snd.2.snd.2.fst.length ∧
                                                                                (0 : Nat) = (0 : Nat) ∧
                                                                                  v7.snd.2.snd.2.snd.2.fst.length = v7.snd.2.snd.2.snd.2.fst.length ∧
                                                                                    (0 : Nat) = (0 : Nat) ∧
                                                                                      v7.2.snd.2.snd.2.snd.2.fst.length = v7.2.snd.2.snd.2.snd.2.fst.length ∧
                                                                                        (0 : Nat) = (0 : Nat) ∧
                                                                                          v7.snd.2.snd.2.snd.2.snd.2.fst.length = v7.snd.2.snd.2.snd.2.snd.2.fst.length ∧
                                                                                            (0 : Nat) = (0 : Nat) ∧
                                                                                              v7.2.snd.2.snd.2.snd.2.snd.2.fst.length =
                                                                                                  (v7.2.snd.2.snd.2.snd.2.snd.2.fst.set ((0 : Nat) + y11.toNat)
                                                                                                      (if false = true then if y13 > y12 then y13 else y12
                                                                                                      else if y13 < y12 then y13 else y12)).length ∧
                                                                                                k8
                                                                                                  (IntKind.i64.wrap (v7.fst + (1 : Int)), v7.2.fst, v7.snd.2.fst, v7.2.snd.2.fst, v7.snd.2.snd.2.fst,
                                                                                                    v7.2.snd.2.snd.2.fst, v7.snd.2.snd.2.snd.2.fst, v7.2.snd.2.snd.2.snd.2.fst,
                                                                                                    v7.snd.2.snd.2.snd.2.snd.2.fst,
                                                                                                    v7.2.snd.2.snd.2.snd.2.snd.2.fst.set ((0 : Nat) + y11.toNat)
                                                                                                      (if false = true then if y13 > y12 then y13 else y12 else if y13 < y12 then y13 else y12),
                                                                                                    ())))
                                                (P
                                                  ((v7.snd.2.snd.2.fst, List.take v7.snd.2.snd.2.snd.2.snd.2.fst.length (List.drop (0 : Nat) v7.snd.2.snd.2.snd.2.snd.2.fst),
                                                      List.take v7.2.snd.2.snd.2.snd.2.snd.2.fst.length (List.drop (0 : Nat) v7.2.snd.2.snd.2.snd.2.snd.2.fst), ()),
                                                    true, ())))
                                            ((0 : Int), t.fst, t.2.fst, t.snd.2.fst, y6, [], [], [], [], [], PUnit.unit))))) = fnW tab (look [(67, s_wellFormed), (68, s_pointList), (69, s_indicesAmong), (70, s_copyInts), (71, s_project), (72, s_tabEntry)]) s_specRestrict Try.f24 (t, d, ()) P := by kernel_rfl
theorem pick_len (xs is : List Int) : (m_picked xs is).length = is.length := by simp [m_picked]
theorem one_row {α : Type} (y : α) : List.take 1 (List.drop 0 [y]) = [y] := rfl
theorem p_pickedM (xs is : List Int) (h : short is ∧ inRow xs.length is) : fnMW tabT (look []) s_pickedM Try.f77 (xs, is, ()) (fun (z : (List Int × Unit) × Unit) => z = ((m_picked xs is, ()), ())) := by
  obtain ⟨h, hr⟩ := h
  unfold short at h
  refine Eq.mp (w_pickedM xs is _) ?_
  refine ⟨⟨by omega, by show (is.length : Int) < (4294967296 : Int) + 1; omega⟩, rfl, rfl, rfl, ?_⟩
  have hcl := pick_len xs is
  refine loop_range is.length (fun v => v.1) (fun j v => v.2.1.length = (m_picked xs is).length ∧ v.2.1.take j = (m_picked xs is).take j) rfl ⟨by rw [hcl]; simp, by simp⟩ ?_
  rintro j ⟨i, ys, ⟨⟩⟩ K hj hi ⟨h1, h2⟩ hK
  dsimp only at hi h1 h2 ⊢
  subst hi
  refine Br.dec (fun hl => ?_) fun hl => ?_
  · have hl : j < is.length := by omega
    have hy := hr _ (List.getElem_mem hl)
    refine ⟨_, idx_nat hl, _, idx_gets hy.1 hy.2, ⟨by omega, by omega⟩, by rw [Int.toNat_natCast]; omega, rfl, by rw [List.length_set], ?_⟩
    rw [wrap_nat (by omega), Int.toNat_natCast, Nat.zero_add]
    have hl' : j < (m_picked xs is).length := by rw [hcl]; exact hl
    have e : gets xs is[j] = (m_picked xs is)[j] := by simp [m_picked]
    rw [e]
    exact hK hl _ rfl ⟨by rw [List.length_set]; exact h1, take_set_succ hl' h1 h2⟩
  · have : j = is.length := by omega
    subst this
    rw [← hcl, List.take_length, ← h1, List.take_length] at h2
    rw [List.drop_zero, List.take_length, h2]
theorem sound_pickedM : MSound Try.prog 77 s_pickedM :=
  MSound.mkM tabTOK envNil mixed Try.func77 (by kernel_rfl) (by kernel_rfl) fun x h => p_pickedM x.1 x.2.1 h
theorem p_project (is xs : List Int) (h : short is ∧ inRow xs.length is) : fnW tab (look []) s_project Try.f71 (is, xs, ()) (fun (z : List Int) => z = m_picked xs is) := by
  obtain ⟨h, hr⟩ := h
  unfold short at h
  refine Eq.mp (w_project is xs _) ⟨rfl, rfl, ?_⟩
  have hcl := pick_len xs is
  refine loop_range is.length (fun v => v.1) (fun j v => v.2.1 = (m_picked xs is).take j) rfl rfl ?_
  rintro j ⟨i, ys, ⟨⟩⟩ K hj hi h1 hK
  dsimp only at hi h1 ⊢
  subst hi
  refine Br.dec (fun hl => ?_) fun hl => ?_
  · have hl : j < is.length := by omega
    have hy := hr _ (List.getElem_mem hl)
    have hl' : j < (m_picked xs is).length := by rw [hcl]; exact hl
    refine ⟨_, idx_nat hl, _, idx_gets hy.1 hy.2, rfl, rfl, ?_, rfl, rfl, ?_⟩
    · show ys.length + 1 ≤ 4294967296
      rw [h1, List.length_take]; omega
    · rw [wrap_nat (by omega), one_row]
      refine hK hl _ rfl ?_
      dsimp only
      rw [h1, List.take_succ_eq_append_getElem hl']
      simp [m_picked]
  · have : j = is.length := by omega
    subst this
    rw [whole_row, h1, ← hcl, List.take_length]
theorem sound_project : Sound Try.prog 71 s_project :=
  Sound.mkS tabOK envNil mixed Try.func71 (by kernel_rfl) (by kernel_rfl) fun x h => p_project x.1 x.2.1 h
theorem p_stateKey (xs : List Int) (h : short xs) : fnW tab (look []) s_stateKey Try.f78 (xs, ()) (fun (z : ByteArray) => z = m_key xs) := by
  unfold short at h
  refine Eq.mp (w_stateKey xs _) ?_
  refine ⟨⟨by omega, by show (xs.length : Int) < (4294967296 : Int) + 1; omega⟩, rfl, rfl, rfl, ?_⟩
  have hcl : (xs.map fun x => IntKind.u8.wrap x).length = xs.length := by simp
  refine loop_range xs.length (fun v => v.1) (fun j v => v.2.1.length = (xs.map fun x => IntKind.u8.wrap x).length ∧ v.2.1.take j = (xs.map fun x => IntKind.u8.wrap x).take j) rfl ⟨by rw [hcl]; simp, by simp⟩ ?_
  rintro j ⟨i, ys, ⟨⟩⟩ K hj hi ⟨h1, h2⟩ hK
  dsimp only at hi h1 h2 ⊢
  subst hi
  refine Br.dec (fun hl => ?_) fun hl => ?_
  · have hl : j < xs.length := by omega
    refine ⟨_, idx_nat hl, ⟨by omega, by omega⟩, by rw [Int.toNat_natCast]; omega, rfl, by rw [List.length_set], ?_⟩
    rw [wrap_nat (by omega), Int.toNat_natCast, Nat.zero_add]
    have hl' : j < (xs.map fun x => IntKind.u8.wrap x).length := by rw [hcl]; exact hl
    have e : IntKind.u8.wrap xs[j] = (xs.map fun x => IntKind.u8.wrap x)[j] := by simp
    rw [e]
    exact hK hl _ rfl ⟨by rw [List.length_set]; exact h1, take_set_succ hl' h1 h2⟩
  · have : j = xs.length := by omega
    subst this
    rw [← hcl, List.take_length, ← h1, List.take_length] at h2
    rw [List.drop_zero, List.take_length, h2]; rfl
theorem sound_stateKey : Sound Try.prog 78 s_stateKey :=
  Sound.mkS tabOK envNil mixed Try.func78 (by kernel_rfl) (by kernel_rfl) fun x h => p_stateKey x.1 h
theorem m_index_at {xs : List Int} {j : Nat} (hj : j < xs.length) (hn : xs[j] ∉ xs.take j) : m_index xs xs[j] 0 = j := by
  obtain ⟨k, h1, h2, h3⟩ := m_index_spec xs xs[j] 0 (List.getElem_mem hj)
  rw [h1]
  rcases Nat.lt_trichotomy k j with h | h | h
  · refine absurd ?_ hn
    have : (xs.take j)[k]? = some xs[j] := by rw [List.getElem?_take_of_lt h]; exact h2
    exact List.mem_of_getElem? this
  · omega
  · exact absurd (List.getElem?_eq_getElem hj) (h3 j h)
theorem pl_lt {n : Int} {xs : List Int} (h : PL n xs xs.length) : ∀ (d i : Nat) (hj : i + d + 1 < xs.length), xs[i] < xs[i + d + 1]
  | 0, i, hj => by
    have := (h (i + 1) hj hj).2.2 (by omega)
    simpa using this
  | d + 1, i, hj => by
    have h1 := pl_lt h d i (by omega)
    have h2 := (h (i + (d + 1) + 1) hj hj).2.2 (by omega)
    have h3 : xs[i + (d + 1) + 1 - 1] = xs[i + d + 1] := by congr 1
    omega
theorem pl_fresh {n : Int} {xs : List Int} (h : PL n xs xs.length) {j : Nat} (hj : j < xs.length) : xs[j] ∉ xs.take j := by
  intro hm
  obtain ⟨i, hi, he⟩ := List.getElem_of_mem hm
  rw [List.length_take] at hi
  rw [List.getElem_take] at he
  have := pl_lt h (j - i - 1) i (by omega)
  have h3 : xs[i + (j - i - 1) + 1] = xs[j] := by congr 1; omega
  omega
theorem pl_len20 {xs : List Int} (h : m_pointList 20 xs = true) : xs.length ≤ 20 := by
  obtain ⟨h0, h1⟩ := dec_iff.1 h
  have h2 := pl_len h1 (xs.length - 1) (by omega)
  have h3 := (h1 (xs.length - 1) (by omega) (by omega)).2.1
  omega
theorem p_indicesAmong (xs ys : List Int) (h : m_pointList 20 xs = true ∧ short xs ∧ m_pointList 20 ys = true ∧ short ys) : fnW tab (look []) s_indicesAmong Try.f69 (xs, ys, ()) (fun (z : List Int × Bool × Unit) => z = (m_among xs ys, dec (∀ y ∈ ys, y ∈ xs), ())) := by
  obtain ⟨h, _, hy, _⟩ := h
  have hxl := pl_len20 h
  have hyl := pl_len20 hy
  have hpl := (dec_iff.1 h).2
  refine Eq.mp (w_indicesAmong xs ys _) ⟨rfl, rfl, ?_⟩
  refine loop_range ys.length (fun v => v.1) (fun j v => v.2.1 = m_among xs (ys.take j)) rfl rfl ?_
  rintro j ⟨i, out, ⟨⟩⟩ K hj hi h1 hK
  dsimp only at hi h1 ⊢
  subst hi
  refine Br.dec (fun hl => ?_) fun hl => ?_
  · have hl : j < ys.length := by omega
    refine ⟨rfl, rfl, ?_⟩
    have hol : out.length ≤ 20 := by
      rw [h1]
      have := List.length_filter_le (fun y => decide (y ∈ xs)) (ys.take j)
      simp only [m_among, m_at, List.length_map]
      rw [List.length_take] at this
      omega
    refine loop_range xs.length (fun v => v.1) (fun k v => v.2.1 = out ++ if ys[j] ∈ xs.take k then [m_index xs ys[j] 0] else []) rfl (by simp) ?_
    rintro k ⟨i, o2, ⟨⟩⟩ K2 hk hi h2 hK2
    dsimp only at hi h2 ⊢
    subst hi
    refine Br.dec (fun hl2 => ?_) fun hl2 => ?_
    · have hl2 : k < xs.length := by omega
      have hf := pl_fresh hpl hl2
      refine ⟨_, idx_nat hl2, _, idx_nat hl, ⟨fun he => ?_, fun he => ?_⟩⟩
      · have he : ys[j] = xs[k] := by first | exact beq_iff_eq.1 he | exact (beq_iff_eq.1 he).symm
        rw [he, if_neg hf, List.append_nil] at h2
        refine ⟨rfl, rfl, by show o2.length + 1 ≤ 4294967296; rw [h2]; omega, rfl, rfl, ?_⟩
        rw [wrap_nat (by omega), one_row]
        refine hK2 hl2 _ rfl ?_
        dsimp only
        rw [he, m_index_at hl2 hf, h2, if_pos (by rw [List.take_succ_eq_append_getElem hl2]; exact List.mem_append.2 (.inr (List.mem_singleton.2 rfl)))]
      · have he : ys[j] ≠ xs[k] := by first | exact (beq_eq_false_iff_ne.1 he) | exact (beq_eq_false_iff_ne.1 he).symm
        refine ⟨rfl, rfl, ?_⟩
        rw [wrap_nat (by omega)]
        refine hK2 hl2 _ rfl ?_
        dsimp only
        rw [h2, List.take_succ_eq_append_getElem hl2]
        simp only [List.mem_append, List.mem_singleton, he, or_false]
    · have : k = xs.length := by omega
      subst this
      refine ⟨rfl, rfl, ?_⟩
      rw [wrap_nat (by omega)]
      refine hK hl _ rfl ?_
      dsimp only
      rw [h2, h1, List.take_length, List.take_succ_eq_append_getElem hl]
      simp only [m_among, m_at, List.filter_append, List.map_append]
      congr 1
      by_cases e : ys[j] ∈ xs <;> simp [e]
  · have : j = ys.length := by omega
    subst this
    rw [List.take_length] at h1
    subst h1
    rw [whole_row]
    have : (((m_among xs ys).length : Int) == (ys.length : Int)) = dec (∀ y ∈ ys, y ∈ xs) := by
      refine beq_dec ?_
      have := @List.length_filter_eq_length_iff _ (fun y => decide (y ∈ xs)) ys
      simp only [decide_eq_true_eq] at this
      rw [← this]
      simp only [m_among, m_at, List.length_map]
      omega
    rw [this]
theorem sound_indicesAmong : Sound Try.prog 69 s_indicesAmong :=
  Sound.mkS tabOK envNil mixed Try.func69 (by kernel_rfl) (by kernel_rfl) fun x h => p_indicesAmong x.1 x.2.1 h
theorem m_indexF_append {α : Type} (P : α → Bool) (y : α) : ∀ (l : List α) (i : Int), 0 ≤ i → m_indexF P (l ++ [y]) i = if m_indexF P l i < 0 then (if P y = true then i + l.length else -1) else m_indexF P l i
  | [], i, _ => by simp [m_indexF]
  | x :: r, i, h => by
    simp only [List.cons_append, m_indexF, List.length_cons]
    split
    · rw [if_neg (by omega)]
    · rw [m_indexF_append P y r (i + 1) (by omega), show i + 1 + (r.length : Int) = i + ((r.length + 1 : Nat) : Int) by push_cast; omega]
theorem posIn_append (ps : List (List Int)) (q p : List Int) : posIn (ps ++ [q]) p = if posIn ps p < 0 then (if q = p then (ps.length : Int) else -1) else posIn ps p := by
  unfold posIn
  rw [m_indexF_append _ _ _ _ (Int.le_refl 0)]
  simp only [decide_eq_true_eq, Int.zero_add]
theorem posIn_lt (ps : List (List Int)) (p : List Int) : posIn ps p < ps.length := by
  have := m_indexF_lt (fun q => decide (q = p)) ps 0 (Int.le_refl 0)
  unfold posIn
  omega
theorem m_rs_succ (is : List Int) (t : TT) (k : Nat) : m_rs is t (k + 1) = m_add (m_rs is t k) (m_picked (t.2.1.getD k []) is) (t.2.2.1.getD k 0) := by simp [m_rs, List.range_succ]
theorem m_rs_facts (is : List Int) (t : TT) : ∀ k, (m_rs is t k).1.length = (m_rs is t k).2.length ∧ (m_rs is t k).1.length ≤ k ∧ ∀ p ∈ (m_rs is t k).1, p.length = is.length
  | 0 => ⟨rfl, Nat.le_refl _, fun p hp => by cases hp⟩
  | k + 1 => by
    obtain ⟨h1, h2, h3⟩ := m_rs_facts is t k
    rw [m_rs_succ]
    unfold m_add
    split
    · refine ⟨by simp [h1], by simp; omega, fun p hp => ?_⟩
      rcases List.mem_append.1 hp with hp | hp
      · exact h3 p hp
      · rw [List.mem_singleton.1 hp, pick_len]
    · exact ⟨by simp [h1], by simp; omega, h3⟩
/-- Entries that fit a byte. -/
def byteL (p : List Int) : Prop := ∀ x ∈ p, 0 ≤ x ∧ x < 256
theorem byte_inj {x y : Int} (hx : 0 ≤ x ∧ x < 256) (hy : 0 ≤ y ∧ y < 256) (h : UInt8.ofNat (IntKind.u8.wrap x).toNat = UInt8.ofNat (IntKind.u8.wrap y).toNat) : x = y := by
  have h := congrArg UInt8.toNat h
  simp only [IntKind.wrap_u8, UInt8.toNat_ofNat'] at h
  omega
theorem bytes_inj : ∀ (p q : List Int), byteL p → byteL q → (p.map fun x => UInt8.ofNat (IntKind.u8.wrap x).toNat) = (q.map fun x => UInt8.ofNat (IntKind.u8.wrap x).toNat) → p = q
  | [], [], _, _, _ => rfl
  | [], _ :: _, _, _, h => by simp at h
  | _ :: _, [], _, _, h => by simp at h
  | x :: p, y :: q, hp, hq, h => by
    simp only [List.map_cons, List.cons.injEq] at h
    rw [byte_inj (hp x (by simp)) (hq y (by simp)) h.1, bytes_inj p q (fun z hz => hp z (by simp [hz])) (fun z hz => hq z (by simp [hz])) h.2]
theorem key_inj {p q : List Int} (hp : byteL p) (hq : byteL q) (h : m_key p = m_key q) : p = q := by
  refine bytes_inj p q hp hq ?_
  simp only [m_key, bytesOf, ByteArray.mk.injEq, List.map_map] at h
  have h := congrArg Array.toList h
  simpa [Function.comp_def] using h
/-- The index holds each pattern's place. -/
def KM (m : ByteArray → Option Int) (ps : List (List Int)) : Prop := ∀ p, byteL p → m (m_key p) = if posIn ps p < 0 then none else some (posIn ps p)
theorem KM.nil : KM (fun _ => none) [] := fun p _ => by
  rw [if_pos (by unfold posIn; simp [m_indexF])]
theorem KM.add {m : ByteArray → Option Int} {ps : List (List Int)} {q : List Int} (h : KM m ps) (hq : byteL q) (hn : posIn ps q < 0) : KM (upd1 m (m_key q) (ps.length : Int)) (ps ++ [q]) := by
  intro p hp
  rw [posIn_append]
  unfold upd1
  by_cases e : p = q
  · subst e
    rw [if_pos rfl, if_pos hn, if_pos rfl, if_neg (by omega)]
  · rw [if_neg (fun hk => e (key_inj hp hq hk)), h p hp]
    have e' : ¬ q = p := fun h => e h.symm
    rw [if_neg e']
    by_cases hpn : posIn ps p < 0
    · rw [if_pos hpn, if_pos hpn, if_pos (by decide)]
    · rw [if_neg hpn, if_neg hpn, if_neg hpn]
theorem at_row {xs ys : List Int} (h : ∀ y ∈ ys, y ∈ xs) : inRow xs.length (m_at xs ys) := by
  intro y hy
  obtain ⟨z, hz, rfl⟩ := List.mem_map.1 hy
  obtain ⟨j, h1, h2, _⟩ := m_index_spec xs z 0 (h z hz)
  have := (List.getElem?_eq_some_iff.1 h2).1
  rw [h1]
  exact ⟨by omega, by omega⟩
theorem pick_byte {xs is : List Int} (h : ∀ x ∈ xs, 0 ≤ x ∧ x ≤ 19) (hr : inRow xs.length is) : byteL (m_picked xs is) := by
  intro y hy
  obtain ⟨i, hi, rfl⟩ := List.mem_map.1 hy
  have hi := hr i hi
  have e : i = (i.toNat : Int) := by omega
  rw [e, gets_nat (by omega)]
  have := h _ (List.getElem_mem (by omega : i.toNat < xs.length))
  omega
theorem dl_entries {xs : List Int} {m : Int} (h : m_distinct 20 xs m = true) : (xs.length : Int) = m ∧ ∀ x ∈ xs, 0 ≤ x ∧ x ≤ 19 := by
  obtain ⟨h1, h2⟩ := dec_iff.1 h
  refine ⟨h1, fun x hx => ?_⟩
  obtain ⟨j, hj, rfl⟩ := List.getElem_of_mem hx
  have := h2 j hj hj
  omega
theorem getD_at {α : Type} {xs : List α} {j : Nat} (h : j < xs.length) (d : α) : xs.getD j d = xs[j] := by
  rw [List.getD_eq_getElem?_getD, List.getElem?_eq_getElem h]; rfl
theorem rs_add_new {s : RS} {p : List Int} {d : Int} (h : posIn s.1 p < 0) : m_add s p d = (s.1 ++ [p], s.2 ++ [d]) := if_pos h
theorem rs_add_old {s : RS} {p : List Int} {d : Int} (h : ¬ posIn s.1 p < 0) (hl : s.1.length = s.2.length) :
    ∃ (k : Nat) (hk : k < s.2.length), posIn s.1 p = k ∧ m_add s p d = (s.1, s.2.set k (if d < s.2[k] then d else s.2[k])) := by
  have h1 := posIn_lt s.1 p
  have hk : (posIn s.1 p).toNat < s.2.length := by omega
  refine ⟨_, hk, by omega, ?_⟩
  unfold m_add
  rw [if_neg h, getD_at hk]
theorem p_implRestrict (a : List Int) (b : List (List Int)) (c : List Int) (d : List Int) (h : shortT (a, b, c, ()) ∧ short d) :
    fnMW tabT (look [(73, s_wellFormed), (74, s_pointList), (75, s_index), (76, s_cloneM), (77, s_pickedM), (78, s_stateKey)]) s_implRestrict Try.f27 (a, b, c, d, ()) (fun (z : (List Int × List (List Int) × List Int × Bool × Unit) × Unit) => z = (((m_restrict (a, b, c, ()) d).1.1, (m_restrict (a, b, c, ()) d).1.2.1, (m_restrict (a, b, c, ()) d).1.2.2.1, (m_restrict (a, b, c, ()) d).2.1, ()), ())) := by
  obtain ⟨h, hd⟩ := h
  refine Eq.mp (w_implRestrict a b c d _) ⟨_, if_pos h, ⟨fun hn => ?_, fun hn => ?_⟩⟩
  · have hn : ¬ m_wellFormed (a, b, c, ()) = true := bnot_true hn
    have hr : m_restrict (a, b, c, ()) d = (([], [], [], ()), false, ()) := if_neg fun e => hn (dec_iff.1 e).1
    rw [hr]; rfl
  have hwf : m_wellFormed (a, b, c, ()) = true := bnot_false hn
  refine ⟨_, if_pos ⟨nOK20, hd⟩, ⟨fun hn => ?_, fun hn => ?_⟩⟩
  · have hn : ¬ m_pointList 20 d = true := bnot_true hn
    have hr : m_restrict (a, b, c, ()) d = (([], [], [], ()), false, ()) := if_neg fun e => hn (dec_iff.1 e).2.1
    rw [hr]; rfl
  have hpl : m_pointList 20 d = true := bnot_false hn
  have hdl := pl_len20 hpl
  obtain ⟨w1, w2, w3, w4⟩ := dec_iff.1 hwf
  dsimp only at w1 w2 w3 w4
  refine ⟨rfl, rfl, rfl, rfl, rfl, rfl, rfl, rfl, ?_⟩
  refine loop_range d.length (fun v => v.1) (fun j v => a = v.2.1 ∧ b = v.2.2.1 ∧ c = v.2.2.2.1 ∧ v.2.2.2.2.1 = m_at a (d.take j) ∧ ∀ y ∈ d.take j, y ∈ a) rfl ⟨rfl, rfl, rfl, rfl, by simp⟩ ?_
  rintro j ⟨i, a', b', c', ind, e1, e2, e3, ⟨⟩⟩ K hj hi ⟨r1, r2, r3, r4, r5⟩ hK
  dsimp only at hi r1 r2 r3 r4 r5 ⊢
  subst hi r1 r2 r3
  refine Br.dec (fun hl => ?_) fun hl => ?_
  · have hl : j < d.length := by omega
    refine ⟨_, idx_nat hl, _, if_pos h.1, Br.dec (fun hneg => ?_) fun hneg => ?_⟩
    · have hneg : d[j] ∉ a := (m_index_neg a d[j] 0 (Int.le_refl 0)).1 hneg
      have hr : m_restrict (a, b, c, ()) d = (([], [], [], ()), false, ()) := if_neg fun e => hneg ((dec_iff.1 e).2.2 _ (List.getElem_mem hl))
      rw [hr]; rfl
    · have hin : d[j] ∈ a := Classical.not_not.1 fun hno => hneg ((m_index_neg a d[j] 0 (Int.le_refl 0)).2 hno)
      refine ⟨rfl, rfl, ?_, rfl, rfl, rfl, rfl, rfl, rfl, rfl, rfl, ?_⟩
      · show ind.length + 1 ≤ 4294967296
        rw [r4]; simp only [m_at, List.length_map, List.length_take]; omega
      · rw [wrap_nat (by omega), one_row]
        refine hK hl _ rfl ⟨rfl, rfl, rfl, ?_, ?_⟩
        · dsimp only
          rw [r4, List.take_succ_eq_append_getElem hl]
          simp only [m_at, List.map_append, List.map_cons, List.map_nil]
        · intro y hy
          rw [List.take_succ_eq_append_getElem hl] at hy
          rcases List.mem_append.1 hy with hy | hy
          · exact r5 y hy
          · rw [List.mem_singleton.1 hy]; exact hin
  have hjd : j = d.length := by omega
  subst hjd
  rw [List.take_length] at r4 r5
  have hok : m_rok (a, b, c, ()) d = true := dec_iff.2 ⟨hwf, hpl, r5⟩
  have hres : m_restrict (a, b, c, ()) d = ((d, (m_rs (m_at a d) (a, b, c, ()) b.length).1, (m_rs (m_at a d) (a, b, c, ()) b.length).2, ()), true, ()) := if_pos hok
  have hrow := at_row r5
  have hil : (m_at a d).length = d.length := by simp [m_at]
  subst r4
  refine ⟨_, if_pos hd, rfl, rfl, rfl, rfl, rfl, rfl, rfl, rfl, rfl, rfl, rfl, rfl, rfl, rfl, ?_⟩
  refine loop_range b.length (fun v => v.1) (fun j v => a = v.2.1 ∧ b = v.2.2.1 ∧ c = v.2.2.2.1 ∧ m_at a d = v.2.2.2.2.1 ∧ KM v.2.2.2.2.2.1 (m_rs (m_at a d) (a, b, c, ()) j).1 ∧ v.2.2.2.2.2.2.2.2.2.1 = (m_rs (m_at a d) (a, b, c, ()) j).1 ∧ v.2.2.2.2.2.2.2.2.2.2.1 = (m_rs (m_at a d) (a, b, c, ()) j).2 ∧ d = v.2.2.2.2.2.2.2.2.2.2.2.1) rfl ⟨rfl, rfl, rfl, rfl, KM.nil, rfl, rfl, rfl⟩ ?_
  rintro j ⟨i, a', b', c', ind, m, e6, e7, e8, ps, ds, cl, ⟨⟩⟩ K hj hi ⟨q1, q2, q3, q4, q5, q6, q7, q8⟩ hK
  dsimp only at hi q1 q2 q3 q4 q5 q6 q7 q8 ⊢
  subst hi q1 q2 q3 q4 q8
  obtain ⟨f1, f2, f3⟩ := m_rs_facts (m_at a d) (a, b, c, ()) j
  have fsucc := m_rs_succ (m_at a d) (a, b, c, ()) j
  refine Br.dec (fun hl => ?_) fun hl => ?_
  · have hl : j < b.length := by omega
    have hlc : j < c.length := by omega
    have hdj := dl_entries (w4 j hl hlc).1
    have hrj : inRow b[j].length (m_at a d) := by
      have : b[j].length = a.length := by omega
      rw [this]; exact hrow
    dsimp only at fsucc
    rw [getD_at hl, getD_at hlc] at fsucc
    have hown := pick_len b[j] (m_at a d)
    have hbyte := pick_byte hdj.2 hrj
    refine ⟨_, idx_nat hl, ?_⟩
    simp only [whole_row]
    refine ⟨_, if_pos ⟨by show (m_at a d).length ≤ 4294967296; omega, hrj⟩, ?_⟩
    dsimp only
    generalize m_picked b[j] (m_at a d) = own at *
    have hso : short own := by unfold short; omega
    have hkey := q5 own hbyte
    have hsj : m_rs (m_at a d) (a, b, c, ()) j = (ps, ds) := Prod.ext q6.symm q7.symm
    rw [hsj] at fsucc f1 f2 f3 hkey q5
    dsimp only at f1 f2 f3 hkey q5
    refine ⟨_, if_pos hso, ?_⟩
    dsimp only
    by_cases hp : posIn ps own < 0
    · rw [if_pos hp] at hkey
      rw [rs_add_new hp] at fsucc
      refine ⟨fun _ => ?_, fun hy => by rw [hkey] at hy; simp at hy⟩
      refine ⟨_, if_pos hso, trivial, trivial, ?_, _, idx_nat hlc, trivial, trivial, ?_, trivial, trivial, trivial, trivial, trivial, trivial, trivial, trivial, trivial, trivial, trivial, trivial, trivial, trivial, ?_⟩
      · show ps.length + 1 ≤ 4294967296; omega
      · show ds.length + 1 ≤ 4294967296; omega
      · rw [wrap_nat (by omega)]
        refine hK hl _ rfl ⟨rfl, rfl, rfl, rfl, ?_, ?_, ?_, rfl⟩
        · rw [fsucc]; exact KM.add q5 hbyte hp
        · rw [fsucc]; rfl
        · rw [fsucc]
    · rw [if_neg hp] at hkey
      obtain ⟨k, hk, hpk, hadd⟩ := rs_add_old (s := (ps, ds)) (p := own) (d := c[j]) hp f1
      dsimp only at hk hpk hadd
      rw [hadd] at fsucc
      rw [hpk] at hkey
      refine ⟨fun hy => by rw [hkey] at hy; simp at hy, fun _ => ?_⟩
      rw [hkey]
      simp only [Option.getD_some, Int.toNat_natCast, Nat.zero_add]
      refine ⟨⟨by omega, by omega⟩, _, List.getElem?_eq_getElem hk, _, idx_nat hlc, ⟨by omega, by omega⟩, hk, ?_⟩
      simp only [List.length_set, true_and]
      rw [wrap_nat (by omega)]
      refine hK hl _ rfl ⟨rfl, rfl, rfl, rfl, ?_, ?_, ?_, rfl⟩
      · rw [fsucc]; exact q5
      · rw [fsucc]
      · rw [fsucc]; simp
  · have hjb : j = b.length := by omega
    subst hjb
    rw [hres]
    simp only [whole_row, q6, q7]
theorem sound_implRestrict : MSound Try.prog 27 s_implRestrict :=
  MSound.mkM tabTOK (envCons sound_implWellFormed (envCons sound_isTracked (envCons sound_index (envConsM sound_cloneM (envConsM sound_pickedM (envCons sound_stateKey envNil)))))) mixed Try.func27 (by kernel_rfl) (by kernel_rfl) fun x h => p_implRestrict x.1 x.2.1 x.2.2.1 x.2.2.2.1 h
theorem p_specRestrict (t : TT) (d : List Int) (h : shortT t ∧ short d) : fnW tab (look [(67, s_wellFormed), (68, s_pointList), (69, s_indicesAmong), (70, s_copyInts), (71, s_project), (72, s_tabEntry)]) s_specRestrict Try.f24 (t, d, ()) (fun (z : TT × Bool × Unit) => z = m_restrict t d) := by
  obtain ⟨h, hd⟩ := h
  refine Eq.mp (w_specRestrict t d _) ⟨_, if_pos h, ⟨fun hn => ?_, fun hn => ?_⟩⟩
  · have hn : ¬ m_wellFormed t = true := bnot_true hn
    have hr : m_restrict t d = (([], [], [], ()), false, ()) := if_neg fun e => hn (dec_iff.1 e).1
    rw [hr]; rfl
  have hwf : m_wellFormed t = true := bnot_false hn
  refine ⟨_, if_pos ⟨nOK20, hd⟩, ⟨fun hn => ?_, fun hn => ?_⟩⟩
  · have hn : ¬ m_pointList 20 d = true := bnot_true hn
    have hr : m_restrict t d = (([], [], [], ()), false, ()) := if_neg fun e => hn (dec_iff.1 e).2.1
    rw [hr]; rfl
  have hpl : m_pointList 20 d = true := bnot_false hn
  have hdl := pl_len20 hpl
  obtain ⟨w1, w2, w3, w4⟩ := dec_iff.1 hwf
  refine ⟨_, if_pos ⟨w1, h.1, hpl, hd⟩, ⟨fun hn => ?_, fun hn => ?_⟩⟩
  · have hn : ¬ ∀ y ∈ d, y ∈ t.1 := fun e => bnot_true hn (dec_iff.2 e)
    have hr : m_restrict t d = (([], [], [], ()), false, ()) := if_neg fun e => hn (dec_iff.1 e).2.2
    rw [hr]; rfl
  have r5 : ∀ y ∈ d, y ∈ t.1 := dec_iff.1 (bnot_false hn)
  have hok : m_rok t d = true := dec_iff.2 ⟨hwf, hpl, r5⟩
  have hres : m_restrict t d = ((d, (m_rs (m_at t.1 d) t t.2.1.length).1, (m_rs (m_at t.1 d) t t.2.1.length).2, ()), true, ()) := if_pos hok
  have hrow := at_row r5
  have hil : (m_at t.1 d).length = d.length := by simp [m_at]
  have ham : m_among t.1 d = m_at t.1 d := by
    unfold m_among
    rw [List.filter_eq_self.2 (fun y hy => decide_eq_true (r5 y hy))]
  refine ⟨_, if_pos hd, rfl, rfl, rfl, rfl, rfl, rfl, rfl, rfl, rfl, rfl, ?_⟩
  dsimp only
  rw [ham]
  refine loop_range t.2.1.length (fun v => v.1) (fun j v => v.2.1 = t.1 ∧ v.2.2.1 = t.2.1 ∧ v.2.2.2.1 = t.2.2.1 ∧ d = v.2.2.2.2.1 ∧ v.2.2.2.2.2.2.2.2.1 = (m_rs (m_at t.1 d) t j).1 ∧ v.2.2.2.2.2.2.2.2.2.1 = (m_rs (m_at t.1 d) t j).2) rfl ⟨rfl, rfl, rfl, rfl, rfl, rfl⟩ ?_
  rintro j ⟨i, a', b', c', d', e5, e6, e7, ps, ds, ⟨⟩⟩ K hj hi ⟨q1, q2, q3, q4, q6, q7⟩ hK
  dsimp only at hi q1 q2 q3 q4 q6 q7 ⊢
  subst hi q1 q2 q3 q4
  obtain ⟨f1, f2, f3⟩ := m_rs_facts (m_at t.1 d) t j
  have fsucc := m_rs_succ (m_at t.1 d) t j
  refine Br.dec (fun hl => ?_) fun hl => ?_
  · have hl : j < t.2.1.length := by omega
    have hlc : j < t.2.2.1.length := by omega
    have hdj := dl_entries (w4 j hl hlc).1
    have hrj : inRow t.2.1[j].length (m_at t.1 d) := by
      have : t.2.1[j].length = t.1.length := by omega
      rw [this]; exact hrow
    rw [getD_at hl, getD_at hlc] at fsucc
    have hown := pick_len t.2.1[j] (m_at t.1 d)
    refine ⟨_, idx_nat hl, _, if_pos ⟨by show (m_at t.1 d).length ≤ 4294967296; omega, hrj⟩, ?_⟩
    dsimp only
    simp only [whole_row]
    generalize m_picked t.2.1[j] (m_at t.1 d) = own at *
    have hso : short own := by unfold short; omega
    have hsj : m_rs (m_at t.1 d) t j = (ps, ds) := Prod.ext q6.symm q7.symm
    rw [hsj] at fsucc f1 f2 f3
    dsimp only at f1 f2 f3
    have hsp : shortLL ps := ⟨by omega, fun p hp => by rw [show short p ↔ p.length ≤ 4294967296 from Iff.rfl, f3 p hp]; omega⟩
    refine ⟨_, if_pos ⟨⟨hd, hsp, by show ds.length ≤ 4294967296; omega⟩, hso⟩, ?_⟩
    dsimp only
    refine Br.dec (fun hp => ?_) fun hp => ?_
    · have hp : posIn ps own < 0 := hp
      rw [rs_add_new hp] at fsucc
      refine ⟨trivial, trivial, ?_, _, idx_nat hlc, trivial, trivial, ?_, trivial, trivial, trivial, trivial, trivial, trivial, trivial, trivial, trivial, trivial, ?_⟩
      · show ps.length + 1 ≤ 4294967296; omega
      · show ds.length + 1 ≤ 4294967296; omega
      · rw [wrap_nat (by omega)]
        refine hK hl _ rfl ⟨rfl, rfl, rfl, rfl, ?_, ?_⟩
        · rw [fsucc]; rfl
        · rw [fsucc]
    · have hp : ¬ posIn ps own < 0 := hp
      obtain ⟨k, hk, hpk, hadd⟩ := rs_add_old (s := (ps, ds)) (p := own) (d := t.2.2.1[j]) hp f1
      dsimp only at hk hpk hadd
      rw [hadd] at fsucc
      have hpk : m_indexF (fun q => decide (q = own)) ps 0 = (k : Int) := hpk
      rw [hpk]
      simp only [Int.toNat_natCast, Nat.zero_add]
      refine ⟨⟨by omega, by omega⟩, _, List.getElem?_eq_getElem hk, _, idx_nat hlc, ⟨by omega, by omega⟩, hk, ?_⟩
      simp only [List.length_set, true_and]
      rw [wrap_nat (by omega)]
      refine hK hl _ rfl ⟨rfl, rfl, rfl, rfl, ?_, ?_⟩
      · rw [fsucc]
      · rw [fsucc]; simp
  · have hjb : j = t.2.1.length := by omega
    subst hjb
    rw [hres]
    simp only [whole_row, q6, q7]
theorem sound_specRestrict : Sound Try.prog 24 s_specRestrict :=
  Sound.mkS tabOK (envCons sound_specWellFormed (envCons sound_isPointList (envCons sound_indicesAmong (envCons sound_copyInts (envCons sound_project (envCons sound_tabEntry envNil)))))) mixed Try.func24 (by kernel_rfl) (by kernel_rfl) fun x h => p_specRestrict x.1 x.2.1 h
end Go.Proofs.Ytfghmbpogmcboaa

namespace Go.Proofs.Ytfghmbpogmcboaa
open Go.RowKit

theorem w_lawRestrict (t : List Int × List (List Int) × List Int × Unit) (l : List Int) (P : Bool → Prop) : (Br (decide ((↑l.length : Int) > (1048576 : Int))) (P true)
  (∃ (y3 : Int),
    s_szTable.fn ((t.fst, t.2.fst, t.snd.2.fst, ()), (1048576 : Int), ()) = some y3 ∧
      Br (decide (y3 < (0 : Int))) (P true)
        (∃ (y4 : (List Int × List (List Int) × List Int × PUnit) × PUnit),
          s_toTablem.fn (t.fst, t.2.fst, t.snd.2.fst, ()) = some y4 ∧
            ∃ (y5 : (List Int × PUnit) × PUnit),
              s_toLm.fn (l, ()) = some y5 ∧
                ∃ (y6 : (List Int × List (List Int) × List Int × PUnit) × Bool × PUnit),
                  s_specRestrict.fn
                        ((List.take y4.1.fst.length (List.drop (0 : Nat) y4.1.fst), List.take y4.fst.2.fst.length (List.drop (0 : Nat) y4.fst.2.fst),
                            List.take y4.1.snd.2.fst.length (List.drop (0 : Nat) y4.1.snd.2.fst), ()),
                          List.take y5.1.fst.length (List.drop (0 : Nat) y5.1.fst), ()) =
                      some y6 ∧
                    ∃ (y7 : (List Int × List (List Int) × List Int × PUnit) × PUnit),
                      s_toTablem.fn (t.fst, t.2.fst, t.snd.2.fst, ()) = some y7 ∧
                        ∃ (y8 : (List Int × PUnit) × PUnit),
                          s_toLm.fn (l, ()) = some y8 ∧
                            ∃ (y9 : (List Int × List (List Int) × List Int × Bool × PUnit) × PUnit),
                              s_implRestrict.fn
                                    (List.take y7.1.fst.length (List.drop (0 : Nat) y7.1.fst), List.take y7.fst.2.fst.length (List.drop (0 : Nat) y7.fst.2.fst),
                                      List.take y7.1.snd.2.fst.length (List.drop (0 : Nat) y7.1.snd.2.fst), List.take y8.1.fst.length (List.drop (0 : Nat) y8.1.fst), ()) =
                                  some y9 ∧
                                ∃ (y10 : Bool),
                                  s_eqTable.fn
                                        ((List.take y9.1.fst.length (List.drop (0 : Nat) y9.1.fst), List.take y9.fst.2.fst.length (List.drop (0 : Nat) y9.fst.2.fst),
                                            List.take y9.1.snd.2.fst.length (List.drop (0 : Nat) y9.1.snd.2.fst), ()),
                                          (y6.1.fst, y6.fst.2.fst, y6.1.snd.2.fst, ()), ()) =
                                      some y10 ∧
                                    Br (!y10) (P false)
                                      (Br (!y9.fst.2.snd.2.fst == y6.2.fst) (P false)
                                        (∃ (y11 : List Int × List (List Int) × List Int × PUnit),
                                          s_toTable.fn ((t.fst, t.2.fst, t.snd.2.fst, ()), ()) = some y11 ∧
                                            ∃ (y12 : Bool),
                                              s_eqTable.fn
                                                    ((List.take y7.1.fst.length (List.drop (0 : Nat) y7.1.fst), List.take y7.fst.2.fst.length (List.drop (0 : Nat) y7.fst.2.fst),
                                                        List.take y7.1.snd.2.fst.length (List.drop (0 : Nat) y7.1.snd.2.fst), ()),
                                                      y11, ()) =
                                                  some y12 ∧
                                                Br (!y12) (P false)
                                                  (∃ (y13 : (List Int × PUnit) × PUnit),
                                                    s_toLm.fn (l, ()) = some y13 ∧
                                                      ∃ (y14 : Bool),
                                                        s_equalInts.fn (List.take y8.1.fst.length (List.drop (0 : Nat) y8.1.fst), List.take y13.1.fst.length (List.drop (0 : Nat) y13.1.fst), ()) =
                                                            some y14 ∧
                                                          Br (!y14) (P false)
                                                            ((0 : Nat) = (0 : Nat) ∧
                                                              y7.1.fst.length = y7.1.fst.length ∧
                                                                (0 : Nat) = (0 : Nat) ∧
                                                                  y7.fst.2.fst.length = y7.fst.2.fst.length ∧
                                                                    (0 : Nat) = (0 : Nat) ∧
                                                                      y7.1.snd.2.fst.length = y7.1.snd.2.fst.length ∧
                                                                        ∃ (y15 : (Int × PUnit) × List Int × List (List Int) × List Int × PUnit),
                                                                          s_markTable.fn (y7.1.fst, y7.fst.2.fst, y7.1.snd.2.fst, (1 : Int), ()) = some y15 ∧
                                                                            (y15.2.fst.length = y7.1.fst.length ∧ y7.1.fst.length = y7.1.fst.length) ∧
                                                                              (y15.snd.2.fst.length = y7.fst.2.fst.length ∧ y7.fst.2.fst.length = y7.fst.2.fst.length) ∧
                                                                                (y15.2.snd.2.fst.length = y7.1.snd.2.fst.length ∧ y7.1.snd.2.fst.length = y7.1.snd.2.fst.length) ∧
                                                                                  (0 : Nat) = (0 : Nat) ∧
                                                                                    y8.1.fst.length = y8.1.fst.length ∧
                                                                                      ∃ (y16 : (Int × PUnit) × List Int × PUnit),
                                                                                        s_markL.fn (y8.1.fst, y15.1.fst, ()) = some y16 ∧
                                                                                          (y16.2.fst.length = y8.1.fst.length ∧ y8.1.fst.length = y8.1.fst.length) ∧
                                                                                            Br (decide (y16.1.fst < (0 : Int))) (P false)
                                                                                              (∃ (y17 : Bool),
                                                                                                s_eqTable.fn
                                                                                                      ((List.take y9.1.fst.length (List.drop (0 : Nat) y9.1.fst),
                                                                                                          List.take y9.fst.2.fst.length (List.drop (0 : Nat) y9.fst.2.fst),
                                                                                                          List.take y9.1.snd.2.fst.length (List.drop (0 : Nat) y9.1.snd.2.fst), ()),
                                                                                                        (y6.1.fst, y6.fst.2.fst, y6.1.snd.2.fst, ()), ()) =
                                                                                                    some y17 ∧
                                                                                                  Br (!y17) (P false)
                                                                                                    (Br (!y9.fst.2.snd.2.fst == y6.2.fst) (P false)
                                                                                                      ((0 : Nat) = (0 : Nat) ∧
                                                                                                        y9.1.fst.length = y9.1.fst.length ∧
                                                                                                          (0 : Nat) = (0 : Nat) ∧
                                                                                                            y9.fst.2.fst.length = y9.fst.2.fst.length ∧
                                                                                                              (0 : Nat) = (0 : Nat) ∧
                                                                                                                y9.1.snd.2.fst.length = y9.1.snd.2.fst.length ∧
                                                                                                                  ∃ (y18 : (Int × PUnit) × List Int × List (List Int) × List Int × PUnit),
                                                                                                                    s_markTable.fn (y9.1.fst, y9.fst.2.fst, y9.1.snd.2.fst, (1 : Int), ()) = some y18 ∧
                                                                                                                      (y18.2.fst.length = y9.1.fst.length ∧ y9.1.fst.length = y9.1.fst.length) ∧
                                                                                                                        (y18.snd.2.fst.length = y9.fst.2.fst.length ∧
                                                                                                                            y9.fst.2.fst.length = y9.fst.2.fst.length) ∧
                                                                                                                          (y18.2.snd.2.fst.length = y9.1.snd.2.fst.length ∧
                                                                                                                              y9.1.snd.2.fst.length = y9.1.snd.2.fst.length) ∧
                                                                                                                            ∃ (y19 : Int),
                                                                                                                              s_heldTable.fn
                                                                                                                                    ((List.take y9.1.fst.length (List.drop (0 : Nat) y18.2.fst),
                                                                                                                                        List.take y9.fst.2.fst.length
                                                                                                                                          (List.drop (0 : Nat) y18.snd.2.fst),
                                                                                                                                        List.take y9.1.snd.2.fst.length
                                                                                                                                          (List.drop (0 : Nat) y18.2.snd.2.fst),
                                                                                                                                        ()),
                                                                                                                                      (1 : Int), ()) =
                                                                                                                                  some y19 ∧
                                                                                                                                Br (decide (y19 < (0 : Int))) (P false)
                                                                                                                                  (Br (y19 != y18.1.fst) (P false)
                                                                                                                                    (∃ (y20 : (List Int × List (List Int) × List Int × PUnit) × PUnit),
                                                                                                                                      s_toTablem.fn (t.fst, t.2.fst, t.snd.2.fst, ()) = some y20 ∧
                                                                                                                                        ∃ (y21 : (List Int × PUnit) × PUnit),
                                                                                                                                          s_toLm.fn (l, ()) = some y21 ∧
                                                                                                                                            ∃ (y22 :
                                                                                                                                              (List Int × List (List Int) × List Int × Bool × PUnit) ×
                                                                                                                                                PUnit),
                                                                                                                                              s_implRestrict.fn
                                                                                                                                                    (List.take y20.1.fst.length
                                                                                                                                                        (List.drop (0 : Nat) y20.1.fst),
                                                                                                                                                      List.take y20.fst.2.fst.length
                                                                                                                                                        (List.drop (0 : Nat) y20.fst.2.fst),
                                                                                                                                                      List.take y20.1.snd.2.fst.length
                                                                                                                                                        (List.drop (0 : Nat) y20.1.snd.2.fst),
                                                                                                                                                      List.take y21.1.fst.length
                                                                                                                                                        (List.drop (0 : Nat) y21.1.fst),
                                                                                                                                                      ()) =
                                                                                                                                                  some y22 ∧
                                                                                                                                                ∃ (y23 : Bool),
                                                                                                                                                  s_eqTable.fn
                                                                                                                                                        ((List.take y22.1.fst.length
                                                                                                                                                              (List.drop (0 : Nat) y22.1.fst),
                                                                                                                                                            List.take y22.fst.2.fst.length
                                                                                                                                                              (List.drop (0 : Nat) y22.fst.2.fst),
                                                                                                                                                            List.take y22.1.snd.2.fst.length
                                                                                                                                                              (List.drop (0 : Nat) y22.1.snd.2.fst),
                                                                                                                                                            ()),
                                                                                                                                                          (y6.1.fst, y6.fst.2.fst, y6.1.snd.2.fst, ()),
                                                                                                                                                          ()) =
                                                                                                                                                      some y23 ∧
                                                                                                                                                    Br (!y23) (P false)
                                                                                                                                                      (Br (!y22.fst.2.snd.2.fst == y6.2.fst) (P false)
                                                                                                                                                        (∃ (y24 : Int),
                                                                                                                                                          s_heldTable.fn
                                                                                                                                                                ((List.take y9.1.fst.length
                                                                                                                                                                      (List.drop (0 : Nat) y18.2.fst),
                                                                                                                                                                    List.take y9.fst.2.fst.length
                                                                                                                                                                      (List.drop (0 : Nat)
                                                                                                                                                                        y18.snd.2.fst),
                                                                                                                                                                    List.take y9.1.snd.2.fst.length
                                                                                                                                                                      (List.drop (0 : Nat)
                                                                                                                                                                        y18.2.snd.2.fst),
                                                                                                                                                                    ()),
                                                                                                                                                                  (1 : Int), ()) =
                                                                                                                                                              some y24 ∧
                                                                                                                                                            Br (decide (y24 < (0 : Int))) (P false)
                                                                                                                                                              (Br (y24 != y18.1.fst) (P false)
                                                                                                                                                                (P true)))))))))))))))) = fnW tab (look [(23, s_szTable), (24, s_specRestrict), (27, s_implRestrict), (25, ASpec.b s_toTable s_toTablem), (26, ASpec.b s_toL s_toLm), (18, s_equalInts), (28, s_eqTable), (29, s_markTable), (21, s_markL), (30, s_heldTable)]) s_lawTL Try.f4 (t, l, ()) P := by kernel_rfl
theorem szT_room {t : TT} {room : Int} (hr : roomy room) (h : ¬ m_szTable t room < 0) : ((List.length t.1 + m_total t.2.1 + List.length t.2.2.1 : Nat) : Int) ≤ room - m_szTable t room ∧ roomy (m_szTable t room) := by
  have hroom := m_szTable_room hr h
  refine ⟨?_, hroom⟩
  clear hroom
  unfold m_szTable at h ⊢
  split at h
  · exact absurd (show (-1 : Int) < 0 by decide) h
  · rename_i h1
    rw [if_neg h1]
    split at h
    · exact absurd (show (-1 : Int) < 0 by decide) h
    · rename_i h2
      rw [if_neg h2]
      split at h
      · exact absurd (show (-1 : Int) < 0 by decide) h
      · rename_i h3
        rw [if_neg h3]
        have e1 : m_szL t.1 room = room - t.1.length ∧ _ := sz_low (n := t.1.length) h1
        have e2 := szLL_low h2
        have e3 : m_szL t.2.2.1 (m_szLL t.2.1 (m_szL t.1 room)) = m_szLL t.2.1 (m_szL t.1 room) - t.2.2.1.length ∧ _ := sz_low (n := t.2.2.1.length) h3
        omega
theorem m_total_le {n : Nat} : ∀ (xs : List (List Int)), (∀ p ∈ xs, p.length ≤ n) → m_total xs ≤ xs.length * n
  | [], _ => by simp [m_total]
  | r :: xs, h => by
    have h1 := m_total_le xs fun p hp => h p (List.mem_cons_of_mem _ hp)
    have h2 := h r (List.mem_cons_self ..)
    simp only [m_total, List.length_cons]
    rw [Nat.add_mul, Nat.one_mul]
    omega
theorem restrict_facts {t : TT} {l : List Int} : (m_restrict t l).1.1.length ≤ 20 ∧ (m_restrict t l).1.2.1.length ≤ 3000 ∧ (m_restrict t l).1.2.2.1.length ≤ 3000 ∧ ∀ p ∈ (m_restrict t l).1.2.1, p.length ≤ 20 := by
  unfold m_restrict
  split
  · rename_i h
    obtain ⟨h1, h2, _⟩ := dec_iff.1 h
    have h3 := pl_len20 h2
    have h4 := (dec_iff.1 h1).2.1.2
    obtain ⟨f1, f2, f3⟩ := m_rs_facts (m_at t.1 l) t t.2.1.length
    refine ⟨h3, by dsimp only; omega, by dsimp only; omega, fun p hp => ?_⟩
    rw [f3 p hp]
    simp only [m_at, List.length_map]; exact h3
  · exact ⟨by simp, by simp, by simp, fun p hp => by cases hp⟩
theorem restrict_short {t : TT} {l : List Int} : shortT (m_restrict t l).1 := by
  obtain ⟨f1, f2, f3, f4⟩ := @restrict_facts t l
  refine ⟨by unfold short; omega, ⟨by omega, fun p hp => ?_⟩, by unfold short; omega⟩
  have := f4 p hp
  unfold short; omega
theorem restrict_low {t : TT} {l : List Int} : low (1 + (List.length (m_restrict t l).1.1 + m_total (m_restrict t l).1.2.1 + List.length (m_restrict t l).1.2.2.1 : Nat)) := by
  obtain ⟨f1, f2, f3, f4⟩ := @restrict_facts t l
  have := m_total_le _ f4
  unfold low
  omega
theorem shortT_marks {a : List Int} {b : List (List Int)} {c : List Int} (h : shortT (a, b, c, ())) (i j k : Int) : shortT (m_marks i a.length, m_marksLL j b, m_marks k c.length, ()) := by
  obtain ⟨h1, h2, h3⟩ := h
  refine ⟨?_, shortLL_marks h2 j, ?_⟩
  · unfold short at *; rw [m_marks_len]; exact h1
  · unfold short at *; rw [m_marks_len]; exact h3
theorem whole_marksLL (k : Int) (xs : List (List Int)) : List.take xs.length (List.drop 0 (m_marksLL k xs)) = m_marksLL k xs := by rw [List.drop_zero, List.take_of_length_le (by rw [m_marksLL_len]; exact Nat.le_refl _)]
theorem held_marksT {a : List Int} {b : List (List Int)} {c : List Int} (k : Int) (hk : 0 ≤ k) : m_heldTable (m_marks k a.length, m_marksLL (k + a.length) b, m_marks (k + a.length + m_total b) c.length, ()) k = k + (List.length a + m_total b + List.length c : Nat) := by
  unfold m_heldTable
  dsimp only
  rw [m_heldL_marks, if_neg (by omega), m_heldLL_marks _ _ (by omega), if_neg (by omega), m_heldL_marks, if_neg (by omega)]
  omega
theorem p_lawRestrict (t : TT) (l : List Int) (h : shortT t ∧ short l) : fnW tab (look [(23, s_szTable), (24, s_specRestrict), (27, s_implRestrict), (25, ASpec.b s_toTable s_toTablem), (26, ASpec.b s_toL s_toLm), (18, s_equalInts), (28, s_eqTable), (29, s_markTable), (21, s_markL), (30, s_heldTable)]) s_lawTL Try.f4 (t, l, ()) (fun (z : Bool) => z = true) := by
  have h0 : shortT (t.1, t.2.1, t.2.2.1, ()) := h.1
  have h1 : short l := h.2
  refine Eq.mp (w_lawRestrict t l _) ?_
  refine Br.dec (fun _ => rfl) fun hl_l => ?_
  refine ⟨_, if_pos ⟨h0, roomy_1m⟩, Br.dec (fun _ => rfl) fun hs_t => ?_⟩
  have hz_t : (((List.length t.1 + m_total t.2.1 + List.length t.2.2.1 : Nat) : Nat) : Int) ≤ (1048576) - (m_szTable (t.1, t.2.1, t.2.2.1, ()) (1048576)) ∧ roomy (m_szTable (t.1, t.2.1, t.2.2.1, ()) (1048576)) := szT_room roomy_1m hs_t
  have hy_t := hz_t.1
  have hr_t : 0 ≤ m_szTable (t.1, t.2.1, t.2.2.1, ()) (1048576) ∧ m_szTable (t.1, t.2.1, t.2.2.1, ()) (1048576) ≤ 4294967296 := hz_t.2
  have l0 : low (1 + (List.length t.1 + m_total t.2.1 + List.length t.2.2.1 : Nat)) := ⟨by omega, by omega⟩
  have l1 : low (1 + (List.length t.1 + m_total t.2.1 + List.length t.2.2.1 : Nat) + (l.length : Nat)) := ⟨by omega, by omega⟩
  refine ⟨_, if_pos h0, _, if_pos h1, ?_⟩
  try simp only [whole_row]
  refine ⟨_, if_pos ⟨h0, h1⟩, _, if_pos h0, _, if_pos h1, ?_⟩
  try dsimp only
  have hg0 : shortT ((m_restrict (t.1, t.2.1, t.2.2.1, ()) l).1) := restrict_short
  have hlow0 : low (1 + (List.length (m_restrict (t.1, t.2.1, t.2.2.1, ()) l).1.1 + m_total (m_restrict (t.1, t.2.1, t.2.2.1, ()) l).1.2.1 + List.length (m_restrict (t.1, t.2.1, t.2.2.1, ()) l).1.2.2.1 : Nat)) := restrict_low
  generalize he0 : (m_restrict (t.1, t.2.1, t.2.2.1, ()) l).1 = g0 at hg0 hlow0
  generalize he1 : (m_restrict (t.1, t.2.1, t.2.2.1, ()) l).2.1 = g1
  obtain ⟨g0a, g0b, g0c, ⟨⟩⟩ := g0
  refine ⟨_, if_pos ⟨h0, h1⟩, ?_⟩
  simp only [he0, he1]
  refine ⟨_, if_pos hg0, ⟨fun he => absurd (m_eqT_self _) (bnot_true he), fun _ => ?_⟩⟩
  refine ⟨fun he => bool_same he, fun _ => ?_⟩
  refine ⟨_, if_pos h0, _, if_pos h0, ⟨fun he => absurd (m_eqT_self _) (bnot_true he), fun _ => ?_⟩⟩
  refine ⟨_, if_pos h1, ?_⟩
  try dsimp only
  refine ⟨_, if_pos h1, ⟨fun he => absurd (m_equalInts_self _) (bnot_true he), fun _ => ?_⟩⟩
  refine ⟨trivial, trivial, trivial, trivial, trivial, trivial, _, if_pos ⟨h0, low_one, l0⟩, ⟨m_marks_len _ _, trivial⟩, ⟨m_marksLL_len _ _, trivial⟩, ⟨m_marks_len _ _, trivial⟩, trivial, trivial, _, if_pos ⟨h1, l0⟩, ⟨m_marks_len _ _, trivial⟩, Br.dec (fun hn => absurd l1.1 (Int.not_le.2 hn)) fun _ => ?_⟩
  refine ⟨_, if_pos hg0, ⟨fun he => absurd (m_eqT_self _) (bnot_true he), fun _ => ?_⟩⟩
  refine ⟨fun he => bool_same he, fun _ => ?_⟩
  have m0 : low (1 + (List.length g0a + m_total g0b + List.length g0c : Nat)) := hlow0
  refine ⟨trivial, trivial, trivial, trivial, trivial, trivial, _, if_pos ⟨hg0, low_one, m0⟩, ⟨m_marks_len _ _, trivial⟩, ⟨m_marksLL_len _ _, trivial⟩, ⟨m_marks_len _ _, trivial⟩, ?_⟩
  simp only [whole_marks, whole_marksLL]
  have hm0 : ∀ a b c, shortT (m_marks a g0a.length, m_marksLL b g0b, m_marks c g0c.length, ()) := fun a b c => shortT_marks hg0 a b c
  refine ⟨_, if_pos ⟨hm0 _ _ _, low_one, by simp only [m_marks_len, m_total_marks]; exact m0⟩, ?_⟩
  simp only [held_marksT _ (low_one).1]
  refine Br.dec (fun hn => by omega) fun _ => ⟨fun he => by simp at he, fun _ => ?_⟩
  refine ⟨_, if_pos h0, _, if_pos h1, ?_⟩
  try dsimp only
  refine ⟨_, if_pos ⟨h0, h1⟩, ?_⟩
  simp only [he0, he1]
  refine ⟨_, if_pos hg0, ⟨fun he => absurd (m_eqT_self _) (bnot_true he), fun _ => ?_⟩⟩
  refine ⟨fun he => bool_same he, fun _ => ?_⟩
  refine ⟨_, if_pos ⟨hm0 _ _ _, low_one, by simp only [m_marks_len, m_total_marks]; exact m0⟩, ?_⟩
  simp only [held_marksT _ (low_one).1]
  exact Br.dec (fun hn => by omega) fun _ => ⟨fun he => by simp at he, fun _ => trivial⟩
theorem sound_lawRestrict : Sound Try.prog 4 s_lawTL :=
  Sound.mkS tabOK (envCons sound_szTable (envCons sound_specRestrict (envConsM sound_implRestrict (envConsB sound_toTable sound_toTablem (envConsB sound_toL sound_toLm (envCons sound_eqL (envCons sound_eqTable (envConsM sound_markTable (envConsM sound_markL (envCons sound_heldTable envNil)))))))))) mixed Try.func4 (by kernel_rfl) (by kernel_rfl) fun x h => p_lawRestrict x.1 x.2.1 h
end Go.Proofs.Ytfghmbpogmcboaa
