/-
  Contracts: what the laws use.
-/
import Derived.Test.YtingphpncocimaaF1
namespace Go.Proofs.Ytingphpncocimaa
open Go.RowKit

abbrev TT : Type := List Int × List (List Int) × List Int × Unit
def shortLL (xs : List (List Int)) : Prop := xs.length ≤ 4294967296 ∧ ∀ r ∈ xs, short r
def shortT (t : TT) : Prop := short t.1 ∧ shortLL t.2.1 ∧ short t.2.2.1
def roomy (room : Int) : Prop := 0 ≤ room ∧ room ≤ 4294967296
def m_sz (n : Nat) (room : Int) : Int := if room - n < 0 then -1 else room - n
def m_szL (xs : List Int) (room : Int) : Int := m_sz xs.length room
def szGo : List (List Int) → Int → Int
  | [], room => room
  | r :: rs, room => if m_szL r room < 0 then -1 else szGo rs (m_szL r room)
def m_szLL (xs : List (List Int)) (room : Int) : Int := if m_sz xs.length room < 0 then -1 else szGo xs (m_sz xs.length room)
def m_szTable (t : TT) (room : Int) : Int :=
  if m_szL t.1 room < 0 then -1 else if m_szLL t.2.1 (m_szL t.1 room) < 0 then -1 else
  if m_szL t.2.2.1 (m_szLL t.2.1 (m_szL t.1 room)) < 0 then -1 else m_szL t.2.2.1 (m_szLL t.2.1 (m_szL t.1 room))
def m_eqLL (a b : List (List Int)) : Bool := decide (a = b)
def m_eqT (a b : TT) : Bool := decide (a.1 = b.1) && (decide (a.2.1 = b.2.1) && decide (a.2.2.1 = b.2.2.1))
noncomputable abbrev s_szL : Spec := mkS (.pair tL (.pair tI .unit)) tI false true (fun x => short x.1 ∧ roomy x.2.1) (fun x => m_szL x.1 x.2.1)
noncomputable abbrev s_szLL : Spec := mkS (.pair tLL (.pair tI .unit)) tI false true (fun x => shortLL x.1 ∧ roomy x.2.1) (fun x => m_szLL x.1 x.2.1)
noncomputable abbrev s_szTable : Spec := mkS (.pair tTable (.pair tI .unit)) tI false true (fun x => shortT x.1 ∧ roomy x.2.1) (fun x => m_szTable x.1 x.2.1)
noncomputable abbrev s_toL : Spec := mkS (.pair tL .unit) tL false true (fun x => short x.1) (fun x => x.1)
noncomputable abbrev s_toLL : Spec := mkS (.pair tLL .unit) tLL false true (fun x => shortLL x.1) (fun x => x.1)
noncomputable abbrev s_toTable : Spec := mkS (.pair tTable .unit) tTable false true (fun x => shortT x.1) (fun x => x.1)
noncomputable abbrev s_eqLL : Spec := mkS (.pair tLL (.pair tLL .unit)) .bool false true (fun x => shortLL x.1) (fun x => m_eqLL x.1 x.2.1)
noncomputable abbrev s_eqTable : Spec := mkS (.pair tTable (.pair tTable .unit)) .bool false true (fun x => shortT x.1) (fun x => m_eqT x.1 x.2.1)
theorem w_szL (xs : List Int) (room : Int) (P : Int → Prop) : (Br (decide (IntKind.i64.wrap (room - (↑xs.length : Int)) < 0)) (P (-1)) (P (IntKind.i64.wrap (room - (↑xs.length : Int))))) = fnW tab (look []) s_szL Try.f55 (xs, room, ()) P := by kernel_rfl
theorem w_szLL (xs : List (List Int)) (room : Int) (P : Int → Prop) : (Br (decide (IntKind.i64.wrap (room - (↑xs.length : Int)) < 0)) (P (-1))
  (WLoop
    (fun (v3 : Int × Int × PUnit) (k4 : Int × Int × PUnit → Prop) =>
      Br (decide (v3.2.fst < (↑xs.length : Int)))
        (∃ (y5 : List Int), idx xs v3.2.fst = some y5 ∧ ∃ (y6 : Int), s_szL.fn (y5, v3.fst, ()) = some y6 ∧ Br (decide (y6 < 0)) (P (-1)) (k4 (y6, IntKind.i64.wrap (v3.2.fst + 1), ()))) (P v3.fst))
    (IntKind.i64.wrap (room - (↑xs.length : Int)), 0, PUnit.unit))) = fnW tab (look [(55, s_szL)]) s_szLL Try.f38 (xs, room, ()) P := by kernel_rfl
theorem w_szTable (t : List Int × List (List Int) × List Int × Unit) (room : Int) (P : Int → Prop) : (∃ (y3 : Int),
  s_szL.fn (t.fst, room, ()) = some y3 ∧
    Br (decide (y3 < 0)) (P (-1))
      (∃ (y4 : Int), s_szLL.fn (t.2.fst, y3, ()) = some y4 ∧ Br (decide (y4 < 0)) (P (-1)) (∃ (y5 : Int), s_szL.fn (t.snd.2.fst, y4, ()) = some y5 ∧ Br (decide (y5 < 0)) (P (-1)) (P y5)))) = fnW tab (look [(55, s_szL), (38, s_szLL)]) s_szTable Try.f15 (t, room, ()) P := by kernel_rfl
theorem w_toL (xs : List Int) (P : List Int → Prop) : ((0 ≤ (↑xs.length : Int) ∧ (↑xs.length : Int) < (↑maxRow : Int) + 1) ∧
  (↑xs.length : Int) = (↑xs.length : Int) ∧
    0 = 0 ∧
      (List.replicate (↑xs.length : Int).toNat (Int.ofNat 0)).length = (List.replicate (↑xs.length : Int).toNat (Int.ofNat 0)).length ∧
        WLoop
          (fun (v2 : Int × List Int × PUnit) (k3 : Int × List Int × PUnit → Prop) =>
            Br (decide (v2.fst < (↑xs.length : Int)))
              (∃ (y4 : Int),
                idx xs v2.fst = some y4 ∧
                  (0 ≤ v2.fst ∧ v2.fst < (↑v2.2.fst.length : Int)) ∧
                    0 + v2.fst.toNat < v2.2.fst.length ∧
                      0 = 0 ∧ v2.2.fst.length = (v2.2.fst.set (0 + v2.fst.toNat) y4).length ∧ k3 (IntKind.i64.wrap (v2.fst + 1), v2.2.fst.set (0 + v2.fst.toNat) y4, ()))
              (P (List.take v2.2.fst.length (List.drop 0 v2.2.fst))))
          (0, List.replicate (↑xs.length : Int).toNat (Int.ofNat 0), PUnit.unit)) = fnW tab (look []) s_toL Try.f25 (xs, ()) P := by kernel_rfl
theorem w_toLL (xs : List (List Int)) (P : List (List Int) → Prop) : ((0 ≤ (↑xs.length : Int) ∧ (↑xs.length : Int) < (↑maxRow : Int) + 1) ∧
  (↑xs.length : Int) = (↑xs.length : Int) ∧
    0 = 0 ∧
      (List.replicate (↑xs.length : Int).toNat ([] : List Int)).length = (List.replicate (↑xs.length : Int).toNat ([] : List Int)).length ∧
        WLoop
          (fun (v2 : Int × List (List Int) × PUnit) (k3 : Int × List (List Int) × PUnit → Prop) =>
            Br (decide (v2.fst < (↑xs.length : Int)))
              (∃ (y4 : List Int),
                idx xs v2.fst = some y4 ∧
                  ∃ (y5 : List Int),
                    s_toL.fn (y4, ()) = some y5 ∧
                      (0 ≤ v2.fst ∧ v2.fst < (↑v2.2.fst.length : Int)) ∧
                        0 + v2.fst.toNat < v2.2.fst.length ∧
                          0 = 0 ∧ v2.2.fst.length = (v2.2.fst.set (0 + v2.fst.toNat) y5).length ∧ k3 (IntKind.i64.wrap (v2.fst + 1), v2.2.fst.set (0 + v2.fst.toNat) y5, ()))
              (P (List.take v2.2.fst.length (List.drop 0 v2.2.fst))))
          (0, List.replicate (↑xs.length : Int).toNat ([] : List Int), PUnit.unit)) = fnW tab (look [(25, s_toL)]) s_toLL Try.f40 (xs, ()) P := by kernel_rfl
theorem w_toTable (t : List Int × List (List Int) × List Int × Unit) (P : (List Int × List (List Int) × List Int × Unit) → Prop) : (∃ (y2 : List Int), s_toL.fn (t.fst, ()) = some y2 ∧ ∃ (y3 : List (List Int)), s_toLL.fn (t.2.fst, ()) = some y3 ∧ ∃ (y4 : List Int), s_toL.fn (t.snd.2.fst, ()) = some y4 ∧ P (y2, y3, y4, ())) = fnW tab (look [(25, s_toL), (40, s_toLL)]) s_toTable Try.f17 (t, ()) P := by kernel_rfl
theorem w_eqL (a b : List Int) (P : Bool → Prop) : (Br ((↑a.length : Int) != (↑b.length : Int)) (P false)
  (WLoop
    (fun (v3 : Int × PUnit) (k4 : Int × PUnit → Prop) =>
      Br (decide (v3.fst < (↑a.length : Int))) (∃ (y5 : Int), idx a v3.fst = some y5 ∧ ∃ (y6 : Int), idx b v3.fst = some y6 ∧ Br (y5 != y6) (P false) (k4 (IntKind.i64.wrap (v3.fst + 1), ())))
        (P true))
    (0, PUnit.unit))) = fnW tab (look []) s_equalInts Try.f28 (a, b, ()) P := by kernel_rfl
theorem w_eqLL (a b : List (List Int)) (P : Bool → Prop) : (Br ((↑a.length : Int) != (↑b.length : Int)) (P false)
  (WLoop
    (fun (v3 : Int × PUnit) (k4 : Int × PUnit → Prop) =>
      Br (decide (v3.fst < (↑a.length : Int)))
        (∃ (y5 : List Int),
          idx a v3.fst = some y5 ∧ ∃ (y6 : List Int), idx b v3.fst = some y6 ∧ ∃ (y7 : Bool), s_equalInts.fn (y5, y6, ()) = some y7 ∧ Br (!y7) (P false) (k4 (IntKind.i64.wrap (v3.fst + 1), ())))
        (P true))
    (0, PUnit.unit))) = fnW tab (look [(28, s_equalInts)]) s_eqLL Try.f42 (a, b, ()) P := by kernel_rfl
theorem w_eqTable (a b : List Int × List (List Int) × List Int × Unit) (P : Bool → Prop) : (∃ (y3 : Bool),
  s_equalInts.fn (a.fst, b.fst, ()) = some y3 ∧
    Br (!y3) (P false)
      (∃ (y4 : Bool), s_eqLL.fn (a.2.fst, b.2.fst, ()) = some y4 ∧ Br (!y4) (P false) (∃ (y5 : Bool), s_equalInts.fn (a.snd.2.fst, b.snd.2.fst, ()) = some y5 ∧ Br (!y5) (P false) (P true)))) = fnW tab (look [(28, s_equalInts), (42, s_eqLL)]) s_eqTable Try.f19 (a, b, ()) P := by kernel_rfl
theorem m_sz_room {n : Nat} {room : Int} (h : roomy room) (h2 : ¬ m_sz n room < 0) : roomy (m_sz n room) := by
  unfold m_sz roomy at *
  split at h2 <;> simp_all
  omega
theorem p_szL (xs : List Int) (room : Int) (h : short xs ∧ roomy room) : fnW tab (look []) s_szL Try.f55 (xs, room, ()) (fun (z : Int) => z = m_szL xs room) := by
  obtain ⟨h1, h2, h3⟩ := h
  unfold short at h1
  refine Eq.mp (w_szL xs room _) ?_
  rw [wrap_id (by omega) (by omega)]
  refine Br.dec (fun h => ?_) fun h => ?_
  · simp only [m_szL, m_sz, if_pos h]
  · simp only [m_szL, m_sz, if_neg h]
theorem sound_szL : Sound Try.prog 55 s_szL :=
  Sound.mkS tabOK envNil mixed Try.func55 (by kernel_rfl) (by kernel_rfl) fun x h => p_szL x.1 x.2.1 h
theorem p_szLL (xs : List (List Int)) (room : Int) (h : shortLL xs ∧ roomy room) : fnW tab (look [(55, s_szL)]) s_szLL Try.f38 (xs, room, ()) (fun (z : Int) => z = m_szLL xs room) := by
  obtain ⟨⟨h1, h4⟩, h2, h3⟩ := h
  refine Eq.mp (w_szLL xs room _) ?_
  rw [wrap_id (by omega) (by omega)]
  refine Br.dec (fun h => ?_) fun h => ?_
  · simp only [m_szLL, m_sz, if_pos h]; rfl
  · refine loop_range xs.length (fun v => v.2.1) (fun j v => roomy v.1 ∧ szGo (xs.drop j) v.1 = m_szLL xs room) rfl ?_ ?_
    · refine ⟨by unfold roomy; omega, ?_⟩
      simp only [m_szLL, m_sz, if_neg h, List.drop_zero]
    · rintro j ⟨r, i, ⟨⟩⟩ K hj hi ⟨hr, hR⟩ hK
      dsimp only at hi hr hR ⊢
      subst hi
      refine Br.dec (fun hl => ?_) fun hl => ?_
      · have hl : j < xs.length := by omega
        have hd : xs.drop j = xs[j] :: xs.drop (j + 1) := List.drop_eq_getElem_cons hl
        refine ⟨_, idx_nat hl, _, if_pos ⟨h4 _ (List.getElem_mem hl), hr⟩, ?_⟩
        rw [hd] at hR
        simp only [szGo] at hR
        refine Br.dec (fun hn => ?_) fun hn => ?_
        · have hn : m_szL xs[j] r < 0 := hn
          rw [if_pos hn] at hR
          exact hR
        · have hn : ¬ m_szL xs[j] r < 0 := hn
          rw [if_neg hn] at hR
          rw [wrap_nat (by omega)]
          exact hK hl _ rfl ⟨m_sz_room hr hn, hR⟩
      · have : j = xs.length := by omega
        subst this
        rw [List.drop_length] at hR
        exact hR
theorem sound_szLL : Sound Try.prog 38 s_szLL :=
  Sound.mkS tabOK (envCons sound_szL envNil) mixed Try.func38 (by kernel_rfl) (by kernel_rfl) fun x h => p_szLL x.1 x.2.1 h
theorem szGo_room : ∀ (xs : List (List Int)) (room : Int), roomy room → ¬ szGo xs room < 0 → roomy (szGo xs room)
  | [], room, h, _ => h
  | r :: rs, room, h, h2 => by
    simp only [szGo] at h2 ⊢
    split
    · rename_i hn; rw [if_pos hn] at h2; exact absurd (show (-1 : Int) < 0 by decide) h2
    · rename_i hn; rw [if_neg hn] at h2; exact szGo_room rs _ (m_sz_room h hn) h2
theorem m_szLL_room {xs : List (List Int)} {room : Int} (h : roomy room) (h2 : ¬ m_szLL xs room < 0) : roomy (m_szLL xs room) := by
  unfold m_szLL at *
  split
  · rename_i hn; rw [if_pos hn] at h2; exact absurd (show (-1 : Int) < 0 by decide) h2
  · rename_i hn; rw [if_neg hn] at h2; exact szGo_room _ _ (m_sz_room h hn) h2
theorem p_szTable (t : TT) (room : Int) (h : shortT t ∧ roomy room) : fnW tab (look [(55, s_szL), (38, s_szLL)]) s_szTable Try.f15 (t, room, ()) (fun (z : Int) => z = m_szTable t room) := by
  obtain ⟨⟨h1, h2, h3⟩, hr⟩ := h
  refine Eq.mp (w_szTable t room _) ?_
  refine ⟨_, if_pos ⟨h1, hr⟩, Br.dec (fun hn => ?_) fun hn => ?_⟩
  · exact (if_pos hn).symm
  · have r1 := m_sz_room hr hn
    refine ⟨_, if_pos ⟨h2, r1⟩, Br.dec (fun hm => ?_) fun hm => ?_⟩
    · exact ((if_neg hn).trans (if_pos hm)).symm
    · have r2 := m_szLL_room r1 hm
      refine ⟨_, if_pos ⟨h3, r2⟩, Br.dec (fun hk => ?_) fun hk => ?_⟩
      · exact ((if_neg hn).trans ((if_neg hm).trans (if_pos hk))).symm
      · exact ((if_neg hn).trans ((if_neg hm).trans (if_neg hk))).symm
theorem sound_szTable : Sound Try.prog 15 s_szTable :=
  Sound.mkS tabOK (envCons sound_szL (envCons sound_szLL envNil)) mixed Try.func15 (by kernel_rfl) (by kernel_rfl) fun x h => p_szTable x.1 x.2.1 h
theorem take_set_succ {α : Type} {ys xs : List α} {j : Nat} (h : j < xs.length) (hl : ys.length = xs.length) (ht : ys.take j = xs.take j) : (ys.set j xs[j]).take (j + 1) = xs.take (j + 1) := by
  have h1 : j < (ys.set j xs[j]).length := by rw [List.length_set]; omega
  rw [List.take_succ_eq_append_getElem h1, List.take_succ_eq_append_getElem h, List.getElem_set_self, List.take_set_of_le (Nat.le_refl j), ht]
theorem p_toL (xs : List Int) (h : short xs) : fnW tab (look []) s_toL Try.f25 (xs, ()) (fun (z : List Int) => z = xs) := by
  unfold short at h
  refine Eq.mp (w_toL xs _) ?_
  refine ⟨⟨by omega, by show (xs.length : Int) < (4294967296 : Int) + 1; omega⟩, rfl, rfl, rfl, ?_⟩
  refine loop_range xs.length (fun v => v.1) (fun j v => v.2.1.length = xs.length ∧ v.2.1.take j = xs.take j) rfl ⟨by simp, by simp⟩ ?_
  rintro j ⟨i, ys, ⟨⟩⟩ K hj hi ⟨h1, h2⟩ hK
  dsimp only at hi h1 h2 ⊢
  subst hi
  refine Br.dec (fun hl => ?_) fun hl => ?_
  · have hl : j < xs.length := by omega
    refine ⟨_, idx_nat hl, ⟨by omega, by omega⟩, by rw [Int.toNat_natCast]; omega, rfl, by rw [List.length_set], ?_⟩
    rw [wrap_nat (by omega), Int.toNat_natCast, Nat.zero_add]
    exact hK hl _ rfl ⟨by rw [List.length_set]; exact h1, take_set_succ hl h1 h2⟩
  · have : j = xs.length := by omega
    subst this
    rw [List.take_length, ← h1, List.take_length] at h2
    rw [List.drop_zero, List.take_length]
    exact h2
theorem sound_toL : Sound Try.prog 25 s_toL :=
  Sound.mkS tabOK envNil mixed Try.func25 (by kernel_rfl) (by kernel_rfl) fun x h => p_toL x.1 h
theorem p_toLL (xs : List (List Int)) (h : shortLL xs) : fnW tab (look [(25, s_toL)]) s_toLL Try.f40 (xs, ()) (fun (z : List (List Int)) => z = xs) := by
  obtain ⟨h, h4⟩ := h
  refine Eq.mp (w_toLL xs _) ?_
  refine ⟨⟨by omega, by show (xs.length : Int) < (4294967296 : Int) + 1; omega⟩, rfl, rfl, rfl, ?_⟩
  refine loop_range xs.length (fun v => v.1) (fun j v => v.2.1.length = xs.length ∧ v.2.1.take j = xs.take j) rfl ⟨by simp, by simp⟩ ?_
  rintro j ⟨i, ys, ⟨⟩⟩ K hj hi ⟨h1, h2⟩ hK
  dsimp only at hi h1 h2 ⊢
  subst hi
  refine Br.dec (fun hl => ?_) fun hl => ?_
  · have hl : j < xs.length := by omega
    refine ⟨_, idx_nat hl, _, if_pos (h4 _ (List.getElem_mem hl)), ⟨by omega, by omega⟩, by rw [Int.toNat_natCast]; omega, rfl, by rw [List.length_set], ?_⟩
    rw [wrap_nat (by omega), Int.toNat_natCast, Nat.zero_add]
    exact hK hl _ rfl ⟨by rw [List.length_set]; exact h1, take_set_succ hl h1 h2⟩
  · have : j = xs.length := by omega
    subst this
    rw [List.take_length, ← h1, List.take_length] at h2
    rw [List.drop_zero, List.take_length]
    exact h2
theorem sound_toLL : Sound Try.prog 40 s_toLL :=
  Sound.mkS tabOK (envCons sound_toL envNil) mixed Try.func40 (by kernel_rfl) (by kernel_rfl) fun x h => p_toLL x.1 h
theorem p_toTable (t : TT) (h : shortT t) : fnW tab (look [(25, s_toL), (40, s_toLL)]) s_toTable Try.f17 (t, ()) (fun (z : TT) => z = t) := by
  refine Eq.mp (w_toTable t _) ?_
  exact ⟨_, if_pos h.1, _, if_pos h.2.1, _, if_pos h.2.2, rfl⟩
theorem sound_toTable : Sound Try.prog 17 s_toTable :=
  Sound.mkS tabOK (envCons sound_toL (envCons sound_toLL envNil)) mixed Try.func17 (by kernel_rfl) (by kernel_rfl) fun x h => p_toTable x.1 h
theorem p_eqL (a b : List Int) (h : short a) : fnW tab (look []) s_equalInts Try.f28 (a, b, ()) (fun (z : Bool) => z = m_equalInts a b) := by
  refine Eq.mp (w_eqL a b _) ⟨fun hl => ?_, fun hl => ?_⟩
  · simp only [bne_iff_ne, ne_eq, Int.natCast_inj] at hl
    exact (decide_eq_false fun hab => hl (by rw [hab])).symm
  · simp only [bne_eq_false_iff_eq, Int.natCast_inj] at hl
    exact eq_loop a b hl h
theorem sound_eqL : Sound Try.prog 28 s_equalInts :=
  Sound.mkS tabOK envNil mixed Try.func28 (by kernel_rfl) (by kernel_rfl) fun x h => p_eqL x.1 x.2.1 h
theorem p_eqLL (a b : List (List Int)) (h : shortLL a) : fnW tab (look [(28, s_equalInts)]) s_eqLL Try.f42 (a, b, ()) (fun (z : Bool) => z = m_eqLL a b) := by
  obtain ⟨h, h4⟩ := h
  refine Eq.mp (w_eqLL a b _) ⟨fun hl => ?_, fun hl => ?_⟩
  · simp only [bne_iff_ne, ne_eq, Int.natCast_inj] at hl
    exact (decide_eq_false fun hab => hl (by rw [hab])).symm
  · simp only [bne_eq_false_iff_eq, Int.natCast_inj] at hl
    refine loop_range a.length (fun v => v.1) (fun j _ => a.take j = b.take j) rfl (by simp) ?_
    rintro j ⟨i, ⟨⟩⟩ K hj hi hR hK
    dsimp only at hi ⊢
    subst hi
    refine Br.dec (fun hlt => ?_) fun hlt => ?_
    · have hl1 : j < a.length := by omega
      have hl2 : j < b.length := by omega
      refine ⟨_, idx_nat hl1, _, idx_nat hl2, _, if_pos (h4 _ (List.getElem_mem hl1)), ⟨fun he => ?_, fun he => ?_⟩⟩
      · refine (decide_eq_false fun hab => ?_).symm
        subst hab
        simp [m_equalInts] at he
      · rw [wrap_nat (by omega)]
        refine hK hl1 _ rfl ?_
        simp only [m_equalInts, Bool.not_eq_false', decide_eq_true_eq] at he
        rw [List.take_succ_eq_append_getElem hl1, List.take_succ_eq_append_getElem hl2, hR]
        exact congrArg (fun x => List.take j b ++ [x]) he
    · have hj' : j = a.length := by omega
      subst hj'
      rw [List.take_length, hl, List.take_length] at hR
      exact (decide_eq_true hR).symm
theorem sound_eqLL : Sound Try.prog 42 s_eqLL :=
  Sound.mkS tabOK (envCons sound_eqL envNil) mixed Try.func42 (by kernel_rfl) (by kernel_rfl) fun x h => p_eqLL x.1 x.2.1 h
theorem p_eqTable (a b : TT) (h : shortT a) : fnW tab (look [(28, s_equalInts), (42, s_eqLL)]) s_eqTable Try.f19 (a, b, ()) (fun (z : Bool) => z = m_eqT a b) := by
  refine Eq.mp (w_eqTable a b _) ?_
  refine ⟨_, if_pos h.1, ⟨fun h1 => ?_, fun h1 => ?_⟩⟩
  · have h1 : (!m_equalInts a.1 b.1) = true := h1
    simp only [m_equalInts] at h1
    unfold m_eqT
    cases hd : decide (a.1 = b.1) <;> simp_all
  · have h1 : (!m_equalInts a.1 b.1) = false := h1
    simp only [m_equalInts] at h1
    refine ⟨_, if_pos h.2.1, ⟨fun h2 => ?_, fun h2 => ?_⟩⟩
    · have h2 : (!m_eqLL a.2.1 b.2.1) = true := h2
      simp only [m_eqLL] at h2
      unfold m_eqT
      cases hd : decide (a.2.1 = b.2.1) <;> simp_all
    · have h2 : (!m_eqLL a.2.1 b.2.1) = false := h2
      simp only [m_eqLL] at h2
      refine ⟨_, if_pos h.2.2, ⟨fun h3 => ?_, fun h3 => ?_⟩⟩
      · have h3 : (!m_equalInts a.2.2.1 b.2.2.1) = true := h3
        simp only [m_equalInts] at h3
        unfold m_eqT
        cases hd : decide (a.2.2.1 = b.2.2.1) <;> simp_all
      · have h3 : (!m_equalInts a.2.2.1 b.2.2.1) = false := h3
        simp only [m_equalInts] at h3
        unfold m_eqT
        simp_all
theorem sound_eqTable : Sound Try.prog 19 s_eqTable :=
  Sound.mkS tabOK (envCons sound_eqL (envCons sound_eqLL envNil)) mixed Try.func19 (by kernel_rfl) (by kernel_rfl) fun x h => p_eqTable x.1 x.2.1 h
end Go.Proofs.Ytingphpncocimaa
