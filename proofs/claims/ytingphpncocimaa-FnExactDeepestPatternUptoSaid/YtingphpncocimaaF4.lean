/-
  Contracts: SameTable.
-/
import Derived.Test.YtingphpncocimaaF3
namespace Go.Proofs.Ytingphpncocimaa
open Go.RowKit

noncomputable abbrev s_eqFuncLL : Spec := mkS (.pair tLL (.pair tLL (.pair (.clo 101 .unit) .unit))) .bool false true (fun x => shortLL x.1) (fun x => m_eqLL x.1 x.2.1)
noncomputable abbrev s_law2T : Spec := mkS (.pair tTable (.pair tTable .unit)) .bool false true (fun x => shortT x.1 ∧ shortT x.2.1) (fun _ => true)
theorem w_sp1 (a b : List Int) (P : Bool → Prop) : (∃ (y3 : Bool), s_equalInts.fn (a, b, ()) = some y3 ∧ P y3) = fnW tab (look [(57, s_equalInts)]) s_equalInts Try.f101 (a, b, ()) P := by kernel_rfl
theorem w_eqFuncLL (a b : List (List Int)) (c : Unit) (P : Bool → Prop) : (Br ((↑a.length : Int) != (↑b.length : Int)) (P false)
  (WLoop
    (fun (v4 : Int × PUnit) (k5 : Int × PUnit → Prop) =>
      Br (decide (v4.fst < (↑a.length : Int)))
        (∃ (y6 : List Int),
          idx a v4.fst = some y6 ∧
            ∃ (y7 : List Int), idx b v4.fst = some y7 ∧ ∃ (y8 : Bool), s_equalInts.fn (y6, y7, ()) = some y8 ∧ Br (!y8) (P false) (k5 (IntKind.i64.wrap (v4.fst + (1 : Int)), ())))
        (P true))
    ((0 : Int), PUnit.unit))) = fnW tab (look [(101, s_equalInts)]) s_eqFuncLL Try.f100 (a, b, c, ()) P := by kernel_rfl
theorem w_samePartition (a b : List (List Int)) (P : Bool → Prop) : (∃ (y3 : Bool), s_eqFuncLL.fn (a, b, (), ()) = some y3 ∧ P y3) = fnW tab (look [(100, s_eqFuncLL)]) s_eqLL Try.f58 (a, b, ()) P := by kernel_rfl
theorem w_implSameTable (a b : List Int × List (List Int) × List Int × Unit) (P : Bool → Prop) : (∃ (y3 : Bool),
  s_equalInts.fn (a.fst, b.fst, ()) = some y3 ∧
    Br y3 (∃ (y4 : Bool), s_eqLL.fn (a.2.fst, b.2.fst, ()) = some y4 ∧ Br y4 (∃ (y5 : Bool), s_equalInts.fn (a.snd.2.fst, b.snd.2.fst, ()) = some y5 ∧ P y5) (P false)) (P false)) = fnW tab (look [(57, s_equalInts), (58, s_eqLL)]) s_eqTable Try.f18 (a, b, ()) P := by kernel_rfl
theorem w_specSameTable (a b : List Int × List (List Int) × List Int × Unit) (P : Bool → Prop) : (∃ (y3 : Bool),
  s_equalInts.fn (a.fst, b.fst, ()) = some y3 ∧
    Br (!y3) (P false)
      (∃ (y4 : Bool),
        s_equalInts.fn (a.snd.2.fst, b.snd.2.fst, ()) = some y4 ∧
          Br (!y4) (P false)
            (Br ((↑a.2.fst.length : Int) != (↑b.2.fst.length : Int)) (P false)
              (WLoop
                (fun (v5 : Int × List Int × List (List Int) × List Int × List Int × List (List Int) × List Int × PUnit)
                    (k6 : Int × List Int × List (List Int) × List Int × List Int × List (List Int) × List Int × PUnit → Prop) =>
                  Br (decide (v5.fst < (↑v5.snd.2.fst.length : Int)))
                    (∃ (y7 : List Int),
                      idx v5.snd.2.fst v5.fst = some y7 ∧
                        ∃ (y8 : List Int),
                          idx v5.2.snd.2.snd.2.fst v5.fst = some y8 ∧
                            ∃ (y9 : Bool),
                              s_equalInts.fn (y7, y8, ()) = some y9 ∧
                                Br (!y9) (P false)
                                  (k6 (IntKind.i64.wrap (v5.fst + (1 : Int)), v5.2.fst, v5.snd.2.fst, v5.2.snd.2.fst, v5.snd.2.snd.2.fst, v5.2.snd.2.snd.2.fst, v5.snd.2.snd.2.snd.2.fst, ())))
                    (P true))
                ((0 : Int), a.fst, a.2.fst, a.snd.2.fst, b.fst, b.2.fst, b.snd.2.fst, PUnit.unit))))) = fnW tab (look [(56, s_equalInts)]) s_eqTable Try.f16 (a, b, ()) P := by kernel_rfl
theorem w_lawSameTable (a b : List Int × List (List Int) × List Int × Unit) (P : Bool → Prop) : (∃ (y3 : Int),
  s_szTable.fn ((a.fst, a.2.fst, a.snd.2.fst, ()), (1048576 : Int), ()) = some y3 ∧
    Br (decide (y3 < (0 : Int))) (P true)
      (∃ (y4 : Int),
        s_szTable.fn ((b.fst, b.2.fst, b.snd.2.fst, ()), y3, ()) = some y4 ∧
          Br (decide (y4 < (0 : Int))) (P true)
            (∃ (y5 : List Int × List (List Int) × List Int × PUnit),
              s_toTable.fn ((a.fst, a.2.fst, a.snd.2.fst, ()), ()) = some y5 ∧
                ∃ (y6 : List Int × List (List Int) × List Int × PUnit),
                  s_toTable.fn ((b.fst, b.2.fst, b.snd.2.fst, ()), ()) = some y6 ∧
                    ∃ (y7 : Bool),
                      s_eqTable.fn (y5, y6, ()) = some y7 ∧
                        ∃ (y8 : List Int × List (List Int) × List Int × PUnit),
                          s_toTable.fn ((a.fst, a.2.fst, a.snd.2.fst, ()), ()) = some y8 ∧
                            ∃ (y9 : List Int × List (List Int) × List Int × PUnit),
                              s_toTable.fn ((b.fst, b.2.fst, b.snd.2.fst, ()), ()) = some y9 ∧
                                ∃ (y10 : Bool),
                                  s_eqTable.fn ((y8.fst, y8.2.fst, y8.snd.2.fst, ()), (y9.fst, y9.2.fst, y9.snd.2.fst, ()), ()) = some y10 ∧
                                    Br (!y10 == y7) (P false)
                                      (∃ (y11 : List Int × List (List Int) × List Int × PUnit),
                                        s_toTable.fn ((a.fst, a.2.fst, a.snd.2.fst, ()), ()) = some y11 ∧
                                          ∃ (y12 : Bool),
                                            s_eqTable.fn ((y8.fst, y8.2.fst, y8.snd.2.fst, ()), y11, ()) = some y12 ∧
                                              Br (!y12) (P false)
                                                (∃ (y13 : List Int × List (List Int) × List Int × PUnit),
                                                  s_toTable.fn ((b.fst, b.2.fst, b.snd.2.fst, ()), ()) = some y13 ∧
                                                    ∃ (y14 : Bool), s_eqTable.fn ((y9.fst, y9.2.fst, y9.snd.2.fst, ()), y13, ()) = some y14 ∧ Br (!y14) (P false) (P true)))))) = fnW tab (look [(15, s_szTable), (16, s_eqTable), (18, s_eqTable), (17, s_toTable), (19, s_eqTable)]) s_law2T Try.f3 (a, b, ()) P := by kernel_rfl
theorem p_sp1 (a b : List Int) (h : short a) : fnW tab (look [(57, s_equalInts)]) s_equalInts Try.f101 (a, b, ()) (fun (z : Bool) => z = m_equalInts a b) := by
  refine Eq.mp (w_sp1 a b _) ⟨_, if_pos h, rfl⟩
theorem sound_sp1 : Sound Try.prog 101 s_equalInts :=
  Sound.mkS tabOK (envCons sound_slicesEqual envNil) mixed Try.func101 (by kernel_rfl) (by kernel_rfl) fun x h => p_sp1 x.1 x.2.1 h
theorem p_eqFuncLL (a b : List (List Int)) (c : Unit) (h : shortLL a) : fnW tab (look [(101, s_equalInts)]) s_eqFuncLL Try.f100 (a, b, c, ()) (fun (z : Bool) => z = m_eqLL a b) := by
  obtain ⟨h, h4⟩ := h
  refine Eq.mp (w_eqFuncLL a b c _) ⟨fun hl => ?_, fun hl => ?_⟩
  · simp only [bne_iff_ne, ne_eq, Int.natCast_inj] at hl
    exact (decide_eq_false fun hab => hl (by rw [hab])).symm
  · simp only [bne_eq_false_iff_eq, Int.natCast_inj] at hl
    refine loop_range a.length (fun v => v.1) (fun j _ => a.take j = b.take j) rfl (by simp) ?_
    rintro j ⟨i, ⟨⟩⟩ K hj hi hR hK
    dsimp only at hi ⊢
    subst hi
    refine Br.dec (fun hlt => ?_) fun hlt => ?_
    · have hl1 : j < a.length := by omega
      have hl2 : j < b.length := by omega
      refine ⟨_, idx_nat hl1, _, idx_nat hl2, _, if_pos (h4 _ (List.getElem_mem hl1)), ⟨fun he => ?_, fun he => ?_⟩⟩
      · refine (decide_eq_false fun hab => ?_).symm
        subst hab
        simp [m_equalInts] at he
      · rw [wrap_nat (by omega)]
        refine hK hl1 _ rfl ?_
        simp only [m_equalInts, Bool.not_eq_false', decide_eq_true_eq] at he
        rw [List.take_succ_eq_append_getElem hl1, List.take_succ_eq_append_getElem hl2, hR]
        exact congrArg (fun x => List.take j b ++ [x]) he
    · have hj' : j = a.length := by omega
      subst hj'
      rw [List.take_length, hl, List.take_length] at hR
      exact (decide_eq_true hR).symm
theorem sound_eqFuncLL : Sound Try.prog 100 s_eqFuncLL :=
  Sound.mkS tabOK (envCons sound_sp1 envNil) mixed Try.func100 (by kernel_rfl) (by kernel_rfl) fun x h => p_eqFuncLL x.1 x.2.1 x.2.2.1 h
theorem p_samePartition (a b : List (List Int)) (h : shortLL a) : fnW tab (look [(100, s_eqFuncLL)]) s_eqLL Try.f58 (a, b, ()) (fun (z : Bool) => z = m_eqLL a b) := by
  refine Eq.mp (w_samePartition a b _) ⟨_, if_pos h, rfl⟩
theorem sound_samePartition : Sound Try.prog 58 s_eqLL :=
  Sound.mkS tabOK (envCons sound_eqFuncLL envNil) mixed Try.func58 (by kernel_rfl) (by kernel_rfl) fun x h => p_samePartition x.1 x.2.1 h
theorem p_implSameTable (a b : TT) (h : shortT a) : fnW tab (look [(57, s_equalInts), (58, s_eqLL)]) s_eqTable Try.f18 (a, b, ()) (fun (z : Bool) => z = m_eqT a b) := by
  refine Eq.mp (w_implSameTable a b _) ⟨_, if_pos h.1, ⟨fun h1 => ⟨_, if_pos h.2.1, ⟨fun h2 => ⟨_, if_pos h.2.2, ?_⟩, fun h2 => ?_⟩⟩, fun h1 => ?_⟩⟩
  · have h1 : m_equalInts a.1 b.1 = true := h1
    have h2 : m_eqLL a.2.1 b.2.1 = true := h2
    simp only [m_equalInts, m_eqLL] at h1 h2
    show m_equalInts a.2.2.1 b.2.2.1 = _
    unfold m_eqT m_equalInts
    rw [h1, h2]; rfl
  · have h1 : m_equalInts a.1 b.1 = true := h1
    have h2 : m_eqLL a.2.1 b.2.1 = false := h2
    simp only [m_equalInts, m_eqLL] at h1 h2
    unfold m_eqT
    rw [h1, h2]; rfl
  · have h1 : m_equalInts a.1 b.1 = false := h1
    simp only [m_equalInts] at h1
    unfold m_eqT
    rw [h1]; rfl
theorem sound_implSameTable : Sound Try.prog 18 s_eqTable :=
  Sound.mkS tabOK (envCons sound_slicesEqual (envCons sound_samePartition envNil)) mixed Try.func18 (by kernel_rfl) (by kernel_rfl) fun x h => p_implSameTable x.1 x.2.1 h
theorem p_specSameTable (a b : TT) (h : shortT a) : fnW tab (look [(56, s_equalInts)]) s_eqTable Try.f16 (a, b, ()) (fun (z : Bool) => z = m_eqT a b) := by
  obtain ⟨hs1, ⟨hs2, hs4⟩, hs3⟩ := h
  refine Eq.mp (w_specSameTable a b _) ⟨_, if_pos hs1, ⟨fun h1 => ?_, fun h1 => ⟨_, if_pos hs3, ⟨fun h2 => ?_, fun h2 => ⟨fun h3 => ?_, fun h3 => ?_⟩⟩⟩⟩⟩
  · have h1 : (!m_equalInts a.1 b.1) = true := h1
    simp only [m_equalInts, Bool.not_eq_true'] at h1
    show _ = m_eqT a b
    unfold m_eqT
    rw [h1]; rfl
  · have h2 : (!m_equalInts a.2.2.1 b.2.2.1) = true := h2
    simp only [m_equalInts, Bool.not_eq_true'] at h2
    show _ = m_eqT a b
    unfold m_eqT
    rw [h2]; simp
  · simp only [bne_iff_ne, ne_eq, Int.natCast_inj] at h3
    show _ = m_eqT a b
    unfold m_eqT
    rw [decide_eq_false (show ¬ a.2.1 = b.2.1 from fun hab => h3 (by rw [hab]))]; simp
  · simp only [bne_eq_false_iff_eq, Int.natCast_inj] at h3
    have h1 : (!m_equalInts a.1 b.1) = false := h1
    have h2 : (!m_equalInts a.2.2.1 b.2.2.1) = false := h2
    simp only [m_equalInts, Bool.not_eq_false', decide_eq_true_eq] at h1 h2
    have hE : m_eqT a b = decide (a.2.1 = b.2.1) := by
      unfold m_eqT
      rw [decide_eq_true h1, decide_eq_true h2]; simp
    refine loop_range a.2.1.length (fun v => v.1) (fun j v => v.2 = (a.1, a.2.1, a.2.2.1, b.1, b.2.1, b.2.2.1, ()) ∧ a.2.1.take j = b.2.1.take j) rfl ⟨rfl, by simp⟩ ?_
    rintro j ⟨i, v⟩ K hj hi ⟨hv, hR⟩ hK
    dsimp only at hi hv ⊢
    subst hi hv
    dsimp only
    refine Br.dec (fun hlt => ?_) fun hlt => ?_
    · have hl1 : j < a.2.1.length := by omega
      have hl2 : j < b.2.1.length := by omega
      refine ⟨_, idx_nat hl1, _, idx_nat hl2, _, if_pos (hs4 _ (List.getElem_mem hl1)), ⟨fun he => ?_, fun he => ?_⟩⟩
      · show _ = m_eqT a b
        rw [hE]
        refine (decide_eq_false fun hab => ?_).symm
        simp [hab, m_equalInts] at he
      · rw [wrap_nat (by omega)]
        refine hK hl1 _ rfl ⟨rfl, ?_⟩
        simp only [m_equalInts, Bool.not_eq_false', decide_eq_true_eq] at he
        rw [List.take_succ_eq_append_getElem hl1, List.take_succ_eq_append_getElem hl2, hR]
        exact congrArg (fun x => List.take j b.2.1 ++ [x]) he
    · have hj' : j = a.2.1.length := by omega
      subst hj'
      rw [List.take_length, h3, List.take_length] at hR
      show _ = m_eqT a b
      rw [hE]
      exact (decide_eq_true hR).symm
theorem sound_specSameTable : Sound Try.prog 16 s_eqTable :=
  Sound.mkS tabOK (envCons sound_equalInts envNil) mixed Try.func16 (by kernel_rfl) (by kernel_rfl) fun x h => p_specSameTable x.1 x.2.1 h
theorem m_szTable_room {t : TT} {room : Int} (h : roomy room) (h2 : ¬ m_szTable t room < 0) : roomy (m_szTable t room) := by
  have hm : ¬ ((-1 : Int) < 0) → False := fun h => h (by decide)
  unfold m_szTable at h2 ⊢
  split
  · rename_i h3; rw [if_pos h3] at h2; exact (hm h2).elim
  · rename_i h3; rw [if_neg h3] at h2
    split
    · rename_i h4; rw [if_pos h4] at h2; exact (hm h2).elim
    · rename_i h4; rw [if_neg h4] at h2
      split
      · rename_i h5; rw [if_pos h5] at h2; exact (hm h2).elim
      · rename_i h5
        exact m_sz_room (m_szLL_room (m_sz_room h h3) h4) h5
theorem roomy_1m : roomy 1048576 := ⟨by decide, by decide⟩
theorem p_lawSameTable (a b : TT) (h : shortT a ∧ shortT b) : fnW tab (look [(15, s_szTable), (16, s_eqTable), (18, s_eqTable), (17, s_toTable), (19, s_eqTable)]) s_law2T Try.f3 (a, b, ()) (fun (z : Bool) => z = true) := by
  obtain ⟨h1, h2⟩ := h
  refine Eq.mp (w_lawSameTable a b _) ⟨_, if_pos ⟨h1, roomy_1m⟩, Br.dec (fun _ => rfl) fun hn => ?_⟩
  have r1 := m_szTable_room roomy_1m hn
  refine ⟨_, if_pos ⟨h2, r1⟩, Br.dec (fun _ => rfl) fun hn => ?_⟩
  refine ⟨_, if_pos h1, _, if_pos h2, _, if_pos h1, _, if_pos h1, _, if_pos h2, _, if_pos h1, ⟨fun he => ?_, fun he => ?_⟩⟩
  · have he : (!(m_eqT a b == m_eqT a b)) = true := he
    simp at he
  · refine ⟨_, if_pos h1, _, if_pos h1, ⟨fun he => ?_, fun he => ?_⟩⟩
    · have he : (!(m_eqT a a)) = true := he
      rw [m_eqT_self] at he; cases he
    · refine ⟨_, if_pos h2, _, if_pos h2, ⟨fun he => ?_, fun he => rfl⟩⟩
      have he : (!(m_eqT b b)) = true := he
      rw [m_eqT_self] at he; cases he
theorem sound_lawSameTable : Sound Try.prog 3 s_law2T :=
  Sound.mkS tabOK (envCons sound_szTable (envCons sound_specSameTable (envCons sound_implSameTable (envCons sound_toTable (envCons sound_eqTable envNil))))) mixed Try.func3 (by kernel_rfl) (by kernel_rfl) fun x h => p_lawSameTable x.1 x.2.1 h
end Go.Proofs.Ytingphpncocimaa
