/-
  Contracts: methods, symmetries; the laws IsMethod, IsSymmetry, LetterImage.
-/
import Derived.Test.YtingphpncocimaaF5
namespace Go.Proofs.Ytingphpncocimaa
open Go.RowKit

abbrev tM1 : Ty := .clo 78 (.pair (.ptr tL) .unit)
noncomputable abbrev s_meth1 : Spec := mkS (.pair tI (.pair (.ptr tL) .unit)) .bool false true (fun x => short x.2.1) (fun x => !m_containsInt x.2.1 x.1)
noncomputable abbrev s_ixM : Spec := mkS (.pair tL (.pair tM1 .unit)) tI false true (fun x => short x.1 ∧ short x.2.1.1) (fun x => m_indexF (fun y => !m_containsInt x.2.1.1 y) x.1 0)
noncomputable abbrev s_ctM : Spec := mkS (.pair tL (.pair tM1 .unit)) .bool false true (fun x => short x.1 ∧ short x.2.1.1) (fun x => List.any x.1 (fun y => !m_containsInt x.2.1.1 y))
noncomputable abbrev s_ctAll : Spec := mkS (.pair tL (.pair tL .unit)) .bool false true (fun x => short x.1 ∧ short x.2.1) (fun x => List.all x.2.1 (fun y => m_containsInt x.1 y))
def MethAt (n : Int) (g : List (List Int)) (j : Nat) : Prop := ∀ h : j < g.length, m_pointList n g[j] = true ∧ (∀ h1 : 0 < j, g[j - 1].length < g[j].length ∧ ∀ x ∈ g[j - 1], x ∈ g[j])
noncomputable def m_isMethod (p : PP) (g : List (List Int)) : Bool := dec (m_validP p = true ∧ (1 ≤ g.length ∧ g.length ≤ 5) ∧ (∀ j, j < g.length → MethAt p.1 g j) ∧ ∃ x, g[g.length - 1]? = some x ∧ (x.length : Int) = p.1)
noncomputable abbrev s_isMethod : Spec := mkS (.pair tPuzzle (.pair tLL .unit)) .bool false true (fun x => shortP x.1 ∧ shortLL x.2.1) (fun x => m_isMethod x.1 x.2.1)
noncomputable abbrev s_lawPLL : Spec := mkS (.pair tPuzzle (.pair tLL .unit)) .bool false true (fun x => shortP x.1 ∧ shortLL x.2.1) (fun _ => true)
noncomputable def m_isState (n : Int) (s : List Int) : Bool := m_genOK n s
noncomputable abbrev s_permOf : Spec := mkS (.pair tI (.pair tL .unit)) .bool false true (fun x => short x.2.1) (fun x => m_genOK x.1 x.2.1)
noncomputable abbrev s_isStateP : Spec := mkS (.pair tPuzzle (.pair tL .unit)) .bool false true (fun x => short x.2.1) (fun x => m_genOK x.1.1 x.2.1)
noncomputable abbrev s_isState : Spec := mkS (.pair tPuzzle (.pair tL .unit)) .bool false true (fun x => shortP x.1 ∧ short x.2.1) (fun x => m_validP x.1 && m_genOK x.1.1 x.2.1)
theorem w_meth1 (x : Int) (xs : List Int) (P : Bool → Prop) : (∃ (y3 : Bool), s_containsInt.fn (xs, x, ()) = some y3 ∧ P !y3) = fnW tab (look [(79, s_containsInt)]) s_meth1 Try.f78 (x, xs, ()) P := by kernel_rfl
theorem w_ixM (xs : List Int) (c : List Int × Unit) (P : Int → Prop) : (WLoop
  (fun (v3 : Int × PUnit) (k4 : Int × PUnit → Prop) =>
    Br (decide (v3.fst < (↑xs.length : Int)))
      (∃ (y5 : Int), idx xs v3.fst = some y5 ∧ ∃ (y6 : Bool), s_meth1.fn (y5, c.fst, ()) = some y6 ∧ Br y6 (P v3.fst) (k4 (IntKind.i64.wrap (v3.fst + (1 : Int)), ()))) (P (-1 : Int)))
  ((0 : Int), PUnit.unit)) = fnW tab (look [(78, s_meth1)]) s_ixM Try.f109 (xs, c, ()) P := by kernel_rfl
theorem w_ctM (xs : List Int) (c : List Int × Unit) (P : Bool → Prop) : (∃ (y3 : Int), s_ixM.fn (xs, c, ()) = some y3 ∧ P (decide (y3 ≥ (0 : Int)))) = fnW tab (look [(109, s_ixM)]) s_ctM Try.f77 (xs, c, ()) P := by kernel_rfl
theorem w_ctAll (xs ys : List Int) (P : Bool → Prop) : (WLoop
  (fun (v3 : Int × PUnit) (k4 : Int × PUnit → Prop) =>
    Br (decide (v3.fst < (↑ys.length : Int)))
      (∃ (y5 : Int), idx ys v3.fst = some y5 ∧ ∃ (y6 : Bool), s_containsInt.fn (xs, y5, ()) = some y6 ∧ Br (!y6) (P false) (k4 (IntKind.i64.wrap (v3.fst + (1 : Int)), ()))) (P true))
  ((0 : Int), PUnit.unit)) = fnW tab (look [(102, s_containsInt)]) s_ctAll Try.f76 (xs, ys, ()) P := by kernel_rfl
theorem w_specIsMethod (p : Int × ByteArray × List (List Int) × Unit) (g : List (List Int)) (P : Bool → Prop) : (∃ (y3 : Bool),
  s_validP.fn ((p.fst, p.2.fst, p.snd.2.fst, ()), ()) = some y3 ∧
    Br (!y3) (P false)
      (∃ (y4 : Bool),
        s_inRange.fn ((↑g.length : Int), (1 : Int), (5 : Int), ()) = some y4 ∧
          Br (!y4) (P false)
            (WLoop
              (fun (v5 : Int × Int × ByteArray × List (List Int) × PUnit) (k6 : Int × Int × ByteArray × List (List Int) × PUnit → Prop) =>
                Br (decide (v5.fst < (↑g.length : Int)))
                  (∃ (y7 : List Int),
                    idx g v5.fst = some y7 ∧
                      ∃ (y8 : Bool),
                        s_pointList.fn (v5.2.fst, y7, ()) = some y8 ∧
                          Br (!y8) (P false)
                            (Br (decide (v5.fst > (0 : Int)))
                              (∃ (y9 : List Int),
                                idx g v5.fst = some y9 ∧
                                  ∃ (y10 : List Int),
                                    idx g (IntKind.i64.wrap (v5.fst - (1 : Int))) = some y10 ∧
                                      Br (decide ((↑y9.length : Int) ≤ (↑y10.length : Int))) (P false)
                                        (∃ (y11 : List Int),
                                          idx g v5.fst = some y11 ∧
                                            ∃ (y12 : List Int),
                                              idx g (IntKind.i64.wrap (v5.fst - (1 : Int))) = some y12 ∧
                                                ∃ (y13 : Bool),
                                                  s_ctAll.fn (y11, y12, ()) = some y13 ∧ Br (!y13) (P false) (k6 (IntKind.i64.wrap (v5.fst + (1 : Int)), v5.2.fst, v5.snd.2.fst, v5.2.snd.2.fst, ()))))
                              (k6 (IntKind.i64.wrap (v5.fst + (1 : Int)), v5.2.fst, v5.snd.2.fst, v5.2.snd.2.fst, ()))))
                  (∃ (y7 : List Int), idx g (IntKind.i64.wrap ((↑g.length : Int) - (1 : Int))) = some y7 ∧ P ((↑y7.length : Int) == v5.2.fst)))
              ((0 : Int), p.fst, p.2.fst, p.snd.2.fst, PUnit.unit)))) = fnW tab (look [(66, s_validP), (60, s_inRange), (59, s_pointList), (76, s_ctAll)]) s_isMethod Try.f39 (p, g, ()) P := by kernel_rfl
theorem w_implIsMethod (p : Int × ByteArray × List (List Int) × Unit) (g : List (List Int)) (P : Bool → Prop) : (∃ (y3 : Bool),
  s_validP.fn ((p.fst, p.2.fst, p.snd.2.fst, ()), ()) = some y3 ∧
    Br (!y3) (P false)
      (∃ (y4 : Int),
        s_lenLL.fn (g, ()) = some y4 ∧
          ∃ (y5 : Bool),
            s_inRange.fn (y4, (1 : Int), (5 : Int), ()) = some y5 ∧
              Br (!y5) (P false)
                (WLoop
                  (fun (v6 : Int × Int × ByteArray × List (List Int) × PUnit) (k7 : Int × Int × ByteArray × List (List Int) × PUnit → Prop) =>
                    Br (decide (v6.fst < (↑g.length : Int)))
                      (∃ (y8 : List Int),
                        idx g v6.fst = some y8 ∧
                          ∃ (y9 : Bool),
                            s_pointList.fn (v6.2.fst, y8, ()) = some y9 ∧
                              Br (!y9) (P false)
                                (Br (decide (v6.fst > (0 : Int)))
                                  (∃ (y10 : List Int),
                                    idx g (IntKind.i64.wrap (v6.fst - (1 : Int))) = some y10 ∧
                                      Br (decide ((↑y10.length : Int) ≥ (↑y8.length : Int))) (P false)
                                        (∃ (y11 : List Int),
                                          idx g (IntKind.i64.wrap (v6.fst - (1 : Int))) = some y11 ∧
                                            ∃ (y12 : Bool),
                                              s_ctM.fn (y11, (y8, ()), ()) = some y12 ∧ Br y12 (P false) (k7 (IntKind.i64.wrap (v6.fst + (1 : Int)), v6.2.fst, v6.snd.2.fst, v6.2.snd.2.fst, ()))))
                                  (k7 (IntKind.i64.wrap (v6.fst + (1 : Int)), v6.2.fst, v6.snd.2.fst, v6.2.snd.2.fst, ()))))
                      (∃ (y8 : List Int), idx g (IntKind.i64.wrap ((↑g.length : Int) - (1 : Int))) = some y8 ∧ ∃ (y9 : Int), s_lenL.fn (y8, ()) = some y9 ∧ P (y9 == v6.2.fst)))
                  ((0 : Int), p.fst, p.2.fst, p.snd.2.fst, PUnit.unit)))) = fnW tab (look [(67, s_validP), (63, s_inRange), (64, s_lenLL), (62, s_pointList), (77, s_ctM), (80, s_lenL)]) s_isMethod Try.f41 (p, g, ()) P := by kernel_rfl
theorem w_lawIsMethod (p : Int × ByteArray × List (List Int) × Unit) (xs : List (List Int)) (P : Bool → Prop) : (∃ (y3 : Int),
  s_szP.fn ((p.fst, p.2.fst, p.snd.2.fst, ()), (1048576 : Int), ()) = some y3 ∧
    Br (decide (y3 < (0 : Int))) (P true)
      (∃ (y4 : Int),
        s_szLL.fn (xs, y3, ()) = some y4 ∧
          Br (decide (y4 < (0 : Int))) (P true)
            (∃ (y5 : Int × ByteArray × List (List Int) × PUnit),
              s_toP.fn ((p.fst, p.2.fst, p.snd.2.fst, ()), ()) = some y5 ∧
                ∃ (y6 : List (List Int)),
                  s_toLL.fn (xs, ()) = some y6 ∧
                    ∃ (y7 : Bool),
                      s_isMethod.fn (y5, y6, ()) = some y7 ∧
                        ∃ (y8 : Int × ByteArray × List (List Int) × PUnit),
                          s_toP.fn ((p.fst, p.2.fst, p.snd.2.fst, ()), ()) = some y8 ∧
                            ∃ (y9 : List (List Int)),
                              s_toLL.fn (xs, ()) = some y9 ∧
                                ∃ (y10 : Bool),
                                  s_isMethod.fn ((y8.fst, y8.2.fst, y8.snd.2.fst, ()), y9, ()) = some y10 ∧
                                    Br (!y10 == y7) (P false)
                                      (∃ (y11 : Int × ByteArray × List (List Int) × PUnit),
                                        s_toP.fn ((p.fst, p.2.fst, p.snd.2.fst, ()), ()) = some y11 ∧
                                          ∃ (y12 : Bool),
                                            s_eqP.fn ((y8.fst, y8.2.fst, y8.snd.2.fst, ()), y11, ()) = some y12 ∧
                                              Br (!y12) (P false)
                                                (∃ (y13 : List (List Int)), s_toLL.fn (xs, ()) = some y13 ∧ ∃ (y14 : Bool), s_eqLL.fn (y9, y13, ()) = some y14 ∧ Br (!y14) (P false) (P true)))))) = fnW tab (look [(22, s_szP), (38, s_szLL), (39, s_isMethod), (41, s_isMethod), (24, s_toP), (27, s_eqP), (40, s_toLL), (42, s_eqLL)]) s_lawPLL Try.f9 (p, xs, ()) P := by kernel_rfl
theorem w_permOf (n : Int) (s : List Int) (P : Bool → Prop) : (Br ((↑s.length : Int) == n) (∃ (y3 : Bool), s_isPerm.fn (s, ()) = some y3 ∧ P y3) (P false)) = fnW tab (look [(119, s_isPerm)]) s_permOf Try.f111 (n, s, ()) P := by kernel_rfl
theorem w_implIsStateP (p : Int × ByteArray × List (List Int) × Unit) (s : List Int) (P : Bool → Prop) : (∃ (y3 : Int), s_lenL.fn (s, ()) = some y3 ∧ Br (y3 == p.fst) (∃ (y4 : Bool), s_isPerm.fn (s, ()) = some y4 ∧ P y4) (P false)) = fnW tab (look [(80, s_lenL), (116, s_isPerm)]) s_isStateP Try.f98 (p, s, ()) P := by kernel_rfl
theorem w_specIsState (p : Int × ByteArray × List (List Int) × Unit) (s : List Int) (P : Bool → Prop) : (∃ (y3 : Bool), s_validP.fn ((p.fst, p.2.fst, p.snd.2.fst, ()), ()) = some y3 ∧ Br y3 (∃ (y4 : Bool), s_permOf.fn (p.fst, s, ()) = some y4 ∧ P y4) (P false)) = fnW tab (look [(66, s_validP), (111, s_permOf)]) s_isState Try.f85 (p, s, ()) P := by kernel_rfl
theorem w_implIsState (p : Int × ByteArray × List (List Int) × Unit) (s : List Int) (P : Bool → Prop) : (∃ (y3 : Bool), s_validP.fn ((p.fst, p.2.fst, p.snd.2.fst, ()), ()) = some y3 ∧ Br y3 (∃ (y4 : Bool), s_isStateP.fn ((p.fst, p.2.fst, p.snd.2.fst, ()), s, ()) = some y4 ∧ P y4) (P false)) = fnW tab (look [(67, s_validP), (98, s_isStateP)]) s_isState Try.f87 (p, s, ()) P := by kernel_rfl
theorem p_meth1 (x : Int) (xs : List Int) (h : short xs) : fnW tab (look [(79, s_containsInt)]) s_meth1 Try.f78 (x, xs, ()) (fun (z : Bool) => z = !m_containsInt xs x) := Eq.mp (w_meth1 x xs _) ⟨_, if_pos h, rfl⟩
theorem sound_meth1 : Sound Try.prog 78 s_meth1 :=
  Sound.mkS tabOK (envCons sound_contains envNil) mixed Try.func78 (by kernel_rfl) (by kernel_rfl) fun x h => p_meth1 x.1 x.2.1 h
theorem p_ixM (xs : List Int) (c : List Int × Unit) (h : short xs ∧ short c.1) : fnW tab (look [(78, s_meth1)]) s_ixM Try.f109 (xs, c, ()) (fun (z : Int) => z = m_indexF (fun y => !m_containsInt c.1 y) xs 0) := by
  obtain ⟨h, h4⟩ := h
  unfold short at h
  refine Eq.mp (w_ixM xs c _) ?_
  refine loop_range xs.length (fun v => v.1) (fun j _ => m_indexF (fun y => !m_containsInt c.1 y) (xs.drop j) j = m_indexF (fun y => !m_containsInt c.1 y) xs 0) rfl (by simp) ?_
  rintro j ⟨i, ⟨⟩⟩ K hj hi hR hK
  dsimp only at hi ⊢
  subst hi
  refine Br.dec (fun hl => ?_) fun hl => ?_
  · have hl : j < xs.length := by omega
    rw [List.drop_eq_getElem_cons hl] at hR
    simp only [m_indexF] at hR
    refine ⟨_, idx_nat hl, _, if_pos h4, ⟨fun he => ?_, fun he => ?_⟩⟩
    · have he : (!m_containsInt c.1 xs[j]) = true := he
      rw [if_pos he] at hR
      exact hR
    · have he : (!m_containsInt c.1 xs[j]) = false := he
      rw [if_neg (by rw [he]; decide)] at hR
      rw [wrap_nat (by omega)]
      exact hK hl _ rfl (by push_cast; exact hR)
  · have : j = xs.length := by omega
    subst this
    rw [List.drop_length] at hR
    exact hR
theorem sound_ixM : Sound Try.prog 109 s_ixM :=
  Sound.mkS tabOK (envCons sound_meth1 envNil) mixed Try.func109 (by kernel_rfl) (by kernel_rfl) fun x h => p_ixM x.1 x.2.1 h
theorem p_ctM (xs : List Int) (c : List Int × Unit) (h : short xs ∧ short c.1) : fnW tab (look [(109, s_ixM)]) s_ctM Try.f77 (xs, c, ()) (fun (z : Bool) => z = List.any xs (fun y => !m_containsInt c.1 y)) := by
  refine Eq.mp (w_ctM xs c _) ⟨_, if_pos h, ?_⟩
  rw [Bool.eq_iff_iff, decide_eq_true_iff]
  exact m_indexF_ge _ xs 0 (Int.le_refl 0)
theorem sound_ctM : Sound Try.prog 77 s_ctM :=
  Sound.mkS tabOK (envCons sound_ixM envNil) mixed Try.func77 (by kernel_rfl) (by kernel_rfl) fun x h => p_ctM x.1 x.2.1 h
theorem p_ctAll (xs ys : List Int) (h : short xs ∧ short ys) : fnW tab (look [(102, s_containsInt)]) s_ctAll Try.f76 (xs, ys, ()) (fun (z : Bool) => z = List.all ys (fun y => m_containsInt xs y)) := by
  obtain ⟨h4, h⟩ := h
  unfold short at h
  refine Eq.mp (w_ctAll xs ys _) ?_
  refine loop_range ys.length (fun v => v.1) (fun j _ => ∀ y ∈ ys.take j, m_containsInt xs y = true) rfl (by simp) ?_
  rintro j ⟨i, ⟨⟩⟩ K hj hi hR hK
  dsimp only at hi ⊢
  subst hi
  refine Br.dec (fun hl => ?_) fun hl => ?_
  · have hl : j < ys.length := by omega
    refine ⟨_, idx_nat hl, _, if_pos h4, ⟨fun he => ?_, fun he => ?_⟩⟩
    · have he : ¬ m_containsInt xs ys[j] = true := bnot_true he
      exact (List.all_eq_false.2 ⟨_, List.getElem_mem hl, he⟩).symm
    · have he : m_containsInt xs ys[j] = true := bnot_false he
      rw [wrap_nat (by omega)]
      refine hK hl _ rfl ?_
      rw [List.take_succ_eq_append_getElem hl]
      intro x hx
      rcases List.mem_append.1 hx with hx | hx
      · exact hR x hx
      · rw [List.mem_singleton.1 hx]; exact he
  · have : j = ys.length := by omega
    subst this
    rw [List.take_length] at hR
    exact (List.all_eq_true.2 hR).symm
theorem sound_ctAll : Sound Try.prog 76 s_ctAll :=
  Sound.mkS tabOK (envCons sound_containsInt envNil) mixed Try.func76 (by kernel_rfl) (by kernel_rfl) fun x h => p_ctAll x.1 x.2.1 h
theorem beq_dec {a b : Int} {P : Prop} (h : P ↔ a = b) : (a == b) = dec P := by
  by_cases e : a = b
  · rw [beq_iff_eq.2 e]; exact dec_true (h.2 e)
  · rw [beq_eq_false_iff_ne.2 e]; exact dec_false fun hp => e (h.1 hp)
theorem p_specIsMethod (p : PP) (g : List (List Int)) (h : shortP p ∧ shortLL g) : fnW tab (look [(66, s_validP), (60, s_inRange), (59, s_pointList), (76, s_ctAll)]) s_isMethod Try.f39 (p, g, ()) (fun (z : Bool) => z = m_isMethod p g) := by
  obtain ⟨hp, hg, h4⟩ := h
  refine Eq.mp (w_specIsMethod p g _) ⟨_, if_pos hp, ⟨fun h1 => ?_, fun h1 => ⟨_, if_pos trivial, ⟨fun h2 => ?_, fun h2 => ?_⟩⟩⟩⟩
  · have h1 := bnot_true h1
    exact dec_false fun hh => h1 hh.1
  · have h2 := bnot_true h2
    rw [m_range_iff] at h2
    dsimp only at h2
    exact dec_false fun hh => h2 (by have := hh.2.1; omega)
  · have h1 : m_validP p = true := bnot_false h1
    have h2 := bnot_false h2
    rw [m_range_iff] at h2
    dsimp only at h2
    have hv := validP_len h1
    refine loop_range g.length (fun v => v.1) (fun j v => v.2 = (p.1, p.2.1, p.2.2.1, ()) ∧ ∀ k, k < j → MethAt p.1 g k) rfl ⟨rfl, fun k hk => absurd hk (Nat.not_lt_zero _)⟩ ?_
    rintro j ⟨i, v⟩ K hj hi ⟨hv', hR⟩ hK
    dsimp only at hi hv' ⊢
    subst hi hv'
    dsimp only
    refine Br.dec (fun hl => ?_) fun hl => ?_
    · have hl : j < g.length := by omega
      have hm := h4 _ (List.getElem_mem hl)
      refine ⟨_, idx_nat hl, _, if_pos ⟨⟨by dsimp only; omega, by dsimp only; omega⟩, hm⟩, ⟨fun hq => ?_, fun hq => ?_⟩⟩
      · have hq : ¬ m_pointList p.1 g[j] = true := bnot_true hq
        exact dec_false fun hh => hq (hh.2.2.1 j hl hl).1
      · have hq : m_pointList p.1 g[j] = true := bnot_false hq
        refine Br.dec (fun h0 => ?_) fun h0 => ?_
        · have h0 : 0 < j := by omega
          rw [wrap_id (by omega) (by omega), show (j : Int) - 1 = ((j - 1 : Nat) : Int) by omega]
          have hm' := h4 _ (List.getElem_mem (show j - 1 < g.length by omega))
          refine ⟨_, idx_nat hl, _, idx_nat (by omega), Br.dec (fun hc => ?_) fun hc => ⟨_, idx_nat hl, _, idx_nat (by omega), _, if_pos ⟨hm, hm'⟩, ⟨fun ha => ?_, fun ha => ?_⟩⟩⟩
          · exact dec_false fun hh => by have := ((hh.2.2.1 j hl hl).2 h0).1; omega
          · have ha : ¬ List.all g[j - 1] (fun y => m_containsInt g[j] y) = true := bnot_true ha
            exact dec_false fun hh => ha (List.all_eq_true.2 fun y hy => decide_eq_true (((hh.2.2.1 j hl hl).2 h0).2 y hy))
          · have ha : List.all g[j - 1] (fun y => m_containsInt g[j] y) = true := bnot_false ha
            rw [wrap_nat (by omega)]
            refine hK hl _ rfl ⟨rfl, fun k hk => ?_⟩
            by_cases e : k = j
            · subst e
              exact fun _ => ⟨hq, fun _ => ⟨by omega, fun y hy => of_decide_eq_true (List.all_eq_true.1 ha y hy)⟩⟩
            · exact hR k (by omega)
        · rw [wrap_nat (by omega)]
          refine hK hl _ rfl ⟨rfl, fun k hk => ?_⟩
          by_cases e : k = j
          · subst e
            exact fun _ => ⟨hq, fun h => by omega⟩
          · exact hR k (by omega)
    · have : j = g.length := by omega
      subst this
      rw [wrap_id (by omega) (by omega), show (g.length : Int) - 1 = ((g.length - 1 : Nat) : Int) by omega]
      refine ⟨_, idx_nat (by omega), beq_dec ?_⟩
      constructor
      · rintro ⟨_, _, _, x, hx, hn⟩
        rw [List.getElem?_eq_getElem (by omega)] at hx
        rw [Option.some.inj hx]; exact hn
      · intro hn
        exact ⟨h1, by omega, hR, _, List.getElem?_eq_getElem (by omega), hn⟩
theorem sound_specIsMethod : Sound Try.prog 39 s_isMethod :=
  Sound.mkS tabOK (envCons sound_specValidP (envCons sound_inRange (envCons sound_isPointList (envCons sound_ctAll envNil)))) mixed Try.func39 (by kernel_rfl) (by kernel_rfl) fun x h => p_specIsMethod x.1 x.2.1 h
theorem p_implIsMethod (p : PP) (g : List (List Int)) (h : shortP p ∧ shortLL g) : fnW tab (look [(67, s_validP), (63, s_inRange), (64, s_lenLL), (62, s_pointList), (77, s_ctM), (80, s_lenL)]) s_isMethod Try.f41 (p, g, ()) (fun (z : Bool) => z = m_isMethod p g) := by
  obtain ⟨hp, hg, h4⟩ := h
  refine Eq.mp (w_implIsMethod p g _) ⟨_, if_pos hp, ⟨fun h1 => ?_, fun h1 => ⟨_, if_pos trivial, _, if_pos trivial, ⟨fun h2 => ?_, fun h2 => ?_⟩⟩⟩⟩
  · have h1 := bnot_true h1
    exact dec_false fun hh => h1 hh.1
  · have h2 := bnot_true h2
    rw [m_range_iff] at h2
    dsimp only at h2
    exact dec_false fun hh => h2 (by have := hh.2.1; omega)
  · have h1 : m_validP p = true := bnot_false h1
    have h2 := bnot_false h2
    rw [m_range_iff] at h2
    dsimp only at h2
    have hv := validP_len h1
    refine loop_range g.length (fun v => v.1) (fun j v => v.2 = (p.1, p.2.1, p.2.2.1, ()) ∧ ∀ k, k < j → MethAt p.1 g k) rfl ⟨rfl, fun k hk => absurd hk (Nat.not_lt_zero _)⟩ ?_
    rintro j ⟨i, v⟩ K hj hi ⟨hv', hR⟩ hK
    dsimp only at hi hv' ⊢
    subst hi hv'
    dsimp only
    refine Br.dec (fun hl => ?_) fun hl => ?_
    · have hl : j < g.length := by omega
      have hm := h4 _ (List.getElem_mem hl)
      refine ⟨_, idx_nat hl, _, if_pos ⟨⟨by dsimp only; omega, by dsimp only; omega⟩, hm⟩, ⟨fun hq => ?_, fun hq => ?_⟩⟩
      · have hq : ¬ m_pointList p.1 g[j] = true := bnot_true hq
        exact dec_false fun hh => hq (hh.2.2.1 j hl hl).1
      · have hq : m_pointList p.1 g[j] = true := bnot_false hq
        refine Br.dec (fun h0 => ?_) fun h0 => ?_
        · have h0 : 0 < j := by omega
          rw [wrap_id (by omega) (by omega), show (j : Int) - 1 = ((j - 1 : Nat) : Int) by omega]
          have hm' := h4 _ (List.getElem_mem (show j - 1 < g.length by omega))
          refine ⟨_, idx_nat (by omega), Br.dec (fun hc => ?_) fun hc => ⟨_, idx_nat (by omega), _, if_pos ⟨hm', hm⟩, ⟨fun ha => ?_, fun ha => ?_⟩⟩⟩
          · exact dec_false fun hh => by have := ((hh.2.2.1 j hl hl).2 h0).1; omega
          · have ha : List.any g[j - 1] (fun y => !m_containsInt g[j] y) = true := ha
            obtain ⟨y, hy, hn⟩ := List.any_eq_true.1 ha
            refine dec_false fun hh => ?_
            have := decide_eq_true (((hh.2.2.1 j hl hl).2 h0).2 y hy)
            have hn : (!decide (y ∈ g[j])) = true := hn
            rw [this] at hn; cases hn
          · have ha : List.any g[j - 1] (fun y => !m_containsInt g[j] y) = false := ha
            rw [wrap_nat (by omega)]
            refine hK hl _ rfl ⟨rfl, fun k hk => ?_⟩
            by_cases e : k = j
            · subst e
              refine fun _ => ⟨hq, fun _ => ⟨by omega, fun y hy => ?_⟩⟩
              have hn := List.any_eq_false.1 ha y hy
              have hn : ¬ (!decide (y ∈ g[k])) = true := hn
              simpa using hn
            · exact hR k (by omega)
        · rw [wrap_nat (by omega)]
          refine hK hl _ rfl ⟨rfl, fun k hk => ?_⟩
          by_cases e : k = j
          · subst e
            exact fun _ => ⟨hq, fun h => by omega⟩
          · exact hR k (by omega)
    · have : j = g.length := by omega
      subst this
      rw [wrap_id (by omega) (by omega), show (g.length : Int) - 1 = ((g.length - 1 : Nat) : Int) by omega]
      refine ⟨_, idx_nat (by omega), _, if_pos trivial, beq_dec ?_⟩
      constructor
      · rintro ⟨_, _, _, x, hx, hn⟩
        rw [List.getElem?_eq_getElem (by omega)] at hx
        rw [Option.some.inj hx]; exact hn
      · intro hn
        exact ⟨h1, by omega, hR, _, List.getElem?_eq_getElem (by omega), hn⟩
theorem sound_implIsMethod : Sound Try.prog 41 s_isMethod :=
  Sound.mkS tabOK (envCons sound_implValidP (envCons sound_within (envCons sound_lenLL (envCons sound_isTracked (envCons sound_ctM (envCons sound_lenL envNil)))))) mixed Try.func41 (by kernel_rfl) (by kernel_rfl) fun x h => p_implIsMethod x.1 x.2.1 h
theorem m_szP_room {p : PP} {room : Int} (h : roomy room) (h2 : ¬ m_szP p room < 0) : roomy (m_szP p room) := by
  unfold m_szP at *
  split
  · rename_i hn; rw [if_pos hn] at h2; exact absurd (show (-1 : Int) < 0 by decide) h2
  · rename_i hn
    rw [if_neg hn] at h2
    have hr : roomy (room - p.2.1.size) := ⟨by omega, by have := h.2; omega⟩
    split
    · rename_i hm; rw [if_pos hm] at h2; exact absurd (show (-1 : Int) < 0 by decide) h2
    · rename_i hm; exact m_szLL_room hr hm
theorem p_lawIsMethod (p : PP) (xs : List (List Int)) (h : shortP p ∧ shortLL xs) : fnW tab (look [(22, s_szP), (38, s_szLL), (39, s_isMethod), (41, s_isMethod), (24, s_toP), (27, s_eqP), (40, s_toLL), (42, s_eqLL)]) s_lawPLL Try.f9 (p, xs, ()) (fun (z : Bool) => z = true) := by
  refine Eq.mp (w_lawIsMethod p xs _) ⟨_, if_pos ⟨h.1, roomy_1m⟩, Br.dec (fun _ => rfl) fun hn => ⟨_, if_pos ⟨h.2, m_szP_room roomy_1m hn⟩, Br.dec (fun _ => rfl) fun hn => ?_⟩⟩
  refine ⟨_, if_pos h.1, _, if_pos h.2, _, if_pos h, _, if_pos h.1, _, if_pos h.2, _, if_pos h, ⟨fun he => bools_same he, fun _ => ?_⟩⟩
  refine ⟨_, if_pos h.1, _, if_pos h.1, ⟨fun he => not_self (m_eqP_self p) he, fun _ => ?_⟩⟩
  exact ⟨_, if_pos h.2, _, if_pos h.2, ⟨fun he => not_self (decide_eq_true rfl) he, fun _ => rfl⟩⟩
theorem sound_lawIsMethod : Sound Try.prog 9 s_lawPLL :=
  Sound.mkS tabOK (envCons sound_szP (envCons sound_szLL (envCons sound_specIsMethod (envCons sound_implIsMethod (envCons sound_toP (envCons sound_eqP (envCons sound_toLL (envCons sound_eqLL envNil)))))))) mixed Try.func9 (by kernel_rfl) (by kernel_rfl) fun x h => p_lawIsMethod x.1 x.2.1 h
theorem p_permOf (n : Int) (s : List Int) (h : short s) : fnW tab (look [(119, s_isPerm)]) s_permOf Try.f111 (n, s, ()) (fun (z : Bool) => z = m_genOK n s) := by
  refine Eq.mp (w_permOf n s _) ⟨fun he => ⟨_, if_pos h, ?_⟩, fun he => ?_⟩
  · simp only [beq_iff_eq] at he
    show m_isPerm s = _
    cases hp : m_isPerm s with
    | true => exact dec_true ⟨he, hp⟩
    | false => exact dec_false fun hh => by rw [hh.2] at hp; cases hp
  · simp only [beq_eq_false_iff_ne, ne_eq] at he
    exact dec_false fun hh => he hh.1
theorem sound_permOf : Sound Try.prog 111 s_permOf :=
  Sound.mkS tabOK (envCons sound_specIsPerm envNil) mixed Try.func111 (by kernel_rfl) (by kernel_rfl) fun x h => p_permOf x.1 x.2.1 h
theorem p_implIsStateP (p : PP) (s : List Int) (h : short s) : fnW tab (look [(80, s_lenL), (116, s_isPerm)]) s_isStateP Try.f98 (p, s, ()) (fun (z : Bool) => z = m_genOK p.1 s) := by
  refine Eq.mp (w_implIsStateP p s _) ⟨_, if_pos trivial, ⟨fun he => ⟨_, if_pos h, ?_⟩, fun he => ?_⟩⟩
  · simp only [beq_iff_eq] at he
    show m_isPerm s = _
    cases hp : m_isPerm s with
    | true => exact dec_true ⟨he, hp⟩
    | false => exact dec_false fun hh => by rw [hh.2] at hp; cases hp
  · simp only [beq_eq_false_iff_ne, ne_eq] at he
    exact dec_false fun hh => he hh.1
theorem sound_implIsStateP : Sound Try.prog 98 s_isStateP :=
  Sound.mkS tabOK (envCons sound_lenL (envCons sound_implIsPerm envNil)) mixed Try.func98 (by kernel_rfl) (by kernel_rfl) fun x h => p_implIsStateP x.1 x.2.1 h
theorem p_specIsState (p : PP) (s : List Int) (h : shortP p ∧ short s) : fnW tab (look [(66, s_validP), (111, s_permOf)]) s_isState Try.f85 (p, s, ()) (fun (z : Bool) => z = (m_validP p && m_genOK p.1 s)) := by
  refine Eq.mp (w_specIsState p s _) ⟨_, if_pos h.1, ⟨fun he => ⟨_, if_pos h.2, ?_⟩, fun he => ?_⟩⟩
  · have he : m_validP p = true := he
    rw [he]; rfl
  · have he : m_validP p = false := he
    rw [he]; rfl
theorem sound_specIsState : Sound Try.prog 85 s_isState :=
  Sound.mkS tabOK (envCons sound_specValidP (envCons sound_permOf envNil)) mixed Try.func85 (by kernel_rfl) (by kernel_rfl) fun x h => p_specIsState x.1 x.2.1 h
theorem p_implIsState (p : PP) (s : List Int) (h : shortP p ∧ short s) : fnW tab (look [(67, s_validP), (98, s_isStateP)]) s_isState Try.f87 (p, s, ()) (fun (z : Bool) => z = (m_validP p && m_genOK p.1 s)) := by
  refine Eq.mp (w_implIsState p s _) ⟨_, if_pos h.1, ⟨fun he => ⟨_, if_pos h.2, ?_⟩, fun he => ?_⟩⟩
  · have he : m_validP p = true := he
    rw [he]; rfl
  · have he : m_validP p = false := he
    rw [he]; rfl
theorem sound_implIsState : Sound Try.prog 87 s_isState :=
  Sound.mkS tabOK (envCons sound_implValidP (envCons sound_implIsStateP envNil)) mixed Try.func87 (by kernel_rfl) (by kernel_rfl) fun x h => p_implIsState x.1 x.2.1 h
end Go.Proofs.Ytingphpncocimaa
