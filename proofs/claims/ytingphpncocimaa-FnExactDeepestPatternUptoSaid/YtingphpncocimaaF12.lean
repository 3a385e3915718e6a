/-
  Contracts: DeepestPattern.
-/
import Derived.Test.YtingphpncocimaaF10
namespace Go.Proofs.Ytingphpncocimaa
open Go.RowKit

noncomputable abbrev s_cloneO : MSpec := mkM [none] [(false, .dat (.oslice tI))] false [none] [rL] (fun x => short (x.1.getD [])) (fun x => ((x.1.getD [], ()), ()))
noncomputable abbrev s_cloneM : MSpec := mkM [none] [(false, .dat tL)] false [none] [rL] (fun x => short x.1) (fun x => ((x.1, ()), ()))
noncomputable abbrev s_copyInts : Spec := mkS (.pair tL .unit) tL false true (fun x => short x.1) (fun x => x.1)
/-- The first entry with the greatest distance. -/
def m_deepAt (t : TT) : List Int := t.2.1.getD (m_index t.2.2.1 (m_max t.2.2.1) 0).toNat []
noncomputable def m_deep (t : TT) : List Int := if m_wellFormed t = true then m_deepAt t else []
noncomputable abbrev s_implDeep : MSpec := mkM [some 3] [(false, .dat tL), (false, .dat tLL), (false, .dat tL)] false [none] [rL] (fun x => shortT (x.1, x.2.1, x.2.2.1, ())) (fun x => ((m_deep (x.1, x.2.1, x.2.2.1, ()), ()), ()))
noncomputable abbrev s_specDeep : Spec := mkS (.pair tTable .unit) tL false true (fun x => shortT x.1) (fun x => m_deep x.1)
theorem w_cloneO (xs : Option (List Int)) (P : ((List Int × Unit) × Unit) → Prop) : (Br xs.isNone (P ((List.take (0 : Nat) (List.drop (0 : Nat) []), ()), ()))
  ((0 : Nat) = (0 : Nat) ∧ (0 : Nat) = ([] : List Int).length ∧ (0 : Nat) + (xs.getD []).length ≤ maxRow ∧ P ((List.take ([] ++ xs.getD []).length (List.drop (0 : Nat) ([] ++ xs.getD [])), ()), ()))) = fnMW tabT (look []) s_cloneO Try.f73 (xs, ()) P := by kernel_rfl
theorem w_copyInts (xs : List Int) (P : List Int → Prop) : ((0 : Nat) = (0 : Nat) ∧ (0 : Nat) = ([] : List Int).length ∧ (0 : Nat) + xs.length ≤ maxRow ∧ P (List.take ([] ++ xs).length (List.drop (0 : Nat) ([] ++ xs)))) = fnW tab (look []) s_copyInts Try.f72 (xs, ()) P := by kernel_rfl
theorem w_implDeep (a : List Int) (b : List (List Int)) (c : List Int) (P : ((List Int × Unit) × Unit) → Prop) : (∃ (y4 : Bool),
  s_wellFormed.fn ((a, b, c, ()), ()) = some y4 ∧
    Br (!y4) (P ((List.take (0 : Nat) (List.drop (0 : Nat) []), ()), ()))
      (∃ (y5 : Int),
        s_max.fn (c, ()) = some y5 ∧
          ∃ (y6 : Int),
            s_index.fn (c, y5, ()) = some y6 ∧
              ∃ (y7 : List Int), idx b y6 = some y7 ∧ ∃ (y8 : (List Int × PUnit) × PUnit), s_cloneM.fn (y7, ()) = some y8 ∧ P ((List.take y8.1.fst.length (List.drop (0 : Nat) y8.1.fst), ()), ()))) = fnMW tabT (look [(21, s_wellFormed), (75, s_max), (74, s_index), (73, s_cloneM)]) s_implDeep Try.f37 (a, b, c, ()) P := by kernel_rfl
theorem w_specDeep (t : List Int × List (List Int) × List Int × Unit) (P : List Int → Prop) : (∃ (y2 : Bool),
  s_wellFormed.fn ((t.fst, t.2.fst, t.snd.2.fst, ()), ()) = some y2 ∧
    Br (!y2) (P (List.take (0 : Nat) (List.drop (0 : Nat) [])))
      (WLoop
        (fun (v3 : Int × Int × List Int × List (List Int) × List Int × PUnit) (k4 : Int × Int × List Int × List (List Int) × List Int × PUnit → Prop) =>
          Br (decide (v3.2.fst < (↑v3.snd.2.snd.2.fst.length : Int)))
            (∃ (y5 : Int),
              idx v3.snd.2.snd.2.fst v3.2.fst = some y5 ∧
                ∃ (y6 : Int),
                  idx v3.snd.2.snd.2.fst v3.fst = some y6 ∧
                    Br (decide (y5 > y6)) (k4 (v3.2.fst, IntKind.i64.wrap (v3.2.fst + (1 : Int)), v3.snd.2.fst, v3.2.snd.2.fst, v3.snd.2.snd.2.fst, ()))
                      (k4 (v3.fst, IntKind.i64.wrap (v3.2.fst + (1 : Int)), v3.snd.2.fst, v3.2.snd.2.fst, v3.snd.2.snd.2.fst, ())))
            (∃ (y5 : List Int), idx v3.2.snd.2.fst v3.fst = some y5 ∧ ∃ (y6 : List Int), s_copyInts.fn (y5, ()) = some y6 ∧ P y6))
        ((0 : Int), (0 : Int), t.fst, t.2.fst, t.snd.2.fst, PUnit.unit))) = fnW tab (look [(20, s_wellFormed), (72, s_copyInts)]) s_specDeep Try.f36 (t, ()) P := by kernel_rfl
theorem w_lawDeep (t : List Int × List (List Int) × List Int × Unit) (P : Bool → Prop) : (∃ (y2 : Int),
  s_szTable.fn ((t.fst, t.2.fst, t.snd.2.fst, ()), (1048576 : Int), ()) = some y2 ∧
    Br (decide (y2 < (0 : Int))) (P true)
      (∃ (y3 : (List Int × List (List Int) × List Int × PUnit) × PUnit),
        s_toTablem.fn (t.fst, t.2.fst, t.snd.2.fst, ()) = some y3 ∧
          ∃ (y4 : List Int),
            s_specDeep.fn
                  ((List.take y3.1.fst.length (List.drop (0 : Nat) y3.1.fst), List.take y3.fst.2.fst.length (List.drop (0 : Nat) y3.fst.2.fst),
                      List.take y3.1.snd.2.fst.length (List.drop (0 : Nat) y3.1.snd.2.fst), ()),
                    ()) =
                some y4 ∧
              ∃ (y5 : (List Int × List (List Int) × List Int × PUnit) × PUnit),
                s_toTablem.fn (t.fst, t.2.fst, t.snd.2.fst, ()) = some y5 ∧
                  ∃ (y6 : (List Int × PUnit) × PUnit),
                    s_implDeep.fn
                          (List.take y5.1.fst.length (List.drop (0 : Nat) y5.1.fst), List.take y5.fst.2.fst.length (List.drop (0 : Nat) y5.fst.2.fst),
                            List.take y5.1.snd.2.fst.length (List.drop (0 : Nat) y5.1.snd.2.fst), ()) =
                        some y6 ∧
                      ∃ (y7 : Bool),
                        s_equalInts.fn (List.take y6.1.fst.length (List.drop (0 : Nat) y6.1.fst), y4, ()) = some y7 ∧
                          Br (!y7) (P false)
                            (∃ (y8 : List Int × List (List Int) × List Int × PUnit),
                              s_toTable.fn ((t.fst, t.2.fst, t.snd.2.fst, ()), ()) = some y8 ∧
                                ∃ (y9 : Bool),
                                  s_eqTable.fn
                                        ((List.take y5.1.fst.length (List.drop (0 : Nat) y5.1.fst), List.take y5.fst.2.fst.length (List.drop (0 : Nat) y5.fst.2.fst),
                                            List.take y5.1.snd.2.fst.length (List.drop (0 : Nat) y5.1.snd.2.fst), ()),
                                          y8, ()) =
                                      some y9 ∧
                                    Br (!y9) (P false)
                                      ((0 : Nat) = (0 : Nat) ∧
                                        y5.1.fst.length = y5.1.fst.length ∧
                                          (0 : Nat) = (0 : Nat) ∧
                                            y5.fst.2.fst.length = y5.fst.2.fst.length ∧
                                              (0 : Nat) = (0 : Nat) ∧
                                                y5.1.snd.2.fst.length = y5.1.snd.2.fst.length ∧
                                                  ∃ (y10 : (Int × PUnit) × List Int × List (List Int) × List Int × PUnit),
                                                    s_markTable.fn (y5.1.fst, y5.fst.2.fst, y5.1.snd.2.fst, (1 : Int), ()) = some y10 ∧
                                                      (y10.2.fst.length = y5.1.fst.length ∧ y5.1.fst.length = y5.1.fst.length) ∧
                                                        (y10.snd.2.fst.length = y5.fst.2.fst.length ∧ y5.fst.2.fst.length = y5.fst.2.fst.length) ∧
                                                          (y10.2.snd.2.fst.length = y5.1.snd.2.fst.length ∧ y5.1.snd.2.fst.length = y5.1.snd.2.fst.length) ∧
                                                            Br (decide (y10.1.fst < (0 : Int))) (P false)
                                                              (∃ (y11 : Bool),
                                                                s_equalInts.fn (List.take y6.1.fst.length (List.drop (0 : Nat) y6.1.fst), y4, ()) = some y11 ∧
                                                                  Br (!y11) (P false)
                                                                    ((0 : Nat) = (0 : Nat) ∧
                                                                      y6.1.fst.length = y6.1.fst.length ∧
                                                                        ∃ (y12 : (Int × PUnit) × List Int × PUnit),
                                                                          s_markL.fn (y6.1.fst, (1 : Int), ()) = some y12 ∧
                                                                            (y12.2.fst.length = y6.1.fst.length ∧ y6.1.fst.length = y6.1.fst.length) ∧
                                                                              ∃ (y13 : Int),
                                                                                s_heldL.fn (List.take y6.1.fst.length (List.drop (0 : Nat) y12.2.fst), (1 : Int), ()) = some y13 ∧
                                                                                  Br (decide (y13 < (0 : Int))) (P false)
                                                                                    (Br (y13 != y12.1.fst) (P false)
                                                                                      (∃ (y14 : (List Int × List (List Int) × List Int × PUnit) × PUnit),
                                                                                        s_toTablem.fn (t.fst, t.2.fst, t.snd.2.fst, ()) = some y14 ∧
                                                                                          ∃ (y15 : (List Int × PUnit) × PUnit),
                                                                                            s_implDeep.fn
                                                                                                  (List.take y14.1.fst.length (List.drop (0 : Nat) y14.1.fst),
                                                                                                    List.take y14.fst.2.fst.length (List.drop (0 : Nat) y14.fst.2.fst),
                                                                                                    List.take y14.1.snd.2.fst.length (List.drop (0 : Nat) y14.1.snd.2.fst), ()) =
                                                                                                some y15 ∧
                                                                                              ∃ (y16 : Bool),
                                                                                                s_equalInts.fn (List.take y15.1.fst.length (List.drop (0 : Nat) y15.1.fst), y4, ()) = some y16 ∧
                                                                                                  Br (!y16) (P false)
                                                                                                    (∃ (y17 : Int),
                                                                                                      s_heldL.fn (List.take y6.1.fst.length (List.drop (0 : Nat) y12.2.fst), (1 : Int), ()) = some y17 ∧
                                                                                                        Br (decide (y17 < (0 : Int))) (P false) (Br (y17 != y12.1.fst) (P false) (P true))))))))))) = fnW tab (look [(15, s_szTable), (36, s_specDeep), (37, s_implDeep), (17, ASpec.b s_toTable s_toTablem), (28, s_equalInts), (19, s_eqTable), (31, s_markTable), (32, s_markL), (33, s_heldL)]) s_lawT Try.f8 (t, ()) P := by kernel_rfl
theorem p_cloneO (xs : Option (List Int)) (h : short (xs.getD [])) : fnMW tabT (look []) s_cloneO Try.f73 (xs, ()) (fun (z : (List Int × Unit) × Unit) => z = ((xs.getD [], ()), ())) := by
  unfold short at h
  refine Eq.mp (w_cloneO xs _) ⟨fun hn => ?_, fun _ => ⟨rfl, rfl, by show 0 + (xs.getD []).length ≤ 4294967296; omega, ?_⟩⟩
  · cases xs with
    | none => rfl
    | some y => cases hn
  · simp only [whole_row, List.nil_append]
theorem sound_cloneO : MSound Try.prog 73 s_cloneO :=
  MSound.mkM tabTOK envNil mixed Try.func73 (by kernel_rfl) (by kernel_rfl) fun x h => p_cloneO x.1 h
theorem sound_cloneM : MSound Try.prog 73 s_cloneM := MSound.ofO sound_cloneO fun _ _ h => ⟨h, rfl⟩
theorem p_copyInts (xs : List Int) (h : short xs) : fnW tab (look []) s_copyInts Try.f72 (xs, ()) (fun (z : List Int) => z = xs) := by
  unfold short at h
  refine Eq.mp (w_copyInts xs _) ⟨rfl, rfl, by show 0 + xs.length ≤ 4294967296; omega, ?_⟩
  simp only [whole_row, List.nil_append]
theorem sound_copyInts : Sound Try.prog 72 s_copyInts :=
  Sound.mkS tabOK envNil mixed Try.func72 (by kernel_rfl) (by kernel_rfl) fun x h => p_copyInts x.1 h
theorem m_index_spec : ∀ (xs : List Int) (x i : Int), x ∈ xs → ∃ j : Nat, m_index xs x i = i + j ∧ xs[j]? = some x ∧ ∀ k, k < j → xs[k]? ≠ some x
  | [], x, i, h => by cases h
  | y :: r, x, i, h => by
    simp only [m_index]
    split
    · rename_i hy; subst hy
      exact ⟨0, by simp, rfl, fun k hk => absurd hk (Nat.not_lt_zero _)⟩
    · rename_i hy
      have hr : x ∈ r := by
        rcases List.mem_cons.1 h with h | h
        · exact absurd h.symm hy
        · exact h
      obtain ⟨j, h1, h2, h3⟩ := m_index_spec r x (i + 1) hr
      refine ⟨j + 1, by rw [h1]; omega, by simpa using h2, fun k hk => ?_⟩
      rcases k with _ | k
      · simpa using hy
      · simpa using h3 k (by omega)
theorem deep_facts {t : TT} (hs : shortT t) (h : m_wellFormed t = true) : ∃ j : Nat, m_index t.2.2.1 (m_max t.2.2.1) 0 = j ∧ j < t.2.2.1.length ∧ j < t.2.1.length ∧ t.2.2.1[j]? = some (m_max t.2.2.1) ∧ ∀ k, k < j → t.2.2.1[k]? ≠ some (m_max t.2.2.1) := by
  have hsm := wf_small hs h
  obtain ⟨_, _, h3, _⟩ := dec_iff.1 h
  obtain ⟨j, h1, h2, h4⟩ := m_index_spec t.2.2.1 _ 0 (m_max_mem hsm.1)
  have hj := (List.getElem?_eq_some_iff.1 h2).1
  exact ⟨j, by rw [h1]; omega, hj, by omega, h2, h4⟩
theorem deepAt_get {t : TT} {j : Nat} (h : m_index t.2.2.1 (m_max t.2.2.1) 0 = j) (hj : j < t.2.1.length) : m_deepAt t = t.2.1[j] := by
  unfold m_deepAt
  rw [h, Int.toNat_natCast, List.getD_eq_getElem?_getD, List.getElem?_eq_getElem hj]; rfl
theorem p_implDeep (a : List Int) (b : List (List Int)) (c : List Int) (h : shortT (a, b, c, ())) : fnMW tabT (look [(21, s_wellFormed), (75, s_max), (74, s_index), (73, s_cloneM)]) s_implDeep Try.f37 (a, b, c, ()) (fun (z : (List Int × Unit) × Unit) => z = ((m_deep (a, b, c, ()), ()), ())) := by
  refine Eq.mp (w_implDeep a b c _) ⟨_, if_pos h, ⟨fun hn => ?_, fun hn => ?_⟩⟩
  · have hn : ¬ m_wellFormed (a, b, c, ()) = true := bnot_true hn
    show ((List.take 0 (List.drop 0 []), ()), ()) = _
    unfold m_deep
    rw [if_neg hn]; rfl
  · have hn : m_wellFormed (a, b, c, ()) = true := bnot_false hn
    obtain ⟨j, h1, h2, h3, h4, h5⟩ := deep_facts h hn
    have hsm := wf_small h hn
    have h1' : m_index c (m_max c) 0 = j := h1
    have h3' : j < b.length := h3
    refine ⟨_, if_pos ⟨hsm.1, h.2.2⟩, _, if_pos h.2.2, ?_⟩
    dsimp only
    rw [h1']
    refine ⟨_, idx_nat h3', _, if_pos (h.2.1.2 _ (List.getElem_mem h3')), ?_⟩
    simp only [whole_row]
    unfold m_deep
    rw [if_pos hn, deepAt_get h1 h3]
theorem sound_implDeep : MSound Try.prog 37 s_implDeep :=
  MSound.mkM tabTOK (envCons sound_implWellFormed (envCons sound_max (envCons sound_index (envConsM sound_cloneM envNil)))) mixed Try.func37 (by kernel_rfl) (by kernel_rfl) fun x h => p_implDeep x.1 x.2.1 x.2.2.1 h
theorem p_specDeep (t : TT) (h : shortT t) : fnW tab (look [(20, s_wellFormed), (72, s_copyInts)]) s_specDeep Try.f36 (t, ()) (fun (z : List Int) => z = m_deep t) := by
  refine Eq.mp (w_specDeep t _) ⟨_, if_pos h, ⟨fun hn => ?_, fun hn => ?_⟩⟩
  · have hn : ¬ m_wellFormed t = true := bnot_true hn
    show List.take 0 (List.drop 0 []) = _
    unfold m_deep
    rw [if_neg hn]; rfl
  · have hn : m_wellFormed t = true := bnot_false hn
    obtain ⟨j0, g1, g2, g3, g4, g5⟩ := deep_facts h hn
    have hsm := wf_small h hn
    have hsh := hsm.2.1
    unfold short at hsh
    refine loop_range t.2.2.1.length (fun v => v.2.1) (fun j v => v.2.2.1 = t.1 ∧ v.2.2.2.1 = t.2.1 ∧ v.2.2.2.2.1 = t.2.2.1 ∧ ∃ (b : Nat) (hb : b < t.2.2.1.length), v.1 = b ∧ (∀ k (hk : k < t.2.2.1.length), k < b → t.2.2.1[k] < t.2.2.1[b]) ∧ (∀ k (hk : k < t.2.2.1.length), k < j → t.2.2.1[k] ≤ t.2.2.1[b])) rfl
      ⟨rfl, rfl, rfl, 0, hsm.1, rfl, fun k _ hk => absurd hk (Nat.not_lt_zero _), fun k _ hk => absurd hk (Nat.not_lt_zero _)⟩ ?_
    rintro j ⟨bb, i, a, b', c, ⟨⟩⟩ K hj hi ⟨e1, e2, e3, b, hb, e4, e5, e6⟩ hK
    dsimp only at hi e1 e2 e3 e4 ⊢
    subst hi; subst e1; subst e2; subst e3; subst e4
    refine Br.dec (fun hl => ?_) fun hl => ?_
    · have hl : j < t.2.2.1.length := by omega
      refine ⟨_, idx_nat hl, _, idx_nat hb, ?_⟩
      rw [wrap_nat (by omega)]
      refine Br.dec (fun hgt => ?_) fun hgt => ?_
      · refine hK hl _ rfl ⟨rfl, rfl, rfl, j, hl, rfl, fun k hk hkj => ?_, fun k hk hkj => ?_⟩
        · have := e6 k hk hkj; omega
        · by_cases e : k = j
          · subst e; exact Int.le_refl _
          · have := e6 k hk (by omega); omega
      · refine hK hl _ rfl ⟨rfl, rfl, rfl, b, hb, rfl, e5, fun k hk hkj => ?_⟩
        by_cases e : k = j
        · subst e; omega
        · exact e6 k hk (by omega)
    · have hj' : j = t.2.2.1.length := by omega
      subst hj'
      have hmax : m_max t.2.2.1 = t.2.2.1[b] := by
        have h1 := m_max_ge (List.getElem_mem hb)
        obtain ⟨k, hk, h2⟩ := List.getElem_of_mem (m_max_mem hsm.1)
        have h3 := e6 k hk hk
        omega
      have hbj : b = j0 := by
        rw [hmax] at g4 g5
        rcases Nat.lt_trichotomy b j0 with h1 | h1 | h1
        · exact absurd (List.getElem?_eq_getElem hb) (g5 b h1)
        · exact h1
        · have h2 := e5 j0 g2 h1
          rw [List.getElem?_eq_getElem g2] at g4
          have := Option.some.inj g4
          omega
      subst hbj
      refine ⟨_, idx_nat g3, _, if_pos (h.2.1.2 _ (List.getElem_mem g3)), ?_⟩
      unfold m_deep
      rw [if_pos hn, deepAt_get g1 g3]
theorem sound_specDeep : Sound Try.prog 36 s_specDeep :=
  Sound.mkS tabOK (envCons sound_specWellFormed (envCons sound_copyInts envNil)) mixed Try.func36 (by kernel_rfl) (by kernel_rfl) fun x h => p_specDeep x.1 h
theorem m_deep_short (t : TT) (h : shortT t) : short (m_deep t) := by
  unfold m_deep
  split
  · rename_i hn
    obtain ⟨j, g1, _, g3, _, _⟩ := deep_facts h hn
    rw [deepAt_get g1 g3]
    exact h.2.1.2 _ (List.getElem_mem g3)
  · simp [short]
theorem p_lawDeep (t : TT) (h : shortT t) : fnW tab (look [(15, s_szTable), (36, s_specDeep), (37, s_implDeep), (17, ASpec.b s_toTable s_toTablem), (28, s_equalInts), (19, s_eqTable), (31, s_markTable), (32, s_markL), (33, s_heldL)]) s_lawT Try.f8 (t, ()) (fun (z : Bool) => z = true) := by
  have h' : shortT (t.1, t.2.1, t.2.2.1, ()) := h
  refine Eq.mp (w_lawDeep t _) ⟨_, if_pos ⟨h', ⟨show (0 : Int) ≤ 1048576 by omega, show (1048576 : Int) ≤ 4294967296 by omega⟩⟩, Br.dec (fun _ => rfl) fun hsz => ?_⟩
  have hsz := sz_ok hsz
  dsimp only at hsz
  have hlow : low (1 + ((List.length t.1 + m_total t.2.1 + List.length t.2.2.1 : Nat) : Int)) := ⟨by omega, by omega⟩
  refine ⟨_, if_pos h', ?_⟩
  simp only [whole_row]
  refine ⟨_, if_pos h', _, if_pos h', ?_⟩
  simp only [whole_row]
  have hs := m_deep_short _ h'
  generalize hg : m_deep (t.1, t.2.1, t.2.2.1, ()) = g at hs
  refine ⟨_, if_pos h', ?_⟩
  simp only [whole_row, hg]
  refine ⟨_, if_pos hs, ⟨fun he => absurd (m_equalInts_self _) (bnot_true he), fun _ => ?_⟩⟩
  refine ⟨_, if_pos h', _, if_pos h', ⟨fun he => absurd (m_eqT_self _) (bnot_true he), fun _ => ?_⟩⟩
  refine ⟨trivial, trivial, trivial, trivial, trivial, trivial, _, if_pos ⟨h', low_one, hlow⟩, ⟨m_marks_len _ _, trivial⟩, ⟨m_marksLL_len _ _, trivial⟩, ⟨m_marks_len _ _, trivial⟩, Br.dec (fun hn => absurd hlow.1 (Int.not_le.2 hn)) fun _ => ?_⟩
  refine ⟨_, if_pos hs, ⟨fun he => absurd (m_equalInts_self _) (bnot_true he), fun _ => ?_⟩⟩
  refine ⟨trivial, trivial, _, if_pos ⟨hs, low_one⟩, ⟨m_marks_len _ _, trivial⟩, ?_⟩
  simp only [whole_marks]
  have hsm : short (m_marks 1 g.length) := by unfold short at *; rw [m_marks_len]; exact hs
  refine ⟨_, if_pos ⟨hsm, low_one⟩, ?_⟩
  simp only [m_heldL_marks]
  refine Br.dec (fun hn => by omega) fun _ => ⟨fun he => by simp at he, fun _ => ?_⟩
  refine ⟨_, if_pos h', ?_⟩
  simp only [whole_row]
  refine ⟨_, if_pos h', ?_⟩
  simp only [whole_row, hg]
  refine ⟨_, if_pos hs, ⟨fun he => absurd (m_equalInts_self _) (bnot_true he), fun _ => ?_⟩⟩
  refine ⟨_, if_pos ⟨hsm, low_one⟩, ?_⟩
  simp only [m_heldL_marks]
  exact Br.dec (fun hn => by omega) fun _ => ⟨fun he => by simp at he, fun _ => trivial⟩
theorem sound_lawDeep : Sound Try.prog 8 s_lawT :=
  Sound.mkS tabOK (envCons sound_szTable (envCons sound_specDeep (envConsM sound_implDeep (envConsB sound_toTable sound_toTablem (envCons sound_eqL (envCons sound_eqTable (envConsM sound_markTable (envConsM sound_markL (envCons sound_heldL envNil))))))))) mixed Try.func8 (by kernel_rfl) (by kernel_rfl) fun x h => p_lawDeep x.1 h
end Go.Proofs.Ytingphpncocimaa
