/-
  Contracts: StateImage.
-/
import Derived.Test.YtingphpncocimaaF10
namespace Go.Proofs.Ytingphpncocimaa
open Go.RowKit

noncomputable abbrev s_composeM : MSpec := mkM [none, none] [(false, .dat tL), (false, .dat tL)] false [none] [rL] (fun x => List.length x.1 ≤ 20 ∧ inRow (List.length x.2.1) x.1) (fun x => ((m_compose x.1 x.2.1, ()), ()))
noncomputable abbrev s_conjugateM : MSpec := mkM [none, none] [(false, .dat tL), (false, .dat tL)] false [none] [rL] (fun x => List.length x.1 = List.length x.2.1 ∧ inRow (List.length x.1) x.1 ∧ m_isPerm x.2.1 = true) (fun x => ((m_conj x.1 x.2.1, ()), ()))
noncomputable def m_stateOK (p : PP) (q s : List Int) : Bool := m_sym p q && m_genOK p.1 s
noncomputable def m_stateImage (p : PP) (q s : List Int) : List Int := if m_stateOK p q s = true then m_conj s q else []
noncomputable abbrev s_implStateImage : MSpec := mkM [some 3, none, none] [(false, .dat tI), (false, .dat .str), (false, .dat tLL), (false, .dat tL), (false, .dat tL)] true [none, none] [rL, .dat .bool]
  (fun x => shortP (x.1, x.2.1, x.2.2.1, ()) ∧ short x.2.2.2.1 ∧ short x.2.2.2.2.1) (fun x => ((m_stateImage (x.1, x.2.1, x.2.2.1, ()) x.2.2.2.1 x.2.2.2.2.1, m_stateOK (x.1, x.2.1, x.2.2.1, ()) x.2.2.2.1 x.2.2.2.2.1, ()), ()))
noncomputable abbrev s_specStateImage : Spec := mkS (.pair tPuzzle (.pair tL (.pair tL .unit))) (.pair tL (.pair .bool .unit)) true true (fun x => shortP x.1 ∧ short x.2.1 ∧ short x.2.2.1) (fun x => (m_stateImage x.1 x.2.1 x.2.2.1, m_stateOK x.1 x.2.1 x.2.2.1, ()))
noncomputable abbrev s_lawPLsLs : Spec := mkS (.pair tPuzzle (.pair tL (.pair tL .unit))) .bool false true (fun x => shortP x.1 ∧ short x.2.1 ∧ short x.2.2.1) (fun _ => true)
theorem w_composeM (p q : List Int) (P : ((List Int × Unit) × Unit) → Prop) : (((0 : Int) ≤ (↑p.length : Int) ∧ (↑p.length : Int) < (↑maxRow : Int) + (1 : Int)) ∧
  (↑p.length : Int) = (↑p.length : Int) ∧
    (0 : Nat) = (0 : Nat) ∧
      (List.replicate (↑p.length : Int).toNat (Int.ofNat (nat_lit 0))).length = (List.replicate (↑p.length : Int).toNat (Int.ofNat (nat_lit 0))).length ∧
        WLoop
          (fun (v3 : Int × List Int × PUnit) (k4 : Int × List Int × PUnit → Prop) =>
            Br (decide (v3.fst < (↑p.length : Int)))
              (∃ (y5 : Int),
                idx p v3.fst = some y5 ∧
                  ∃ (y6 : Int),
                    idx q y5 = some y6 ∧
                      ((0 : Int) ≤ v3.fst ∧ v3.fst < (↑v3.2.fst.length : Int)) ∧
                        (0 : Nat) + v3.fst.toNat < v3.2.fst.length ∧
                          (0 : Nat) = (0 : Nat) ∧
                            v3.2.fst.length = (v3.2.fst.set ((0 : Nat) + v3.fst.toNat) y6).length ∧ k4 (IntKind.i64.wrap (v3.fst + (1 : Int)), v3.2.fst.set ((0 : Nat) + v3.fst.toNat) y6, ()))
              (P ((List.take v3.2.fst.length (List.drop (0 : Nat) v3.2.fst), ()), ())))
          ((0 : Int), List.replicate (↑p.length : Int).toNat (Int.ofNat (nat_lit 0)), PUnit.unit)) = fnMW tabT (look []) s_composeM Try.f117 (p, q, ()) P := by kernel_rfl
theorem w_conjugateM (p q : List Int) (P : ((List Int × Unit) × Unit) → Prop) : (∃ (y3 : List Int),
  s_inverse.fn (q, ()) = some y3 ∧
    ∃ (y4 : (List Int × PUnit) × PUnit),
      s_composeM.fn (y3, p, ()) = some y4 ∧
        ∃ (y5 : (List Int × PUnit) × PUnit),
          s_composeM.fn (List.take y4.1.fst.length (List.drop (0 : Nat) y4.1.fst), q, ()) = some y5 ∧ P ((List.take y5.1.fst.length (List.drop (0 : Nat) y5.1.fst), ()), ())) = fnMW tabT (look [(118, s_inverse), (117, ASpec.b s_compose s_composeM)]) s_conjugateM Try.f99 (p, q, ()) P := by kernel_rfl
theorem w_implStateImage (n : Int) (str : ByteArray) (g : List (List Int)) (q s : List Int) (P : ((List Int × Bool × Unit) × Unit) → Prop) : (∃ (y6 : Bool),
  s_isSym.fn ((n, str, g, ()), q, ()) = some y6 ∧
    Br (!y6) (P ((List.take (0 : Nat) (List.drop (0 : Nat) []), false, ()), ()))
      (∃ (y7 : Bool),
        s_isStateP.fn ((n, str, g, ()), s, ()) = some y7 ∧
          Br (!y7) (P ((List.take (0 : Nat) (List.drop (0 : Nat) []), false, ()), ()))
            (∃ (y8 : (List Int × PUnit) × PUnit), s_conjugateM.fn (s, q, ()) = some y8 ∧ P ((List.take y8.1.fst.length (List.drop (0 : Nat) y8.1.fst), true, ()), ())))) = fnMW tabT (look [(47, s_isSym), (98, s_isStateP), (99, s_conjugateM)]) s_implStateImage Try.f54 (n, str, g, q, s, ()) P := by kernel_rfl
theorem w_specStateImage (p : Int × ByteArray × List (List Int) × Unit) (q s : List Int) (P : (List Int × Bool × Unit) → Prop) : (∃ (y4 : Bool),
  s_isSym.fn ((p.fst, p.2.fst, p.snd.2.fst, ()), q, ()) = some y4 ∧
    Br (!y4) (P (List.take (0 : Nat) (List.drop (0 : Nat) []), false, ()))
      (∃ (y5 : Bool),
        s_isState.fn ((p.fst, p.2.fst, p.snd.2.fst, ()), s, ()) = some y5 ∧
          Br (!y5) (P (List.take (0 : Nat) (List.drop (0 : Nat) []), false, ())) (∃ (y6 : List Int), s_imageUnder.fn (q, s, ()) = some y6 ∧ P (y6, true, ())))) = fnW tab (look [(46, s_isSym), (85, s_isState), (97, s_imageUnder)]) s_specStateImage Try.f53 (p, q, s, ()) P := by kernel_rfl
theorem w_lawStateImage (p : Int × ByteArray × List (List Int) × Unit) (q s : List Int) (P : Bool → Prop) : (Br (decide ((↑q.length : Int) > (1048576 : Int))) (P true)
  (Br (decide ((↑s.length : Int) > (1048576 : Int))) (P true)
    (∃ (y4 : Int),
      s_szP.fn ((p.fst, p.2.fst, p.snd.2.fst, ()), (1048576 : Int), ()) = some y4 ∧
        Br (decide (y4 < (0 : Int))) (P true)
          (∃ (y5 : (Int × ByteArray × List (List Int) × PUnit) × PUnit),
            s_toPuzzlem.fn (p.fst, p.2.fst, p.snd.2.fst, ()) = some y5 ∧
              ∃ (y6 : (List Int × PUnit) × PUnit),
                s_toLm.fn (q, ()) = some y6 ∧
                  ∃ (y7 : (List Int × PUnit) × PUnit),
                    s_toLm.fn (s, ()) = some y7 ∧
                      ∃ (y8 : List Int × Bool × PUnit),
                        s_specStateImage.fn
                              ((y5.1.fst, y5.fst.2.fst, List.take y5.1.snd.2.fst.length (List.drop (0 : Nat) y5.1.snd.2.fst), ()), List.take y6.1.fst.length (List.drop (0 : Nat) y6.1.fst),
                                List.take y7.1.fst.length (List.drop (0 : Nat) y7.1.fst), ()) =
                            some y8 ∧
                          ∃ (y9 : (Int × ByteArray × List (List Int) × PUnit) × PUnit),
                            s_toPuzzlem.fn (p.fst, p.2.fst, p.snd.2.fst, ()) = some y9 ∧
                              ∃ (y10 : (List Int × PUnit) × PUnit),
                                s_toLm.fn (q, ()) = some y10 ∧
                                  ∃ (y11 : (List Int × PUnit) × PUnit),
                                    s_toLm.fn (s, ()) = some y11 ∧
                                      ∃ (y12 : (List Int × Bool × PUnit) × PUnit),
                                        s_implStateImage.fn
                                              (y9.1.fst, y9.fst.2.fst, List.take y9.1.snd.2.fst.length (List.drop (0 : Nat) y9.1.snd.2.fst), List.take y10.1.fst.length (List.drop (0 : Nat) y10.1.fst),
                                                List.take y11.1.fst.length (List.drop (0 : Nat) y11.1.fst), ()) =
                                            some y12 ∧
                                          ∃ (y13 : Bool),
                                            s_equalInts.fn (List.take y12.1.fst.length (List.drop (0 : Nat) y12.1.fst), y8.fst, ()) = some y13 ∧
                                              Br (!y13) (P false)
                                                (Br (!y12.fst.2.fst == y8.2.fst) (P false)
                                                  (∃ (y14 : Int × ByteArray × List (List Int) × PUnit),
                                                    s_toP.fn ((p.fst, p.2.fst, p.snd.2.fst, ()), ()) = some y14 ∧
                                                      ∃ (y15 : Bool),
                                                        s_eqP.fn ((y9.1.fst, y9.fst.2.fst, List.take y9.1.snd.2.fst.length (List.drop (0 : Nat) y9.1.snd.2.fst), ()), y14, ()) = some y15 ∧
                                                          Br (!y15) (P false)
                                                            (∃ (y16 : (List Int × PUnit) × PUnit),
                                                              s_toLm.fn (q, ()) = some y16 ∧
                                                                ∃ (y17 : Bool),
                                                                  s_equalInts.fn
                                                                        (List.take y10.1.fst.length (List.drop (0 : Nat) y10.1.fst), List.take y16.1.fst.length (List.drop (0 : Nat) y16.1.fst), ()) =
                                                                      some y17 ∧
                                                                    Br (!y17) (P false)
                                                                      (∃ (y18 : (List Int × PUnit) × PUnit),
                                                                        s_toLm.fn (s, ()) = some y18 ∧
                                                                          ∃ (y19 : Bool),
                                                                            s_equalInts.fn
                                                                                  (List.take y11.1.fst.length (List.drop (0 : Nat) y11.1.fst),
                                                                                    List.take y18.1.fst.length (List.drop (0 : Nat) y18.1.fst), ()) =
                                                                                some y19 ∧
                                                                              Br (!y19) (P false)
                                                                                ((0 : Nat) = (0 : Nat) ∧
                                                                                  y9.1.snd.2.fst.length = y9.1.snd.2.fst.length ∧
                                                                                    ∃ (y20 : (Int × PUnit) × List (List Int) × PUnit),
                                                                                      s_markPuzzle.fn (y9.1.fst, y9.fst.2.fst, y9.1.snd.2.fst, (1 : Int), ()) = some y20 ∧
                                                                                        (y20.2.fst.length = y9.1.snd.2.fst.length ∧ y9.1.snd.2.fst.length = y9.1.snd.2.fst.length) ∧
                                                                                          (0 : Nat) = (0 : Nat) ∧
                                                                                            y10.1.fst.length = y10.1.fst.length ∧
                                                                                              ∃ (y21 : (Int × PUnit) × List Int × PUnit),
                                                                                                s_markL.fn (y10.1.fst, y20.1.fst, ()) = some y21 ∧
                                                                                                  (y21.2.fst.length = y10.1.fst.length ∧ y10.1.fst.length = y10.1.fst.length) ∧
                                                                                                    (0 : Nat) = (0 : Nat) ∧
                                                                                                      y11.1.fst.length = y11.1.fst.length ∧
                                                                                                        ∃ (y22 : (Int × PUnit) × List Int × PUnit),
                                                                                                          s_markL.fn (y11.1.fst, y21.1.fst, ()) = some y22 ∧
                                                                                                            (y22.2.fst.length = y11.1.fst.length ∧ y11.1.fst.length = y11.1.fst.length) ∧
                                                                                                              Br (decide (y22.1.fst < (0 : Int))) (P false)
                                                                                                                (∃ (y23 : Bool),
                                                                                                                  s_equalInts.fn
                                                                                                                        (List.take y12.1.fst.length (List.drop (0 : Nat) y12.1.fst), y8.fst, ()) =
                                                                                                                      some y23 ∧
                                                                                                                    Br (!y23) (P false)
                                                                                                                      (Br (!y12.fst.2.fst == y8.2.fst) (P false)
                                                                                                                        ((0 : Nat) = (0 : Nat) ∧
                                                                                                                          y12.1.fst.length = y12.1.fst.length ∧
                                                                                                                            ∃ (y24 : (Int × PUnit) × List Int × PUnit),
                                                                                                                              s_markL.fn (y12.1.fst, (1 : Int), ()) = some y24 ∧
                                                                                                                                (y24.2.fst.length = y12.1.fst.length ∧
                                                                                                                                    y12.1.fst.length = y12.1.fst.length) ∧
                                                                                                                                  ∃ (y25 : Int),
                                                                                                                                    s_heldL.fn
                                                                                                                                          (List.take y12.1.fst.length (List.drop (0 : Nat) y24.2.fst),
                                                                                                                                            (1 : Int), ()) =
                                                                                                                                        some y25 ∧
                                                                                                                                      Br (decide (y25 < (0 : Int))) (P false)
                                                                                                                                        (Br (y25 != y24.1.fst) (P false)
                                                                                                                                          (∃ (y26 :
                                                                                                                                            (Int × ByteArray × List (List Int) × PUnit) × PUnit),
                                                                                                                                            s_toPuzzlem.fn (p.fst, p.2.fst, p.snd.2.fst, ()) =
                                                                                                                                                some y26 ∧
                                                                                                                                              ∃ (y27 : (List Int × PUnit) × PUnit),
                                                                                                                                                s_toLm.fn (q, ()) = some y27 ∧
                                                                                                                                                  ∃ (y28 : (List Int × PUnit) × PUnit),
                                                                                                                                                    s_toLm.fn (s, ()) = some y28 ∧
                                                                                                                                                      ∃ (y29 : (List Int × Bool × PUnit) × PUnit),
                                                                                                                                                        s_implStateImage.fn
                                                                                                                                                              (y26.1.fst, y26.fst.2.fst,
                                                                                                                                                                List.take y26.1.snd.2.fst.length
                                                                                                                                                                  (List.drop (0 : Nat) y26.1.snd.2.fst),
                                                                                                                                                                List.take y27.1.fst.length
                                                                                                                                                                  (List.drop (0 : Nat) y27.1.fst),
                                                                                                                                                                List.take y28.1.fst.length
                                                                                                                                                                  (List.drop (0 : Nat) y28.1.fst),
                                                                                                                                                                ()) =
                                                                                                                                                            some y29 ∧
                                                                                                                                                          ∃ (y30 : Bool),
                                                                                                                                                            s_equalInts.fn
                                                                                                                                                                  (List.take y29.1.fst.length
                                                                                                                                                                      (List.drop (0 : Nat) y29.1.fst),
                                                                                                                                                                    y8.fst, ()) =
                                                                                                                                                                some y30 ∧
                                                                                                                                                              Br (!y30) (P false)
                                                                                                                                                                (Br (!y29.fst.2.fst == y8.2.fst)
                                                                                                                                                                  (P false)
                                                                                                                                                                  (∃ (y31 : Int),
                                                                                                                                                                    s_heldL.fn
                                                                                                                                                                          (List.take y12.1.fst.length
                                                                                                                                                                              (List.drop (0 : Nat)
                                                                                                                                                                                y24.2.fst),
                                                                                                                                                                            (1 : Int), ()) =
                                                                                                                                                                        some y31 ∧
                                                                                                                                                                      Br (decide (y31 < (0 : Int)))
                                                                                                                                                                        (P false)
                                                                                                                                                                        (Br (y31 != y24.1.fst) (P false)
                                                                                                                                                                          (P true)))))))))))))))))) = fnW tab (look [(22, s_szP), (53, s_specStateImage), (54, s_implStateImage), (24, ASpec.b s_toP s_toPuzzlem), (25, ASpec.b s_toL s_toLm), (28, s_equalInts), (27, s_eqP), (45, s_markPuzzle), (32, s_markL), (33, s_heldL)]) s_lawPLsLs Try.f14 (p, q, s, ()) P := by kernel_rfl
theorem p_composeM (p q : List Int) (h : p.length ≤ 20 ∧ inRow q.length p) : fnMW tabT (look []) s_composeM Try.f117 (p, q, ()) (fun (z : (List Int × Unit) × Unit) => z = ((m_compose p q, ()), ())) := by
  obtain ⟨h, hr⟩ := h
  refine Eq.mp (w_composeM p q _) ?_
  refine ⟨⟨by omega, by show (p.length : Int) < (4294967296 : Int) + 1; omega⟩, rfl, rfl, rfl, ?_⟩
  have hcl := compose_len p q
  refine loop_range p.length (fun v => v.1) (fun j v => v.2.1.length = (m_compose p q).length ∧ v.2.1.take j = (m_compose p q).take j) rfl ⟨by rw [hcl]; simp, by simp⟩ ?_
  rintro j ⟨i, ys, ⟨⟩⟩ K hj hi ⟨h1, h2⟩ hK
  dsimp only at hi h1 h2 ⊢
  subst hi
  refine Br.dec (fun hl => ?_) fun hl => ?_
  · have hl : j < p.length := by omega
    have hy := hr _ (List.getElem_mem hl)
    refine ⟨_, idx_nat hl, _, idx_gets hy.1 hy.2, ⟨by omega, by omega⟩, by rw [Int.toNat_natCast]; omega, rfl, by rw [List.length_set], ?_⟩
    rw [wrap_nat (by omega), Int.toNat_natCast, Nat.zero_add]
    have hl' : j < (m_compose p q).length := by rw [hcl]; exact hl
    have e : gets q p[j] = (m_compose p q)[j] := by simp [m_compose]
    rw [e]
    exact hK hl _ rfl ⟨by rw [List.length_set]; exact h1, take_set_succ hl' h1 h2⟩
  · have : j = p.length := by omega
    subst this
    rw [← hcl, List.take_length, ← h1, List.take_length] at h2
    rw [whole_row, h2]
theorem sound_composeM : MSound Try.prog 117 s_composeM :=
  MSound.mkM tabTOK envNil mixed Try.func117 (by kernel_rfl) (by kernel_rfl) fun x h => p_composeM x.1 x.2.1 h
theorem p_conjugateM (p q : List Int) (h : p.length = q.length ∧ inRow p.length p ∧ m_isPerm q = true) : fnMW tabT (look [(118, s_inverse), (117, ASpec.b s_compose s_composeM)]) s_conjugateM Try.f99 (p, q, ()) (fun (z : (List Int × Unit) × Unit) => z = ((m_conj p q, ()), ())) := by
  obtain ⟨hl, hr, hq⟩ := h
  have hq := permOK hq
  have h20 := hq.len
  have a1 : (m_inverse q).length ≤ 20 := by rw [inv_len]; exact h20
  have a2 : inRow p.length (m_inverse q) := by rw [hl]; exact inv_row hq
  have a3 : (m_compose (m_inverse q) p).length ≤ 20 := by rw [compose_len, inv_len]; exact h20
  have a4 : inRow q.length (m_compose (m_inverse q) p) := compose_row (by rw [hl]; exact inv_row hq) (by rw [← hl]; exact hr)
  refine Eq.mp (w_conjugateM p q _) ⟨_, if_pos ⟨hq.len, hq.row⟩, _, if_pos ⟨a1, a2⟩, ?_⟩
  simp only [whole_row]
  refine ⟨_, if_pos ⟨a3, a4⟩, ?_⟩
  simp only [whole_row]
  rfl
theorem sound_conjugateM : MSound Try.prog 99 s_conjugateM :=
  MSound.mkM tabTOK (envCons sound_implInverse (envConsB sound_implCompose sound_composeM envNil)) mixed Try.func99 (by kernel_rfl) (by kernel_rfl) fun x h => p_conjugateM x.1 x.2.1 h
theorem stateOK_conj {p : PP} {q s : List Int} (h1 : m_sym p q = true) (h2 : m_genOK p.1 s = true) : s.length = q.length ∧ inRow s.length s ∧ m_isPerm q = true := by
  obtain ⟨h3, h4⟩ := dec_iff.1 (sym_facts h1).2
  obtain ⟨h5, h6⟩ := dec_iff.1 h2
  exact ⟨by omega, (permOK h6).row, h4⟩
theorem p_implStateImage (n : Int) (str : ByteArray) (g : List (List Int)) (q s : List Int) (h : shortP (n, str, g, ()) ∧ short q ∧ short s) : fnMW tabT (look [(47, s_isSym), (98, s_isStateP), (99, s_conjugateM)]) s_implStateImage Try.f54 (n, str, g, q, s, ()) (fun (z : (List Int × Bool × Unit) × Unit) => z = ((m_stateImage (n, str, g, ()) q s, m_stateOK (n, str, g, ()) q s, ()), ())) := by
  refine Eq.mp (w_implStateImage n str g q s _) ⟨_, if_pos ⟨h.1, h.2.1⟩, ⟨fun hn => ?_, fun hn => ⟨_, if_pos h.2.2, ⟨fun hm => ?_, fun hm => ?_⟩⟩⟩⟩
  · have hn : m_sym (n, str, g, ()) q = false := Bool.eq_false_iff.2 (bnot_true hn)
    have e : m_stateOK (n, str, g, ()) q s = false := by unfold m_stateOK; rw [hn]; rfl
    unfold m_stateImage; rw [e]; rfl
  · have hm : m_genOK n s = false := Bool.eq_false_iff.2 (bnot_true hm)
    have e : m_stateOK (n, str, g, ()) q s = false := by unfold m_stateOK; rw [show m_genOK (n, str, g, ()).1 s = false from hm, Bool.and_false]
    unfold m_stateImage; rw [e]; rfl
  · have hn : m_sym (n, str, g, ()) q = true := bnot_false hn
    have hm : m_genOK (n, str, g, ()).1 s = true := bnot_false hm
    have e : m_stateOK (n, str, g, ()) q s = true := by unfold m_stateOK; rw [hn, hm]; rfl
    refine ⟨_, if_pos (stateOK_conj hn hm), ?_⟩
    simp only [whole_row]
    unfold m_stateImage; rw [e]; rfl
theorem sound_implStateImage : MSound Try.prog 54 s_implStateImage :=
  MSound.mkM tabTOK (envCons sound_implIsSym (envCons sound_implIsStateP (envConsM sound_conjugateM envNil))) mixed Try.func54 (by kernel_rfl) (by kernel_rfl) fun x h => p_implStateImage x.1 x.2.1 x.2.2.1 x.2.2.2.1 x.2.2.2.2.1 h
theorem p_specStateImage (p : PP) (q s : List Int) (h : shortP p ∧ short q ∧ short s) : fnW tab (look [(46, s_isSym), (85, s_isState), (97, s_imageUnder)]) s_specStateImage Try.f53 (p, q, s, ()) (fun (z : List Int × Bool × Unit) => z = (m_stateImage p q s, m_stateOK p q s, ())) := by
  refine Eq.mp (w_specStateImage p q s _) ⟨_, if_pos ⟨h.1, h.2.1⟩, ⟨fun hn => ?_, fun hn => ⟨_, if_pos ⟨h.1, h.2.2⟩, ⟨fun hm => ?_, fun hm => ?_⟩⟩⟩⟩
  · have hn : m_sym p q = false := Bool.eq_false_iff.2 (bnot_true hn)
    have e : m_stateOK p q s = false := by unfold m_stateOK; rw [hn]; rfl
    unfold m_stateImage; rw [e]; rfl
  · have hn : m_sym p q = true := bnot_false hn
    have hv : m_validP p = true := by unfold m_sym at hn; simp only [Bool.and_eq_true] at hn; exact hn.1.1
    have hm : (m_validP p && m_genOK p.1 s) = false := Bool.eq_false_iff.2 (bnot_true hm)
    rw [hv, Bool.true_and] at hm
    have e : m_stateOK p q s = false := by unfold m_stateOK; rw [hm, Bool.and_false]
    unfold m_stateImage; rw [e]; rfl
  · have hn : m_sym p q = true := bnot_false hn
    have hm : (m_validP p && m_genOK p.1 s) = true := bnot_false hm
    simp only [Bool.and_eq_true] at hm
    have e : m_stateOK p q s = true := by unfold m_stateOK; rw [hn, hm.2]; rfl
    obtain ⟨e1, e2, e3⟩ := stateOK_conj hn hm.2
    have hq := permOK e3
    refine ⟨_, if_pos ⟨by show s.length ≤ 20; rw [e1]; exact hq.len, e1.symm, hq.row, by show inRow q.length s; rw [← e1]; exact e2⟩, ?_⟩
    unfold m_stateImage; rw [e, if_pos rfl, conj_image hq e1]
theorem sound_specStateImage : Sound Try.prog 53 s_specStateImage :=
  Sound.mkS tabOK (envCons sound_specIsSym (envCons sound_specIsState (envCons sound_imageUnder envNil))) mixed Try.func53 (by kernel_rfl) (by kernel_rfl) fun x h => p_specStateImage x.1 x.2.1 x.2.2.1 h
theorem szP_ok {p : PP} {room : Int} (h : ¬ m_szP p room < 0) : (m_total p.2.2.1 : Int) ≤ room := by
  unfold m_szP at h
  split at h
  · exact absurd (show (-1 : Int) < 0 by decide) h
  · split at h
    · exact absurd (show (-1 : Int) < 0 by decide) h
    · rename_i h2
      have e2 := szLL_low h2
      omega
theorem m_stateImage_short {p : PP} {q s : List Int} : short (m_stateImage p q s) := by
  unfold m_stateImage short
  split
  · rename_i h
    unfold m_stateOK at h
    simp only [Bool.and_eq_true] at h
    obtain ⟨_, _, h3⟩ := stateOK_conj h.1 h.2
    have := (permOK h3).len
    unfold m_conj
    rw [compose_len, compose_len, inv_len]
    omega
  · simp
theorem bool_same {b : Bool} {P : Prop} (h : (!(b == b)) = true) : P := by simp at h
theorem p_lawStateImage (p : PP) (q s : List Int) (h : shortP p ∧ short q ∧ short s) : fnW tab (look [(22, s_szP), (53, s_specStateImage), (54, s_implStateImage), (24, ASpec.b s_toP s_toPuzzlem), (25, ASpec.b s_toL s_toLm), (28, s_equalInts), (27, s_eqP), (45, s_markPuzzle), (32, s_markL), (33, s_heldL)]) s_lawPLsLs Try.f14 (p, q, s, ()) (fun (z : Bool) => z = true) := by
  have h' : shortP (p.1, p.2.1, p.2.2.1, ()) := h.1
  refine Eq.mp (w_lawStateImage p q s _) (Br.dec (fun _ => rfl) fun hq => Br.dec (fun _ => rfl) fun hs => ⟨_, if_pos ⟨h', roomy_1m⟩, Br.dec (fun _ => rfl) fun hsz => ?_⟩)
  have hsz := szP_ok hsz
  dsimp only at hsz
  have l1 : low (1 + (m_total p.2.2.1 : Nat)) := ⟨by omega, by omega⟩
  have l2 : low (1 + (m_total p.2.2.1 : Nat) + (q.length : Nat)) := ⟨by omega, by omega⟩
  have l3 : low (1 + (m_total p.2.2.1 : Nat) + (q.length : Nat) + (s.length : Nat)) := ⟨by omega, by omega⟩
  refine ⟨_, if_pos h', _, if_pos h.2.1, _, if_pos h.2.2, ?_⟩
  simp only [whole_row]
  refine ⟨_, if_pos ⟨h', h.2.1, h.2.2⟩, _, if_pos h', _, if_pos h.2.1, _, if_pos h.2.2, ?_⟩
  simp only [whole_row]
  have hg : short (m_stateImage (p.1, p.2.1, p.2.2.1, ()) q s) := m_stateImage_short
  generalize hge : m_stateImage (p.1, p.2.1, p.2.2.1, ()) q s = g at hg
  generalize hoe : m_stateOK (p.1, p.2.1, p.2.2.1, ()) q s = ok
  refine ⟨_, if_pos ⟨h', h.2.1, h.2.2⟩, ?_⟩
  simp only [whole_row, hge, hoe]
  refine ⟨_, if_pos hg, ⟨fun he => absurd (m_equalInts_self _) (bnot_true he), fun _ => ⟨fun he => bool_same he, fun _ => ?_⟩⟩⟩
  refine ⟨_, if_pos h', _, if_pos h', ⟨fun he => absurd (m_eqP_self _) (bnot_true he), fun _ => ?_⟩⟩
  refine ⟨_, if_pos h.2.1, ?_⟩
  simp only [whole_row]
  refine ⟨_, if_pos h.2.1, ⟨fun he => absurd (m_equalInts_self _) (bnot_true he), fun _ => ?_⟩⟩
  refine ⟨_, if_pos h.2.2, ?_⟩
  simp only [whole_row]
  refine ⟨_, if_pos h.2.2, ⟨fun he => absurd (m_equalInts_self _) (bnot_true he), fun _ => ?_⟩⟩
  refine ⟨trivial, trivial, _, if_pos ⟨h'.2, low_one, l1⟩, ⟨m_marksLL_len _ _, trivial⟩, trivial, trivial, _, if_pos ⟨h.2.1, l1⟩, ⟨m_marks_len _ _, trivial⟩, trivial, trivial, _, if_pos ⟨h.2.2, l2⟩, ⟨m_marks_len _ _, trivial⟩, Br.dec (fun hn => absurd l3.1 (Int.not_le.2 hn)) fun _ => ?_⟩
  refine ⟨_, if_pos hg, ⟨fun he => absurd (m_equalInts_self _) (bnot_true he), fun _ => ⟨fun he => bool_same he, fun _ => ?_⟩⟩⟩
  refine ⟨trivial, trivial, _, if_pos ⟨hg, low_one⟩, ⟨m_marks_len _ _, trivial⟩, ?_⟩
  simp only [whole_marks]
  have hsm : short (m_marks 1 g.length) := by unfold short at *; rw [m_marks_len]; exact hg
  refine ⟨_, if_pos ⟨hsm, low_one⟩, ?_⟩
  simp only [m_heldL_marks]
  refine Br.dec (fun hn => by omega) fun _ => ⟨fun he => by simp at he, fun _ => ?_⟩
  refine ⟨_, if_pos h', _, if_pos h.2.1, _, if_pos h.2.2, ?_⟩
  simp only [whole_row]
  refine ⟨_, if_pos ⟨h', h.2.1, h.2.2⟩, ?_⟩
  simp only [whole_row, hge, hoe]
  refine ⟨_, if_pos hg, ⟨fun he => absurd (m_equalInts_self _) (bnot_true he), fun _ => ⟨fun he => bool_same he, fun _ => ?_⟩⟩⟩
  refine ⟨_, if_pos ⟨hsm, low_one⟩, ?_⟩
  simp only [m_heldL_marks]
  exact Br.dec (fun hn => by omega) fun _ => ⟨fun he => by simp at he, fun _ => trivial⟩
theorem sound_lawStateImage : Sound Try.prog 14 s_lawPLsLs :=
  Sound.mkS tabOK (envCons sound_szP (envCons sound_specStateImage (envConsM sound_implStateImage (envConsB sound_toP sound_toPuzzlem (envConsB sound_toL sound_toLm (envCons sound_eqL (envCons sound_eqP (envConsM sound_markPuzzle (envConsM sound_markL (envCons sound_heldL envNil)))))))))) mixed Try.func14 (by kernel_rfl) (by kernel_rfl) fun x h => p_lawStateImage x.1 x.2.1 x.2.2.1 h
end Go.Proofs.Ytingphpncocimaa
