/-
  Part 31 of the proof that the statement FnExactAreEquivalent holds.
-/
import Derived.Test.YtfghmbpogmcboaaCAreEquivalent29
namespace Go.Proofs.Ytfghmbpogmcboaa
open Go.RowKit

def m_compare : List Int → List Int → Int
  | [], [] => 0
  | [], _ :: _ => -1
  | _ :: _, [] => 1
  | x :: a, y :: b => if x < y then -1 else if x > y then 1 else m_compare a b
def m_lt (a b : List Int) : Bool := decide (m_compare a b < 0)
def m_canon (list : List (List Int)) (s : List Int) : List Int := list.foldl (fun least q => if m_lt (m_conj s q) least = true then m_conj s q else least) s
def canonOK (list : List (List Int)) (s : List Int) : Prop := list.length ≤ 6000 ∧ s.length ≤ 20 ∧ inRow s.length s ∧ ∀ q ∈ list, s.length = q.length ∧ m_isPerm q = true
noncomputable def m_small (p : PP) : Bool := m_validP p && decide (p.1 ≤ 7)
noncomputable def m_symsS (p : PP) : List (List Int) := if m_small p = true then m_syms p else []
noncomputable def m_equiv (p : PP) (a b : List Int) : Bool := m_small p && m_genOK p.1 a && m_genOK p.1 b && decide (m_canon (m_syms p) a = m_canon (m_syms p) b)
noncomputable abbrev s_cloneOQ : Spec := mkS (.pair (.oslice tI) .unit) tL false true (fun x => short (x.1.getD [])) (fun x => x.1.getD [])
noncomputable abbrev s_cloneQ : Spec := mkS (.pair tL .unit) tL false true (fun x => short x.1) (fun x => x.1)
noncomputable abbrev s_isNaN : Spec := mkS (.pair tI .unit) .bool false true (fun _ => True) (fun _ => false)
noncomputable abbrev s_cmp : Spec := mkS (.pair tI (.pair tI .unit)) tI false true (fun _ => True) (fun x => if x.1 < x.2.1 then -1 else if x.1 > x.2.1 then 1 else 0)
noncomputable abbrev s_compare : Spec := mkS (.pair tL (.pair tL .unit)) tI false true (fun x => short x.1 ∧ short x.2.1) (fun x => m_compare x.1 x.2.1)
noncomputable abbrev s_precedes : Spec := mkS (.pair tL (.pair tL .unit)) .bool false true (fun x => short x.1 ∧ List.length x.1 = List.length x.2.1) (fun x => m_lt x.1 x.2.1)
noncomputable abbrev s_canonQ : Spec := mkS (.pair tLL (.pair tL .unit)) tL false true (fun x => canonOK x.1 x.2.1) (fun x => m_canon x.1 x.2.1)
noncomputable abbrev s_small : Spec := mkS (.pair tPuzzle .unit) .bool false true (fun x => shortP x.1) (fun x => m_small x.1)
noncomputable abbrev s_specSyms : Spec := mkS (.pair tPuzzle .unit) tLL false false (fun x => shortP x.1) (fun x => m_symsS x.1)
noncomputable abbrev s_equiv : Spec := mkS (.pair tPuzzle (.pair tL (.pair tL .unit))) .bool false true (fun x => shortP x.1 ∧ short x.2.1 ∧ short x.2.2.1) (fun x => m_equiv x.1 x.2.1 x.2.2.1)
noncomputable abbrev s_lawPLLx : Spec := mkS (.pair tPuzzle (.pair tL (.pair tL .unit))) .bool false true (fun x => shortP x.1 ∧ short x.2.1 ∧ short x.2.2.1) (fun _ => true)
theorem w_cloneOQ (xs : Option (List Int)) (P : List Int → Prop) : (Br xs.isNone (P (List.take (0 : Nat) (List.drop (0 : Nat) [])))
  ((0 : Nat) = (0 : Nat) ∧ (0 : Nat) = ([] : List Int).length ∧ (0 : Nat) + (xs.getD []).length ≤ maxRow ∧ P (List.take ([] ++ xs.getD []).length (List.drop (0 : Nat) ([] ++ xs.getD []))))) = fnW tab (look []) s_cloneOQ Try.f76 (xs, ()) P := by kernel_rfl
theorem w_isNaN (x : Int) (P : Bool → Prop) : (P (x != x)) = fnW tab (look []) s_isNaN Try.f168 (x, ()) P := by kernel_rfl
theorem w_cmp (x y : Int) (P : Int → Prop) : (∃ (y3 : Bool),
  s_isNaN.fn (x, ()) = some y3 ∧
    ∃ (y4 : Bool),
      s_isNaN.fn (y, ()) = some y4 ∧ Br y3 (Br y4 (P (0 : Int)) (P (-1 : Int))) (Br y4 (P (1 : Int)) (Br (decide (x < y)) (P (-1 : Int)) (Br (decide (x > y)) (P (1 : Int)) (P (0 : Int)))))) = fnW tab (look [(168, s_isNaN)]) s_cmp Try.f159 (x, y, ()) P := by kernel_rfl
theorem w_compare (a b : List Int) (P : Int → Prop) : (WLoop
  (fun (v3 : Int × PUnit) (k4 : Int × PUnit → Prop) =>
    Br (decide (v3.fst < (↑a.length : Int)))
      (∃ (y5 : Int),
        idx a v3.fst = some y5 ∧
          Br (decide (v3.fst ≥ (↑b.length : Int))) (P (1 : Int))
            (∃ (y6 : Int), idx b v3.fst = some y6 ∧ ∃ (y7 : Int), s_cmp.fn (y5, y6, ()) = some y7 ∧ Br (y7 != (0 : Int)) (P y7) (k4 (IntKind.i64.wrap (v3.fst + (1 : Int)), ()))))
      (Br (decide ((↑a.length : Int) < (↑b.length : Int))) (P (-1 : Int)) (P (0 : Int))))
  ((0 : Int), PUnit.unit)) = fnW tab (look [(159, s_cmp)]) s_compare Try.f138 (a, b, ()) P := by kernel_rfl
theorem w_precedes (a b : List Int) (P : Bool → Prop) : (WLoop
  (fun (v3 : Int × PUnit) (k4 : Int × PUnit → Prop) =>
    Br (decide (v3.fst < (↑a.length : Int)))
      (∃ (y5 : Int),
        idx a v3.fst = some y5 ∧
          ∃ (y6 : Int),
            idx b v3.fst = some y6 ∧
              Br (y5 != y6) (∃ (y7 : Int), idx a v3.fst = some y7 ∧ ∃ (y8 : Int), idx b v3.fst = some y8 ∧ P (decide (y7 < y8))) (k4 (IntKind.i64.wrap (v3.fst + (1 : Int)), ())))
      (P false))
  ((0 : Int), PUnit.unit)) = fnW tab (look []) s_precedes Try.f135 (a, b, ()) P := by kernel_rfl
theorem w_canonQ (l : List (List Int)) (s : List Int) (P : List Int → Prop) : (∃ (y3 : List Int),
  s_cloneQ.fn (s, ()) = some y3 ∧
    WLoop
      (fun (v4 : List Int × Int × PUnit) (k5 : List Int × Int × PUnit → Prop) =>
        Br (decide (v4.2.fst < (↑l.length : Int)))
          (∃ (y6 : List Int),
            idx l v4.2.fst = some y6 ∧
              ∃ (y7 : List Int),
                s_conjugate.fn (s, y6, ()) = some y7 ∧
                  ∃ (y8 : Int),
                    s_compare.fn (y7, v4.fst, ()) = some y8 ∧
                      Br (decide (y8 < (0 : Int))) (k5 (y7, IntKind.i64.wrap (v4.2.fst + (1 : Int)), ())) (k5 (v4.fst, IntKind.i64.wrap (v4.2.fst + (1 : Int)), ())))
          (P v4.fst))
      (y3, (0 : Int), PUnit.unit)) = fnW tab (look [(76, s_cloneQ), (129, s_conjugate), (138, s_compare)]) s_canonQ Try.f94 (l, s, ()) P := by kernel_rfl
theorem w_canonSpec (l : List (List Int)) (s : List Int) (P : List Int → Prop) : (∃ (y3 : List Int),
  s_copyInts.fn (s, ()) = some y3 ∧
    WLoop
      (fun (v4 : List Int × Int × PUnit) (k5 : List Int × Int × PUnit → Prop) =>
        Br (decide (v4.2.fst < (↑l.length : Int)))
          (∃ (y6 : List Int),
            idx l v4.2.fst = some y6 ∧
              ∃ (y7 : List Int),
                s_imageUnder.fn (y6, s, ()) = some y7 ∧
                  ∃ (y8 : Bool), s_precedes.fn (y7, v4.fst, ()) = some y8 ∧ Br y8 (k5 (y7, IntKind.i64.wrap (v4.2.fst + (1 : Int)), ())) (k5 (v4.fst, IntKind.i64.wrap (v4.2.fst + (1 : Int)), ())))
          (P v4.fst))
      (y3, (0 : Int), PUnit.unit)) = fnW tab (look [(70, s_copyInts), (123, s_imageUnder), (135, s_precedes)]) s_canonQ Try.f91 (l, s, ()) P := by kernel_rfl
theorem w_implSmall (p : Int × ByteArray × List (List Int) × Unit) (P : Bool → Prop) : (∃ (y2 : Bool), s_validP.fn ((p.fst, p.2.fst, p.snd.2.fst, ()), ()) = some y2 ∧ Br y2 (P (decide (p.fst ≤ (7 : Int)))) (P false)) = fnW tab (look [(60, s_validP)]) s_small Try.f86 (p, ()) P := by kernel_rfl
theorem w_specSmall (p : Int × ByteArray × List (List Int) × Unit) (P : Bool → Prop) : (∃ (y2 : Bool), s_validP.fn ((p.fst, p.2.fst, p.snd.2.fst, ()), ()) = some y2 ∧ Br y2 (P (decide (p.fst ≤ (7 : Int)))) (P false)) = fnW tab (look [(56, s_validP)]) s_small Try.f88 (p, ()) P := by kernel_rfl
theorem w_specSyms (p : Int × ByteArray × List (List Int) × Unit) (P : List (List Int) → Prop) : (∃ (y2 : Bool),
  s_validP.fn ((p.fst, p.2.fst, p.snd.2.fst, ()), ()) = some y2 ∧
    Br (!y2) (P (List.take (0 : Nat) (List.drop (0 : Nat) [])))
      (Br (decide (p.fst > (7 : Int))) (P (List.take (0 : Nat) (List.drop (0 : Nat) [])))
        ((0 : Nat) = (0 : Nat) ∧
          (0 : Nat) = ([] : List Int).length ∧
            ∃ (y3 : (List (List Int) × PUnit) × PUnit),
              s_ext.fn (p.fst, p.2.fst, p.snd.2.fst, List.take (0 : Nat) (List.drop (0 : Nat) []), [], ()) = some y3 ∧ P (List.take y3.1.fst.length (List.drop (0 : Nat) y3.1.fst))))) = fnW tab (look [(56, s_validP), (85, s_ext)]) s_specSyms Try.f33 (p, ()) P := by kernel_rfl
theorem w_implEquiv (p : Int × ByteArray × List (List Int) × Unit) (a b : List Int) (P : Bool → Prop) : (∃ (y4 : Bool),
  s_small.fn ((p.fst, p.2.fst, p.snd.2.fst, ()), ()) = some y4 ∧
    Br (!y4) (P false)
      (∃ (y5 : Bool),
        s_isStateP.fn ((p.fst, p.2.fst, p.snd.2.fst, ()), a, ()) = some y5 ∧
          Br (!y5) (P false)
            (∃ (y6 : Bool),
              s_isStateP.fn ((p.fst, p.2.fst, p.snd.2.fst, ()), b, ()) = some y6 ∧
                Br (!y6) (P false)
                  (∃ (y7 : (List (List Int) × PUnit) × PUnit),
                    s_symListI.fn (p.fst, p.2.fst, p.snd.2.fst, ()) = some y7 ∧
                      ∃ (y8 : List Int),
                        s_canonQ.fn (List.take y7.1.fst.length (List.drop (0 : Nat) y7.1.fst), a, ()) = some y8 ∧
                          ∃ (y9 : List Int), s_canonQ.fn (List.take y7.1.fst.length (List.drop (0 : Nat) y7.1.fst), b, ()) = some y9 ∧ ∃ (y10 : Bool), s_equalInts.fn (y8, y9, ()) = some y10 ∧ P y10)))) = fnW tab (look [(86, s_small), (92, s_isStateP), (87, s_symListI), (94, s_canonQ), (93, s_equalInts)]) s_equiv Try.f39 (p, a, b, ()) P := by kernel_rfl
theorem w_specEquiv (p : Int × ByteArray × List (List Int) × Unit) (a b : List Int) (P : Bool → Prop) : (∃ (y4 : Bool),
  s_small.fn ((p.fst, p.2.fst, p.snd.2.fst, ()), ()) = some y4 ∧
    Br (!y4) (P false)
      (∃ (y5 : Bool),
        s_isState.fn ((p.fst, p.2.fst, p.snd.2.fst, ()), a, ()) = some y5 ∧
          Br (!y5) (P false)
            (∃ (y6 : Bool),
              s_isState.fn ((p.fst, p.2.fst, p.snd.2.fst, ()), b, ()) = some y6 ∧
                Br (!y6) (P false)
                  (∃ (y7 : List (List Int)),
                    s_specSyms.fn ((p.fst, p.2.fst, p.snd.2.fst, ()), ()) = some y7 ∧
                      ∃ (y8 : List Int), s_canonQ.fn (y7, a, ()) = some y8 ∧ ∃ (y9 : List Int), s_canonQ.fn (y7, b, ()) = some y9 ∧ ∃ (y10 : Bool), s_equalInts.fn (y8, y9, ()) = some y10 ∧ P y10)))) = fnW tab (look [(88, s_small), (89, s_isState), (33, s_specSyms), (91, s_canonQ), (90, s_equalInts)]) s_equiv Try.f38 (p, a, b, ()) P := by kernel_rfl
theorem w_lawEquiv (p : Int × ByteArray × List (List Int) × Unit) (a b : List Int) (P : Bool → Prop) : (Br (decide ((↑a.length : Int) > (1048576 : Int))) (P true)
  (Br (decide ((↑b.length : Int) > (1048576 : Int))) (P true)
    (∃ (y4 : Int),
      s_szP.fn ((p.fst, p.2.fst, p.snd.2.fst, ()), (1048576 : Int), ()) = some y4 ∧
        Br (decide (y4 < (0 : Int))) (P true)
          (∃ (y5 : Int × ByteArray × List (List Int) × PUnit),
            s_toP.fn ((p.fst, p.2.fst, p.snd.2.fst, ()), ()) = some y5 ∧
              ∃ (y6 : List Int),
                s_toL.fn (a, ()) = some y6 ∧
                  ∃ (y7 : List Int),
                    s_toL.fn (b, ()) = some y7 ∧
                      ∃ (y8 : Bool),
                        s_equiv.fn (y5, y6, y7, ()) = some y8 ∧
                          ∃ (y9 : Int × ByteArray × List (List Int) × PUnit),
                            s_toP.fn ((p.fst, p.2.fst, p.snd.2.fst, ()), ()) = some y9 ∧
                              ∃ (y10 : List Int),
                                s_toL.fn (a, ()) = some y10 ∧
                                  ∃ (y11 : List Int),
                                    s_toL.fn (b, ()) = some y11 ∧
                                      ∃ (y12 : Bool),
                                        s_equiv.fn ((y9.fst, y9.2.fst, y9.snd.2.fst, ()), y10, y11, ()) = some y12 ∧
                                          Br (!y12 == y8) (P false)
                                            (∃ (y13 : Int × ByteArray × List (List Int) × PUnit),
                                              s_toP.fn ((p.fst, p.2.fst, p.snd.2.fst, ()), ()) = some y13 ∧
                                                ∃ (y14 : Bool),
                                                  s_eqP.fn ((y9.fst, y9.2.fst, y9.snd.2.fst, ()), y13, ()) = some y14 ∧
                                                    Br (!y14) (P false)
                                                      (∃ (y15 : List Int),
                                                        s_toL.fn (a, ()) = some y15 ∧
                                                          ∃ (y16 : Bool),
                                                            s_equalInts.fn (y10, y15, ()) = some y16 ∧
                                                              Br (!y16) (P false)
                                                                (∃ (y17 : List Int),
                                                                  s_toL.fn (b, ()) = some y17 ∧ ∃ (y18 : Bool), s_equalInts.fn (y11, y17, ()) = some y18 ∧ Br (!y18) (P false) (P true)))))))) = fnW tab (look [(14, s_szP), (38, s_equiv), (39, s_equiv), (16, s_toP), (26, s_toL), (18, s_equalInts), (19, s_eqP)]) s_lawPLLx Try.f7 (p, a, b, ()) P := by kernel_rfl
theorem Sound.ofO {P : Program} {f : FuncId} {e : Ty} {r res : Ty} {multi fresh : Bool} {pre : (Ty.pair (.oslice e) r).den → Prop} {val : (Ty.pair (.oslice e) r).den → res.den} {pre' : (Ty.pair (.slice e) r).den → Prop} {val' : (Ty.pair (.slice e) r).den → res.den}
    (h : Sound P f (Go.Proofs.Ytfghmbpogmcboaa.mkS (.pair (.oslice e) r) res multi fresh pre val))
    (hp : ∀ (o : Option (List e.den)) (y : r.den), pre' (o.getD [], y) → pre (o, y) ∧ val (o, y) = val' (o.getD [], y)) : Sound P f (Go.Proofs.Ytfghmbpogmcboaa.mkS (.pair (.slice e) r) res multi fresh pre' val') := by
  refine ⟨h.enter, fun w S vs x y hS h2 h5 => ?_⟩
  obtain ⟨xs, rest⟩ := x
  cases vs with
  | nil => exact h2.elim
  | cons u us =>
    obtain ⟨h7, h8⟩ := h2
    obtain ⟨ox, h9, rfl⟩ := h7.told
    have hpre : pre' (ox.getD [], rest) := Classical.byContradiction fun hn => by
      have : (Go.Proofs.Ytfghmbpogmcboaa.mkS (.pair (.slice e) r) res multi fresh pre' val').fn (ox.getD [], rest) = none := if_neg hn
      rw [this] at h5; cases h5
    obtain ⟨k1, k2⟩ := hp ox rest hpre
    have hv : (Go.Proofs.Ytfghmbpogmcboaa.mkS (.pair (.slice e) r) res multi fresh pre' val').fn (ox.getD [], rest) = some (val' (ox.getD [], rest)) := if_pos hpre
    rw [hv] at h5
    have h5 := Option.some.inj h5
    exact h.calls w S (u :: us) (ox, rest) y hS ⟨h9, h8⟩ ((if_pos k1).trans (by rw [k2]; exact congrArg some h5))
theorem p_cloneOQ (xs : Option (List Int)) (h : short (xs.getD [])) : fnW tab (look []) s_cloneOQ Try.f76 (xs, ()) (fun (z : List Int) => z = xs.getD []) := by
  unfold short at h
  refine Eq.mp (w_cloneOQ xs _) ⟨fun hn => ?_, fun _ => ⟨rfl, rfl, by show 0 + (xs.getD []).length ≤ 4294967296; omega, ?_⟩⟩
  · cases xs with
    | none => rfl
    | some y => cases hn
  · simp only [whole_row, List.nil_append]
theorem sound_cloneOQ : Sound Try.prog 76 s_cloneOQ :=
  Sound.mkS tabOK envNil mixed Try.func76 (by kernel_rfl) (by kernel_rfl) fun x h => p_cloneOQ x.1 h
theorem sound_cloneQ : Sound Try.prog 76 s_cloneQ := Sound.ofO sound_cloneOQ fun _ _ h => ⟨h, rfl⟩
theorem p_isNaN (x : Int) (_ : True) : fnW tab (look []) s_isNaN Try.f168 (x, ()) (fun (z : Bool) => z = false) := by
  refine Eq.mp (w_isNaN x _) ?_
  simp
theorem sound_isNaN : Sound Try.prog 168 s_isNaN :=
  Sound.mkS tabOK envNil mixed Try.func168 (by kernel_rfl) (by kernel_rfl) fun x h => p_isNaN x.1 h
theorem p_cmp (x y : Int) (_ : True) : fnW tab (look [(168, s_isNaN)]) s_cmp Try.f159 (x, y, ()) (fun (z : Int) => z = if x < y then -1 else if x > y then 1 else 0) := by
  refine Eq.mp (w_cmp x y _) ⟨_, if_pos trivial, _, if_pos trivial, ⟨fun h => (by cases h), fun _ => ⟨fun h => (by cases h), fun _ => Br.dec (fun h => ?_) fun h => Br.dec (fun h2 => ?_) fun h2 => ?_⟩⟩⟩
  · rw [if_pos h]
  · rw [if_neg h, if_pos h2]
  · rw [if_neg h, if_neg h2]
theorem sound_cmp : Sound Try.prog 159 s_cmp :=
  Sound.mkS tabOK (envCons sound_isNaN envNil) mixed Try.func159 (by kernel_rfl) (by kernel_rfl) fun x h => p_cmp x.1 x.2.1 h
theorem p_compare (a b : List Int) (h : short a ∧ short b) : fnW tab (look [(159, s_cmp)]) s_compare Try.f138 (a, b, ()) (fun (z : Int) => z = m_compare a b) := by
  obtain ⟨ha, hb⟩ := h
  unfold short at ha hb
  refine Eq.mp (w_compare a b _) ?_
  refine loop_range a.length (fun v => v.1) (fun j _ => j ≤ b.length ∧ m_compare (a.drop j) (b.drop j) = m_compare a b) rfl ⟨Nat.zero_le _, by simp⟩ ?_
  rintro j ⟨i, ⟨⟩⟩ K hj hi ⟨hR1, hR2⟩ hK
  dsimp only at hi ⊢
  subst hi
  refine Br.dec (fun hl => ?_) fun hl => ?_
  · have hl : j < a.length := by omega
    rw [List.drop_eq_getElem_cons hl] at hR2
    refine ⟨_, idx_nat hl, Br.dec (fun hge => ?_) fun hge => ?_⟩
    · have : j = b.length := by omega
      rw [List.drop_eq_nil_of_le (by omega : b.length ≤ j)] at hR2
      rw [← hR2]
      rfl
    · have hlb : j < b.length := by omega
      rw [List.drop_eq_getElem_cons hlb] at hR2
      refine ⟨_, idx_nat hlb, _, if_pos trivial, ?_⟩
      dsimp only
      simp only [m_compare] at hR2
      by_cases h1 : a[j] < b[j]
      · rw [if_pos h1] at hR2 ⊢
        exact ⟨fun _ => hR2, fun h => by cases h⟩
      · rw [if_neg h1] at hR2 ⊢
        by_cases h2 : a[j] > b[j]
        · rw [if_pos h2] at hR2 ⊢
          exact ⟨fun _ => hR2, fun h => by cases h⟩
        · rw [if_neg h2] at hR2 ⊢
          refine ⟨fun h => (by cases h), fun _ => ?_⟩
          rw [wrap_nat (by omega)]
          exact hK hl _ rfl ⟨hlb, hR2⟩
  · have : j = a.length := by omega
    subst this
    rw [List.drop_length] at hR2
    refine Br.dec (fun h => ?_) fun h => ?_
    · rw [← hR2, List.drop_eq_getElem_cons (by omega)]
      rfl
    · rw [← hR2, List.drop_eq_nil_of_le (by omega)]
      rfl
theorem sound_compare : Sound Try.prog 138 s_compare :=
  Sound.mkS tabOK (envCons sound_cmp envNil) mixed Try.func138 (by kernel_rfl) (by kernel_rfl) fun x h => p_compare x.1 x.2.1 h
theorem p_precedes (a b : List Int) (h : short a ∧ a.length = b.length) : fnW tab (look []) s_precedes Try.f135 (a, b, ()) (fun (z : Bool) => z = m_lt a b) := by
  obtain ⟨ha, hb⟩ := h
  unfold short at ha
  refine Eq.mp (w_precedes a b _) ?_
  refine loop_range a.length (fun v => v.1) (fun j _ => m_compare (a.drop j) (b.drop j) = m_compare a b) rfl (by simp) ?_
  rintro j ⟨i, ⟨⟩⟩ K hj hi hR2 hK
  dsimp only at hi ⊢
  subst hi
  refine Br.dec (fun hl => ?_) fun hl => ?_
  · have hl : j < a.length := by omega
    have hlb : j < b.length := by omega
    rw [List.drop_eq_getElem_cons hl, List.drop_eq_getElem_cons hlb] at hR2
    simp only [m_compare] at hR2
    refine ⟨_, idx_nat hl, _, idx_nat hlb, ⟨fun hne => ?_, fun hne => ?_⟩⟩
    · refine ⟨_, idx_nat hl, _, idx_nat hlb, ?_⟩
      have hne : a[j] ≠ b[j] := by simpa using hne
      unfold m_lt
      rw [← hR2]
      by_cases h1 : a[j] < b[j]
      · rw [if_pos h1]; simp [h1]
      · rw [if_neg h1, if_pos (by omega)]; simp [h1]
    · have hne : a[j] = b[j] := by simpa using hne
      rw [if_neg (by omega), if_neg (by omega)] at hR2
      rw [wrap_nat (by omega)]
      exact hK hl _ rfl hR2
  · have : j = a.length := by omega
    subst this
    rw [List.drop_length, List.drop_eq_nil_of_le (by omega)] at hR2
    unfold m_lt
    rw [← hR2]
    rfl
theorem sound_precedes : Sound Try.prog 135 s_precedes :=
  Sound.mkS tabOK envNil mixed Try.func135 (by kernel_rfl) (by kernel_rfl) fun x h => p_precedes x.1 x.2.1 h
theorem canon_row {list : List (List Int)} {s : List Int} (h : canonOK list s) {q : List Int} (hq : q ∈ list) : (m_conj s q).length = s.length ∧ inRow s.length (m_conj s q) := by
  obtain ⟨_, h2, h3, h4⟩ := h
  obtain ⟨e, hp⟩ := h4 q hq
  have hpk := permOK hp
  refine ⟨by simp only [m_conj, compose_len, inv_len]; exact e.symm, ?_⟩
  unfold m_conj
  refine compose_row (n := s.length) (compose_row (n := q.length) ?_ ?_) ?_
  · rw [e]; exact inv_row hpk
  · rw [← e]; exact h3
  · rw [e]; exact hpk.row
theorem p_canonQ (l : List (List Int)) (s : List Int) (h : canonOK l s) : fnW tab (look [(76, s_cloneQ), (129, s_conjugate), (138, s_compare)]) s_canonQ Try.f94 (l, s, ()) (fun (z : List Int) => z = m_canon l s) := by
  have hs : short s := by unfold short; have := h.2.1; omega
  have hll := h.1
  refine Eq.mp (w_canonQ l s _) ⟨_, if_pos hs, ?_⟩
  refine loop_range l.length (fun v => v.2.1) (fun j v => v.1.length = s.length ∧ m_canon (l.take j) s = v.1) rfl ⟨rfl, by simp [m_canon]⟩ ?_
  rintro j ⟨ys, i, ⟨⟩⟩ K hj hi ⟨h1, h2⟩ hK
  dsimp only at hi h1 h2 ⊢
  subst hi
  refine Br.dec (fun hl => ?_) fun hl => ?_
  · have hl : j < l.length := by omega
    have hq : l[j] ∈ l := List.getElem_mem hl
    obtain ⟨e, hp⟩ := h.2.2.2 _ hq
    obtain ⟨c1, c2⟩ := canon_row h hq
    have hstep : m_canon (l.take (j + 1)) s = if m_lt (m_conj s l[j]) ys = true then m_conj s l[j] else ys := by
      rw [← h2]
      unfold m_canon
      rw [List.take_add_one, List.getElem?_eq_getElem hl, List.foldl_append]
      rfl
    refine ⟨_, idx_nat hl, _, if_pos ⟨e, h.2.2.1, hp⟩, _, if_pos ⟨by show short (m_conj s l[j]); unfold short; have := h.2.1; omega, by show short ys; unfold short; have := h.2.1; omega⟩, Br.dec (fun hc => ?_) fun hc => ?_⟩
    · have hc : m_compare (m_conj s l[j]) ys < 0 := hc
      rw [wrap_nat (by omega)]
      refine hK hl _ rfl ⟨c1, ?_⟩
      rw [hstep, if_pos (show m_lt (m_conj s l[j]) ys = true from decide_eq_true hc)]
    · have hc : ¬ m_compare (m_conj s l[j]) ys < 0 := hc
      rw [wrap_nat (by omega)]
      refine hK hl _ rfl ⟨h1, ?_⟩
      rw [hstep, if_neg (by unfold m_lt; simpa using hc)]
  · have : j = l.length := by omega
    subst this
    rw [List.take_length] at h2
    exact h2.symm
theorem sound_canonQ : Sound Try.prog 94 s_canonQ :=
  Sound.mkS tabOK (envCons sound_cloneQ (envCons sound_conjugate (envCons sound_compare envNil))) mixed Try.func94 (by kernel_rfl) (by kernel_rfl) fun x h => p_canonQ x.1 x.2.1 h
theorem p_canonSpec (l : List (List Int)) (s : List Int) (h : canonOK l s) : fnW tab (look [(70, s_copyInts), (123, s_imageUnder), (135, s_precedes)]) s_canonQ Try.f91 (l, s, ()) (fun (z : List Int) => z = m_canon l s) := by
  have hs : short s := by unfold short; have := h.2.1; omega
  have hll := h.1
  refine Eq.mp (w_canonSpec l s _) ⟨_, if_pos hs, ?_⟩
  refine loop_range l.length (fun v => v.2.1) (fun j v => v.1.length = s.length ∧ m_canon (l.take j) s = v.1) rfl ⟨rfl, by simp [m_canon]⟩ ?_
  rintro j ⟨ys, i, ⟨⟩⟩ K hj hi ⟨h1, h2⟩ hK
  dsimp only at hi h1 h2 ⊢
  subst hi
  refine Br.dec (fun hl => ?_) fun hl => ?_
  · have hl : j < l.length := by omega
    have hq : l[j] ∈ l := List.getElem_mem hl
    obtain ⟨e, hp⟩ := h.2.2.2 _ hq
    obtain ⟨c1, c2⟩ := canon_row h hq
    have hstep : m_canon (l.take (j + 1)) s = if m_lt (m_conj s l[j]) ys = true then m_conj s l[j] else ys := by
      rw [← h2]
      unfold m_canon
      rw [List.take_add_one, List.getElem?_eq_getElem hl, List.foldl_append]
      rfl
    have hpk := permOK hp
    have him : m_imageUnder l[j] s = m_conj s l[j] := (conj_image hpk e).symm
    refine ⟨_, idx_nat hl, _, if_pos ⟨h.2.1, e.symm, hpk.row, by show inRow l[j].length s; rw [← e]; exact h.2.2.1⟩, ?_⟩
    dsimp only
    rw [him]
    refine ⟨_, if_pos ⟨by show short (m_conj s l[j]); unfold short; have := h.2.1; omega, by show (m_conj s l[j]).length = ys.length; omega⟩, ⟨fun hc => ?_, fun hc => ?_⟩⟩
    · have hc : m_lt (m_conj s l[j]) ys = true := hc
      rw [wrap_nat (by omega)]
      refine hK hl _ rfl ⟨c1, ?_⟩
      rw [hstep, if_pos hc]
    · have hc : m_lt (m_conj s l[j]) ys = false := hc
      rw [wrap_nat (by omega)]
      refine hK hl _ rfl ⟨h1, ?_⟩
      rw [hstep, if_neg (by rw [hc]; decide)]
  · have : j = l.length := by omega
    subst this
    rw [List.take_length] at h2
    exact h2.symm
theorem sound_canonSpec : Sound Try.prog 91 s_canonQ :=
  Sound.mkS tabOK (envCons sound_copyInts (envCons sound_imageUnder (envCons sound_precedes envNil))) mixed Try.func91 (by kernel_rfl) (by kernel_rfl) fun x h => p_canonSpec x.1 x.2.1 h
theorem p_implSmall (p : PP) (h : shortP p) : fnW tab (look [(60, s_validP)]) s_small Try.f86 (p, ()) (fun (z : Bool) => z = m_small p) := by
  refine Eq.mp (w_implSmall p _) ⟨_, if_pos h, ⟨fun hv => ?_, fun hv => ?_⟩⟩
  · have hv : m_validP p = true := hv
    unfold m_small; rw [hv]; rfl
  · have hv : m_validP p = false := hv
    unfold m_small; rw [hv]; rfl
theorem sound_implSmall : Sound Try.prog 86 s_small :=
  Sound.mkS tabOK (envCons sound_implValidP envNil) mixed Try.func86 (by kernel_rfl) (by kernel_rfl) fun x h => p_implSmall x.1 h
theorem p_specSmall (p : PP) (h : shortP p) : fnW tab (look [(56, s_validP)]) s_small Try.f88 (p, ()) (fun (z : Bool) => z = m_small p) := by
  refine Eq.mp (w_specSmall p _) ⟨_, if_pos h, ⟨fun hv => ?_, fun hv => ?_⟩⟩
  · have hv : m_validP p = true := hv
    unfold m_small; rw [hv]; rfl
  · have hv : m_validP p = false := hv
    unfold m_small; rw [hv]; rfl
theorem sound_specSmall : Sound Try.prog 88 s_small :=
  Sound.mkS tabOK (envCons sound_specValidP envNil) mixed Try.func88 (by kernel_rfl) (by kernel_rfl) fun x h => p_specSmall x.1 h
theorem small_iff {p : PP} : m_small p = true ↔ m_validP p = true ∧ p.1 ≤ 7 := by
  unfold m_small
  rw [Bool.and_eq_true, decide_eq_true_iff]
theorem syms_perm {p : PP} {q : List Int} (h : q ∈ m_syms p) : q.Perm (upto p.1.toNat) := lex_perm _ _ q (upto_len _) (List.mem_filter.1 h).1
theorem syms_len {p : PP} (h : p.1 ≤ 7) : (m_syms p).length ≤ 5040 := Nat.le_trans (List.length_filter_le _ _) (lexU_len (by omega))
theorem syms_canon {p : PP} {s : List Int} (h : m_small p = true) (hs : m_genOK p.1 s = true) : canonOK (m_syms p) s := by
  obtain ⟨hv, h7⟩ := small_iff.1 h
  have hn := (valid hv).n
  obtain ⟨e, hp⟩ := dec_iff.1 hs
  have hpk := permOK hp
  refine ⟨by have := syms_len h7; omega, hpk.len, hpk.row, fun q hq => ?_⟩
  have hg := perm_genOK hn.1 hn.2 (syms_perm hq)
  obtain ⟨e2, hp2⟩ := dec_iff.1 hg
  exact ⟨by omega, hp2⟩
theorem exts_nil (n : Nat) : extsOf n [] = lex n (upto n) := by
  unfold extsOf restOf
  have : ((upto n).filter fun v => !([] : List Int).contains v) = upto n := List.filter_eq_self.2 fun a _ => rfl
  rw [this]
  simp
theorem p_specSyms (p : PP) (h : shortP p) : fnW tab (look [(56, s_validP), (85, s_ext)]) s_specSyms Try.f33 (p, ()) (fun (z : List (List Int)) => z = m_symsS p) := by
  refine Eq.mp (w_specSyms p _) ⟨_, if_pos h, ⟨fun hn => ?_, fun hn => ?_⟩⟩
  · have hn := bnot_true hn
    unfold m_symsS
    rw [if_neg fun hh => hn (small_iff.1 hh).1]
    rfl
  · have hn := bnot_false hn
    refine Br.dec (fun h7 => ?_) fun h7 => ⟨rfl, rfl, _, if_pos (And.intro hn (And.intro (show p.1 ≤ 7 from Int.not_lt.1 h7) (And.intro List.nodup_nil (And.intro (fun y hy => by cases hy) (And.intro (Nat.zero_le _) ?_))))), ?_⟩
    · unfold m_symsS
      rw [if_neg fun hh => by
        have h8 : p.1 > 7 := h7
        have := (small_iff.1 hh).2
        omega]
      rfl
    · show 0 + (extsOf p.1.toNat []).length ≤ 6000
      rw [exts_nil]
      have h8 : ¬ p.1 > 7 := h7
      have := lexU_len (n := p.1.toNat) (by omega)
      omega
    · rw [whole_row]
      unfold m_symsS
      rw [if_pos (small_iff.2 ⟨hn, Int.not_lt.1 h7⟩)]
      show m_ext p [] [] = _
      unfold m_ext m_syms
      rw [exts_nil]
      rfl
theorem sound_specSyms : Sound Try.prog 33 s_specSyms :=
  Sound.mkS tabOK (envCons sound_specValidP (envConsM sound_ext envNil)) mixed Try.func33 (by kernel_rfl) (by kernel_rfl) fun x h => p_specSyms x.1 h
theorem equiv_eq {p : PP} {a b : List Int} (h1 : m_small p = true) (h2 : m_genOK p.1 a = true) (h3 : m_genOK p.1 b = true) : m_equalInts (m_canon (m_syms p) a) (m_canon (m_syms p) b) = m_equiv p a b := by
  unfold m_equiv
  rw [h1, h2, h3]
  rfl
theorem canon_short {list : List (List Int)} {s : List Int} (h : canonOK list s) : (m_canon list s).length = s.length := by
  have : ∀ (l : List (List Int)) (x : List Int), (∀ q ∈ l, q ∈ list) → x.length = s.length → (l.foldl (fun least q => if m_lt (m_conj s q) least = true then m_conj s q else least) x).length = s.length := by
    intro l
    induction l with
    | nil => intro x _ hx; exact hx
    | cons q l ih =>
      intro x hm hx
      rw [List.foldl_cons]
      refine ih _ (fun q' hq' => hm q' (List.mem_cons_of_mem _ hq')) ?_
      split
      · exact (canon_row h (hm q (by simp))).1
      · exact hx
  exact this list s (fun _ h => h) rfl
theorem p_implEquiv (p : PP) (a b : List Int) (h : shortP p ∧ short a ∧ short b) : fnW tab (look [(86, s_small), (92, s_isStateP), (87, s_symListI), (94, s_canonQ), (93, s_equalInts)]) s_equiv Try.f39 (p, a, b, ()) (fun (z : Bool) => z = m_equiv p a b) := by
  obtain ⟨h0, ha, hb⟩ := h
  refine Eq.mp (w_implEquiv p a b _) ⟨_, if_pos h0, ⟨fun hn => ?_, fun hn => ⟨_, if_pos ha, ⟨fun hm => ?_, fun hm => ⟨_, if_pos hb, ⟨fun hk => ?_, fun hk => ?_⟩⟩⟩⟩⟩⟩
  · have hn : m_small p = false := Bool.eq_false_iff.2 (bnot_true hn)
    unfold m_equiv; rw [hn]; rfl
  · have hm : m_genOK p.1 a = false := Bool.eq_false_iff.2 (bnot_true hm)
    unfold m_equiv; rw [hm, Bool.and_false]; rfl
  · have hk : m_genOK p.1 b = false := Bool.eq_false_iff.2 (bnot_true hk)
    unfold m_equiv; rw [hk, Bool.and_false]; rfl
  · have hn : m_small p = true := bnot_false hn
    have hm : m_genOK p.1 a = true := bnot_false hm
    have hk : m_genOK p.1 b = true := bnot_false hk
    have ka := syms_canon hn hm
    have kb := syms_canon hn hk
    refine ⟨_, if_pos (small_iff.1 hn), ?_⟩
    rw [whole_row]
    refine ⟨_, if_pos ka, _, if_pos kb, _, if_pos ?_, (equiv_eq hn hm hk)⟩
    show short (m_canon (m_syms p) a)
    have := canon_short ka
    unfold short at *
    omega
theorem sound_implEquiv : Sound Try.prog 39 s_equiv :=
  Sound.mkS tabOK (envCons sound_implSmall (envCons sound_implIsStateP (envConsM sound_symListI (envCons sound_canonQ (envCons sound_slicesEqual envNil))))) mixed Try.func39 (by kernel_rfl) (by kernel_rfl) fun x h => p_implEquiv x.1 x.2.1 x.2.2.1 h
theorem p_specEquiv (p : PP) (a b : List Int) (h : shortP p ∧ short a ∧ short b) : fnW tab (look [(88, s_small), (89, s_isState), (33, s_specSyms), (91, s_canonQ), (90, s_equalInts)]) s_equiv Try.f38 (p, a, b, ()) (fun (z : Bool) => z = m_equiv p a b) := by
  obtain ⟨h0, ha, hb⟩ := h
  refine Eq.mp (w_specEquiv p a b _) ⟨_, if_pos h0, ⟨fun hn => ?_, fun hn => ⟨_, if_pos ⟨h0, ha⟩, ⟨fun hm => ?_, fun hm => ⟨_, if_pos ⟨h0, hb⟩, ⟨fun hk => ?_, fun hk => ?_⟩⟩⟩⟩⟩⟩
  · have hn : m_small p = false := Bool.eq_false_iff.2 (bnot_true hn)
    unfold m_equiv; rw [hn]; rfl
  · have hn : m_small p = true := bnot_false hn
    have hm : (m_validP p && m_genOK p.1 a) = false := Bool.eq_false_iff.2 (bnot_true hm)
    rw [(small_iff.1 hn).1, Bool.true_and] at hm
    unfold m_equiv; rw [hm, Bool.and_false]; rfl
  · have hn : m_small p = true := bnot_false hn
    have hk : (m_validP p && m_genOK p.1 b) = false := Bool.eq_false_iff.2 (bnot_true hk)
    rw [(small_iff.1 hn).1, Bool.true_and] at hk
    unfold m_equiv; rw [hk, Bool.and_false]; rfl
  · have hn : m_small p = true := bnot_false hn
    have hm : (m_validP p && m_genOK p.1 a) = true := bnot_false hm
    have hk : (m_validP p && m_genOK p.1 b) = true := bnot_false hk
    have hm := (Bool.and_eq_true_iff.1 hm).2
    have hk := (Bool.and_eq_true_iff.1 hk).2
    have ka := syms_canon hn hm
    have kb := syms_canon hn hk
    have he : m_symsS p = m_syms p := if_pos hn
    refine ⟨_, if_pos h0, ?_⟩
    show ∃ y8 : List Int, s_canonQ.fn (m_symsS p, a, ()) = some y8 ∧ ∃ y9 : List Int, s_canonQ.fn (m_symsS p, b, ()) = some y9 ∧ ∃ y10 : Bool, s_equalInts.fn (y8, y9, ()) = some y10 ∧ y10 = m_equiv p a b
    rw [he]
    refine ⟨_, if_pos ka, _, if_pos kb, _, if_pos ?_, (equiv_eq hn hm hk)⟩
    show short (m_canon (m_syms p) a)
    have := canon_short ka
    unfold short at *
    omega
theorem sound_specEquiv : Sound Try.prog 38 s_equiv :=
  Sound.mkS tabOK (envCons sound_specSmall (envCons sound_specIsState (envCons sound_specSyms (envCons sound_canonSpec (envCons sound_equalInts envNil))))) mixed Try.func38 (by kernel_rfl) (by kernel_rfl) fun x h => p_specEquiv x.1 x.2.1 x.2.2.1 h
theorem p_lawEquiv (p : PP) (a b : List Int) (h : shortP p ∧ short a ∧ short b) : fnW tab (look [(14, s_szP), (38, s_equiv), (39, s_equiv), (16, s_toP), (26, s_toL), (18, s_equalInts), (19, s_eqP)]) s_lawPLLx Try.f7 (p, a, b, ()) (fun (z : Bool) => z = true) := by
  obtain ⟨h0, ha, hb⟩ := h
  refine Eq.mp (w_lawEquiv p a b _) (Br.dec (fun _ => rfl) fun _ => Br.dec (fun _ => rfl) fun _ => ⟨_, if_pos ⟨h0, roomy_1m⟩, Br.dec (fun _ => rfl) fun hn => ?_⟩)
  refine ⟨_, if_pos h0, _, if_pos ha, _, if_pos hb, _, if_pos ⟨h0, ha, hb⟩, _, if_pos h0, _, if_pos ha, _, if_pos hb, _, if_pos ⟨h0, ha, hb⟩, ⟨fun he => bools_same he, fun _ => ?_⟩⟩
  refine ⟨_, if_pos h0, _, if_pos h0, ⟨fun he => not_self (m_eqP_self p) he, fun _ => ?_⟩⟩
  refine ⟨_, if_pos ha, _, if_pos ha, ⟨fun he => not_self (decide_eq_true rfl) he, fun _ => ?_⟩⟩
  exact ⟨_, if_pos hb, _, if_pos hb, ⟨fun he => not_self (decide_eq_true rfl) he, fun _ => rfl⟩⟩
theorem sound_lawEquiv : Sound Try.prog 7 s_lawPLLx :=
  Sound.mkS tabOK (envCons sound_szP (envCons sound_specEquiv (envCons sound_implEquiv (envCons sound_toP (envCons sound_toL (envCons sound_eqL (envCons sound_eqP envNil))))))) mixed Try.func7 (by kernel_rfl) (by kernel_rfl) fun x h => p_lawEquiv x.1 x.2.1 x.2.2.1 h
end Go.Proofs.Ytfghmbpogmcboaa
