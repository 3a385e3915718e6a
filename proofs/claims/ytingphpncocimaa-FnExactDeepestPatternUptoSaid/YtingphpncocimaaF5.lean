/-
  Contracts: permutations, puzzles; the laws IsMoveSubset and TableLookup.
-/
import Derived.Test.YtingphpncocimaaF4
namespace Go.Proofs.Ytingphpncocimaa
open Go.RowKit

abbrev PP : Type := Int × ByteArray × List (List Int) × Unit
noncomputable def m_isPerm (p : List Int) : Bool := dec (1 ≤ p.length ∧ p.length ≤ 20 ∧ DL p.length p p.length)
noncomputable def m_genOK (n : Int) (p : List Int) : Bool := dec ((p.length : Int) = n ∧ m_isPerm p = true)
noncomputable def m_isGens (n : Int) (g : List (List Int)) : Bool := dec ((1 ≤ n ∧ n ≤ 20) ∧ g.length ≤ 8 ∧ ∀ p ∈ g, m_genOK n p = true)
def m_indexF {α : Type} (P : α → Bool) : List α → Int → Int
  | [], _ => -1
  | y :: r, i => if P y = true then i else m_indexF P r (i + 1)
abbrev tG1 : Ty := .clo 121 (.pair (.ptr tI) .unit)
abbrev tX1 : Ty := .clo 123 (.pair (.ptr tL) .unit)
def NameAt (s : ByteArray) (i : Nat) : Prop := ∃ c : UInt8, s[i]? = some c ∧ 65 ≤ c.toNat ∧ c.toNat ≤ 90 ∧ ∀ k, k < i → s[k]? ≠ some c
noncomputable def m_nameAt (s : ByteArray) (i : Int) : Bool := dec (NameAt s i.toNat)
noncomputable def m_isNames (s : ByteArray) : Bool := dec ((1 ≤ s.size ∧ s.size ≤ 8) ∧ ∀ j, j < s.size → NameAt s j)
noncomputable def m_validP (p : PP) : Bool := dec (m_isGens p.1 p.2.2.1 = true ∧ m_isNames p.2.1 = true ∧ p.2.1.size = p.2.2.1.length)
noncomputable def m_moveSubset (p : PP) (xs : List Int) : Bool := dec (m_validP p = true ∧ m_pointList p.2.2.1.length xs = true)
def shortP (p : PP) : Prop := p.2.1.size ≤ 4294967296 ∧ shortLL p.2.2.1
noncomputable abbrev s_lenL : Spec := mkS (.pair tL .unit) tI false true (fun _ => True) (fun x => (List.length x.1 : Int))
noncomputable abbrev s_isPerm : Spec := mkS (.pair tL .unit) .bool false true (fun x => short x.1) (fun x => m_isPerm x.1)
noncomputable abbrev s_isGens : Spec := mkS (.pair tI (.pair tLL .unit)) .bool false true (fun x => shortLL x.2.1) (fun x => m_isGens x.1 x.2.1)
noncomputable abbrev s_gens1 : Spec := mkS (.pair tL (.pair (.ptr tI) .unit)) .bool false true (fun x => short x.1) (fun x => !m_genOK x.2.1 x.1)
noncomputable abbrev s_ixG : Spec := mkS (.pair tLL (.pair tG1 .unit)) tI false true (fun x => shortLL x.1) (fun x => m_indexF (fun p => !m_genOK x.2.1.1 p) x.1 0)
noncomputable abbrev s_ctG : Spec := mkS (.pair tLL (.pair tG1 .unit)) .bool false true (fun x => shortLL x.1) (fun x => List.any x.1 (fun p => !m_genOK x.2.1.1 p))
noncomputable abbrev s_nameAt : Spec := mkS (.pair .str (.pair tI .unit)) .bool false true (fun x => 0 ≤ x.2.1 ∧ x.2.1 < x.1.size ∧ x.1.size ≤ 4294967296) (fun x => m_nameAt x.1 x.2.1)
noncomputable abbrev s_isNames : Spec := mkS (.pair .str .unit) .bool false true (fun x => x.1.size ≤ 4294967296) (fun x => m_isNames x.1)
noncomputable abbrev s_validP : Spec := mkS (.pair tPuzzle .unit) .bool false true (fun x => shortP x.1) (fun x => m_validP x.1)
noncomputable abbrev s_moveSubset : Spec := mkS (.pair tPuzzle (.pair tL .unit)) .bool false true (fun x => shortP x.1 ∧ short x.2.1) (fun x => m_moveSubset x.1 x.2.1)
def m_szP (p : PP) (room : Int) : Int := if room - p.2.1.size < 0 then -1 else if m_szLL p.2.2.1 (room - p.2.1.size) < 0 then -1 else m_szLL p.2.2.1 (room - p.2.1.size)
def m_eqP (a b : PP) : Bool := decide (a.1 = b.1) && (decide (a.2.1 = b.2.1) && decide (a.2.2.1 = b.2.2.1))
noncomputable abbrev s_szP : Spec := mkS (.pair tPuzzle (.pair tI .unit)) tI false true (fun x => shortP x.1 ∧ roomy x.2.1) (fun x => m_szP x.1 x.2.1)
noncomputable abbrev s_toP : Spec := mkS (.pair tPuzzle .unit) tPuzzle false true (fun x => shortP x.1) (fun x => x.1)
noncomputable abbrev s_eqP : Spec := mkS (.pair tPuzzle (.pair tPuzzle .unit)) .bool false true (fun x => shortP x.1) (fun x => m_eqP x.1 x.2.1)
noncomputable abbrev s_lawPL : Spec := mkS (.pair tPuzzle (.pair tL .unit)) .bool false true (fun x => shortP x.1 ∧ short x.2.1) (fun _ => true)
noncomputable abbrev s_tabEntry : Spec := mkS (.pair tTable (.pair tL .unit)) tI false true (fun x => shortT x.1 ∧ short x.2.1) (fun x => m_indexF (fun p => decide (p = x.2.1)) x.1.2.1 0)
noncomputable abbrev s_indexOf1 : Spec := mkS (.pair tL (.pair (.ptr tL) .unit)) .bool false true (fun x => short x.1) (fun x => decide (x.1 = x.2.1))
noncomputable abbrev s_ixX : Spec := mkS (.pair tLL (.pair tX1 .unit)) tI false true (fun x => shortLL x.1) (fun x => m_indexF (fun p => decide (p = x.2.1.1)) x.1 0)
noncomputable abbrev s_indexOf : Spec := mkS (.pair tLL (.pair tL .unit)) tI false true (fun x => shortLL x.1 ∧ short x.2.1) (fun x => m_indexF (fun p => decide (p = x.2.1)) x.1 0)
def m_lookup (t : TT) (x : List Int) : Int := if m_indexF (fun p => decide (p = x)) t.2.1 0 < 0 then -1 else t.2.2.1.getD (m_indexF (fun p => decide (p = x)) t.2.1 0).toNat 0
noncomputable def m_tableLookup (t : TT) (x : List Int) : Int := if m_wellFormed t = true then m_lookup t x else -1
noncomputable abbrev s_lookup : Spec := mkS (.pair tTable (.pair tL .unit)) tI false true (fun x => shortT x.1 ∧ short x.2.1 ∧ x.1.2.2.1.length = x.1.2.1.length) (fun x => m_lookup x.1 x.2.1)
noncomputable abbrev s_tableLookup : Spec := mkS (.pair tTable (.pair tL .unit)) tI false true (fun x => shortT x.1 ∧ short x.2.1) (fun x => m_tableLookup x.1 x.2.1)
noncomputable abbrev s_lawTL : Spec := mkS (.pair tTable (.pair tL .unit)) .bool false true (fun x => shortT x.1 ∧ short x.2.1) (fun _ => true)
theorem w_lenL (xs : List Int) (P : Int → Prop) : (P (↑xs.length : Int)) = fnW tab (look []) s_lenL Try.f80 (xs, ()) P := by kernel_rfl
theorem w_specIsPerm (p : List Int) (P : Bool → Prop) : (∃ (y2 : Bool),
  s_inRange.fn ((↑p.length : Int), (1 : Int), (20 : Int), ()) = some y2 ∧
    Br (!y2) (P false)
      (WLoop
        (fun (v3 : Int × PUnit) (k4 : Int × PUnit → Prop) =>
          Br (decide (v3.fst < (↑p.length : Int)))
            (∃ (y5 : Int),
              idx p v3.fst = some y5 ∧
                ∃ (y6 : Bool),
                  s_inRange.fn (y5, (0 : Int), IntKind.i64.wrap ((↑p.length : Int) - (1 : Int)), ()) = some y6 ∧
                    Br (!y6) (P false)
                      (((0 : Int) ≤ (0 : Int) ∧ (0 : Int) ≤ v3.fst ∧ v3.fst ≤ (↑p.length : Int)) ∧
                        ∃ (y7 : Int),
                          idx p v3.fst = some y7 ∧
                            ∃ (y8 : Bool),
                              s_containsInt.fn (List.drop (Int.toNat (0 : Int)) (List.take v3.fst.toNat p), y7, ()) = some y8 ∧ Br y8 (P false) (k4 (IntKind.i64.wrap (v3.fst + (1 : Int)), ()))))
            (P true))
        ((0 : Int), PUnit.unit))) = fnW tab (look [(60, s_inRange), (102, s_containsInt)]) s_isPerm Try.f119 (p, ()) P := by kernel_rfl
theorem w_implIsPerm (p : List Int) (P : Bool → Prop) : (∃ (y2 : Int),
  s_lenL.fn (p, ()) = some y2 ∧
    ∃ (y3 : Bool),
      s_inRange.fn (y2, (1 : Int), (20 : Int), ()) = some y3 ∧
        Br (!y3) (P false)
          (WLoop
            (fun (v4 : Int × Int × PUnit) (k5 : Int × Int × PUnit → Prop) =>
              Br (decide (v4.2.fst < (↑p.length : Int)))
                (∃ (y6 : Int),
                  idx p v4.2.fst = some y6 ∧
                    ∃ (y7 : Int),
                      s_lenL.fn (p, ()) = some y7 ∧
                        ∃ (y8 : Bool),
                          s_inRange.fn (y6, (0 : Int), IntKind.i64.wrap (y7 - (1 : Int)), ()) = some y8 ∧
                            Br (!y8) (P false)
                              (¬y6 < (0 : Int) ∧
                                k5
                                  (IntKind.i64.wrap
                                      (↑(BitVec.ofInt IntKind.i64.bits v4.fst ||| BitVec.ofInt IntKind.i64.bits (IntKind.i64.wrap ((1 : Int) * (2 : Int) ^ min y6.toNat IntKind.i64.bits))).toNat :
                                        Int),
                                    IntKind.i64.wrap (v4.2.fst + (1 : Int)), ())))
                (¬(↑p.length : Int) < (0 : Int) ∧ P (v4.fst == IntKind.i64.wrap (IntKind.i64.wrap ((1 : Int) * (2 : Int) ^ min (↑p.length : Int).toNat IntKind.i64.bits) - (1 : Int)))))
            ((0 : Int), (0 : Int), PUnit.unit))) = fnW tab (look [(63, s_inRange), (80, s_lenL)]) s_isPerm Try.f116 (p, ()) P := by kernel_rfl
theorem w_specIsGens (n : Int) (g : List (List Int)) (P : Bool → Prop) : (∃ (y3 : Bool),
  s_inRange.fn (n, (1 : Int), (20 : Int), ()) = some y3 ∧
    Br (!y3) (P false)
      (Br (decide ((↑g.length : Int) > (8 : Int))) (P false)
        (WLoop
          (fun (v4 : Int × PUnit) (k5 : Int × PUnit → Prop) =>
            Br (decide (v4.fst < (↑g.length : Int)))
              (∃ (y6 : List Int),
                idx g v4.fst = some y6 ∧
                  Br ((↑y6.length : Int) != n) (P false)
                    (∃ (y7 : List Int), idx g v4.fst = some y7 ∧ ∃ (y8 : Bool), s_isPerm.fn (y7, ()) = some y8 ∧ Br (!y8) (P false) (k5 (IntKind.i64.wrap (v4.fst + (1 : Int)), ()))))
              (P true))
          ((0 : Int), PUnit.unit)))) = fnW tab (look [(60, s_inRange), (119, s_isPerm)]) s_isGens Try.f104 (n, g, ()) P := by kernel_rfl
theorem w_gens1 (p : List Int) (n : Int) (P : Bool → Prop) : (∃ (y3 : Int), s_lenL.fn (p, ()) = some y3 ∧ Br (y3 != n) (P true) (∃ (y4 : Bool), s_isPerm.fn (p, ()) = some y4 ∧ P !y4)) = fnW tab (look [(80, s_lenL), (116, s_isPerm)]) s_gens1 Try.f121 (p, n, ()) P := by kernel_rfl
theorem w_ixG (g : List (List Int)) (n : Int × Unit) (P : Int → Prop) : (WLoop
  (fun (v3 : Int × PUnit) (k4 : Int × PUnit → Prop) =>
    Br (decide (v3.fst < (↑g.length : Int)))
      (∃ (y5 : List Int), idx g v3.fst = some y5 ∧ ∃ (y6 : Bool), s_gens1.fn (y5, n.fst, ()) = some y6 ∧ Br y6 (P v3.fst) (k4 (IntKind.i64.wrap (v3.fst + (1 : Int)), ()))) (P (-1 : Int)))
  ((0 : Int), PUnit.unit)) = fnW tab (look [(121, s_gens1)]) s_ixG Try.f122 (g, n, ()) P := by kernel_rfl
theorem w_ctG (g : List (List Int)) (n : Int × Unit) (P : Bool → Prop) : (∃ (y3 : Int), s_ixG.fn (g, n, ()) = some y3 ∧ P (decide (y3 ≥ (0 : Int)))) = fnW tab (look [(122, s_ixG)]) s_ctG Try.f120 (g, n, ()) P := by kernel_rfl
theorem w_implIsGens (n : Int) (g : List (List Int)) (P : Bool → Prop) : (∃ (y3 : Bool),
  s_inRange.fn (n, (1 : Int), (20 : Int), ()) = some y3 ∧ Br y3 (Br (decide ((↑g.length : Int) ≤ (8 : Int))) (∃ (y4 : Bool), s_ctG.fn (g, (n, ()), ()) = some y4 ∧ P !y4) (P false)) (P false)) = fnW tab (look [(63, s_inRange), (120, s_ctG)]) s_isGens Try.f106 (n, g, ()) P := by kernel_rfl
theorem w_nameAt (s : ByteArray) (i : Int) (P : Bool → Prop) : ((0 : Int) ≤ i ∧
  ∃ (y3 : UInt8),
    s[i.toNat]? = some y3 ∧
      Br (decide ((↑y3.toNat : Int) < (65 : Int))) (P false)
        ((0 : Int) ≤ i ∧
          ∃ (y4 : UInt8),
            s[i.toNat]? = some y4 ∧
              Br (decide ((↑y4.toNat : Int) > (90 : Int))) (P false)
                (WLoop
                  (fun (v5 : Int × PUnit) (k6 : Int × PUnit → Prop) =>
                    Br (decide (v5.fst < i))
                      ((0 : Int) ≤ v5.fst ∧
                        ∃ (y7 : UInt8),
                          s[v5.fst.toNat]? = some y7 ∧
                            (0 : Int) ≤ i ∧ ∃ (y8 : UInt8), s[i.toNat]? = some y8 ∧ Br ((↑y7.toNat : Int) == (↑y8.toNat : Int)) (P false) (k6 (IntKind.i64.wrap (v5.fst + (1 : Int)), ())))
                      (P true))
                  ((0 : Int), PUnit.unit)))) = fnW tab (look []) s_nameAt Try.f105 (s, i, ()) P := by kernel_rfl
theorem w_isNames (s : ByteArray) (P : Bool → Prop) : (WLoop
  (fun (v2 : Int × PUnit) (k3 : Int × PUnit → Prop) =>
    Br (decide (v2.fst < (↑s.size : Int)))
      ((0 : Int) ≤ v2.fst ∧
        ∃ (y4 : UInt8),
          s[v2.fst.toNat]? = some y4 ∧
            ∃ (y5 : Bool),
              s_inRange.fn (IntKind.i64.wrap (↑y4.toNat : Int), (65 : Int), (90 : Int), ()) = some y5 ∧
                Br (!y5) (P false)
                  (WLoop
                    (fun (v6 : Int × PUnit) (k7 : Int × PUnit → Prop) =>
                      Br (decide (v6.fst < v2.fst))
                        ((0 : Int) ≤ v6.fst ∧
                          ∃ (y8 : UInt8),
                            s[v6.fst.toNat]? = some y8 ∧
                              (0 : Int) ≤ v2.fst ∧ ∃ (y9 : UInt8), s[v2.fst.toNat]? = some y9 ∧ Br ((↑y8.toNat : Int) == (↑y9.toNat : Int)) (P false) (k7 (IntKind.i64.wrap (v6.fst + (1 : Int)), ())))
                        (k3 (IntKind.i64.wrap (v2.fst + (1 : Int)), ())))
                    ((0 : Int), PUnit.unit)))
      (∃ (y4 : Bool), s_inRange.fn ((↑s.size : Int), (1 : Int), (8 : Int), ()) = some y4 ∧ P y4))
  ((0 : Int), PUnit.unit)) = fnW tab (look [(63, s_inRange)]) s_isNames Try.f107 (s, ()) P := by kernel_rfl
theorem w_specValidP (p : Int × ByteArray × List (List Int) × Unit) (P : Bool → Prop) : (Br ((↑p.snd.2.fst.length : Int) == (0 : Int)) (P false)
  (Br ((↑p.2.fst.size : Int) != (↑p.snd.2.fst.length : Int)) (P false)
    (∃ (y2 : Bool),
      s_isGens.fn (p.fst, p.snd.2.fst, ()) = some y2 ∧
        Br (!y2) (P false)
          (WLoop
            (fun (v3 : Int × Int × ByteArray × List (List Int) × PUnit) (k4 : Int × Int × ByteArray × List (List Int) × PUnit → Prop) =>
              Br (decide (v3.fst < (↑v3.snd.2.fst.size : Int)))
                (∃ (y5 : Bool), s_nameAt.fn (v3.snd.2.fst, v3.fst, ()) = some y5 ∧ Br (!y5) (P false) (k4 (IntKind.i64.wrap (v3.fst + (1 : Int)), v3.2.fst, v3.snd.2.fst, v3.2.snd.2.fst, ())))
                (P true))
            ((0 : Int), p.fst, p.2.fst, p.snd.2.fst, PUnit.unit))))) = fnW tab (look [(104, s_isGens), (105, s_nameAt)]) s_validP Try.f66 (p, ()) P := by kernel_rfl
theorem w_implValidP (p : Int × ByteArray × List (List Int) × Unit) (P : Bool → Prop) : (∃ (y2 : Bool),
  s_isGens.fn (p.fst, p.snd.2.fst, ()) = some y2 ∧ Br y2 (∃ (y3 : Bool), s_isNames.fn (p.2.fst, ()) = some y3 ∧ Br y3 (P ((↑p.2.fst.size : Int) == (↑p.snd.2.fst.length : Int))) (P false)) (P false)) = fnW tab (look [(106, s_isGens), (107, s_isNames)]) s_validP Try.f67 (p, ()) P := by kernel_rfl
theorem w_specMoveSubset (p : Int × ByteArray × List (List Int) × Unit) (xs : List Int) (P : Bool → Prop) : (∃ (y3 : Bool), s_validP.fn ((p.fst, p.2.fst, p.snd.2.fst, ()), ()) = some y3 ∧ Br y3 (∃ (y4 : Bool), s_pointList.fn ((↑p.snd.2.fst.length : Int), xs, ()) = some y4 ∧ P y4) (P false)) = fnW tab (look [(66, s_validP), (59, s_pointList)]) s_moveSubset Try.f23 (p, xs, ()) P := by kernel_rfl
theorem w_implMoveSubset (p : Int × ByteArray × List (List Int) × Unit) (xs : List Int) (P : Bool → Prop) : (∃ (y3 : Bool),
  s_validP.fn ((p.fst, p.2.fst, p.snd.2.fst, ()), ()) = some y3 ∧ Br y3 (∃ (y4 : Int), s_lenLL.fn (p.snd.2.fst, ()) = some y4 ∧ ∃ (y5 : Bool), s_pointList.fn (y4, xs, ()) = some y5 ∧ P y5) (P false)) = fnW tab (look [(67, s_validP), (62, s_pointList), (64, s_lenLL)]) s_moveSubset Try.f26 (p, xs, ()) P := by kernel_rfl
theorem w_szP (p : Int × ByteArray × List (List Int) × Unit) (room : Int) (P : Int → Prop) : (Br (decide (IntKind.i64.wrap (room - (↑p.2.fst.size : Int)) < (0 : Int))) (P (-1 : Int))
  (∃ (y3 : Int), s_szLL.fn (p.snd.2.fst, IntKind.i64.wrap (room - (↑p.2.fst.size : Int)), ()) = some y3 ∧ Br (decide (y3 < (0 : Int))) (P (-1 : Int)) (P y3))) = fnW tab (look [(38, s_szLL)]) s_szP Try.f22 (p, room, ()) P := by kernel_rfl
theorem w_toP (p : Int × ByteArray × List (List Int) × Unit) (P : (Int × ByteArray × List (List Int) × Unit) → Prop) : (∃ (y2 : List (List Int)), s_toLL.fn (p.snd.2.fst, ()) = some y2 ∧ P (p.fst, p.2.fst, y2, ())) = fnW tab (look [(40, s_toLL)]) s_toP Try.f24 (p, ()) P := by kernel_rfl
theorem w_eqP (a b : Int × ByteArray × List (List Int) × Unit) (P : Bool → Prop) : (Br (a.fst != b.fst) (P false) (Br (!a.2.fst.toList == b.2.fst.toList) (P false) (∃ (y3 : Bool), s_eqLL.fn (a.snd.2.fst, b.snd.2.fst, ()) = some y3 ∧ Br (!y3) (P false) (P true)))) = fnW tab (look [(42, s_eqLL)]) s_eqP Try.f27 (a, b, ()) P := by kernel_rfl
theorem w_lawMoveSubset (p : Int × ByteArray × List (List Int) × Unit) (xs : List Int) (P : Bool → Prop) : (Br (decide ((↑xs.length : Int) > (1048576 : Int))) (P true)
  (∃ (y3 : Int),
    s_szP.fn ((p.fst, p.2.fst, p.snd.2.fst, ()), (1048576 : Int), ()) = some y3 ∧
      Br (decide (y3 < (0 : Int))) (P true)
        (∃ (y4 : Int × ByteArray × List (List Int) × PUnit),
          s_toP.fn ((p.fst, p.2.fst, p.snd.2.fst, ()), ()) = some y4 ∧
            ∃ (y5 : List Int),
              s_toL.fn (xs, ()) = some y5 ∧
                ∃ (y6 : Bool),
                  s_moveSubset.fn (y4, y5, ()) = some y6 ∧
                    ∃ (y7 : Int × ByteArray × List (List Int) × PUnit),
                      s_toP.fn ((p.fst, p.2.fst, p.snd.2.fst, ()), ()) = some y7 ∧
                        ∃ (y8 : List Int),
                          s_toL.fn (xs, ()) = some y8 ∧
                            ∃ (y9 : Bool),
                              s_moveSubset.fn ((y7.fst, y7.2.fst, y7.snd.2.fst, ()), y8, ()) = some y9 ∧
                                Br (!y9 == y6) (P false)
                                  (∃ (y10 : Int × ByteArray × List (List Int) × PUnit),
                                    s_toP.fn ((p.fst, p.2.fst, p.snd.2.fst, ()), ()) = some y10 ∧
                                      ∃ (y11 : Bool),
                                        s_eqP.fn ((y7.fst, y7.2.fst, y7.snd.2.fst, ()), y10, ()) = some y11 ∧
                                          Br (!y11) (P false)
                                            (∃ (y12 : List Int), s_toL.fn (xs, ()) = some y12 ∧ ∃ (y13 : Bool), s_equalInts.fn (y8, y12, ()) = some y13 ∧ Br (!y13) (P false) (P true)))))) = fnW tab (look [(22, s_szP), (23, s_moveSubset), (26, s_moveSubset), (24, s_toP), (27, s_eqP), (25, s_toL), (28, s_equalInts)]) s_lawPL Try.f5 (p, xs, ()) P := by kernel_rfl
theorem w_tabEntry (t : List Int × List (List Int) × List Int × Unit) (xs : List Int) (P : Int → Prop) : (WLoop
  (fun (v3 : Int × List Int × List (List Int) × List Int × PUnit) (k4 : Int × List Int × List (List Int) × List Int × PUnit → Prop) =>
    Br (decide (v3.fst < (↑v3.snd.2.fst.length : Int)))
      (∃ (y5 : List Int),
        idx v3.snd.2.fst v3.fst = some y5 ∧
          ∃ (y6 : Bool), s_equalInts.fn (y5, xs, ()) = some y6 ∧ Br y6 (P v3.fst) (k4 (IntKind.i64.wrap (v3.fst + (1 : Int)), v3.2.fst, v3.snd.2.fst, v3.2.snd.2.fst, ())))
      (P (-1 : Int)))
  ((0 : Int), t.fst, t.2.fst, t.snd.2.fst, PUnit.unit)) = fnW tab (look [(56, s_equalInts)]) s_tabEntry Try.f70 (t, xs, ()) P := by kernel_rfl
theorem w_indexOf1 (xs ys : List Int) (P : Bool → Prop) : (∃ (y3 : Bool), s_equalInts.fn (xs, ys, ()) = some y3 ∧ P y3) = fnW tab (look [(57, s_equalInts)]) s_indexOf1 Try.f123 (xs, ys, ()) P := by kernel_rfl
theorem w_ixX (g : List (List Int)) (n : List Int × Unit) (P : Int → Prop) : (WLoop
  (fun (v3 : Int × PUnit) (k4 : Int × PUnit → Prop) =>
    Br (decide (v3.fst < (↑g.length : Int)))
      (∃ (y5 : List Int), idx g v3.fst = some y5 ∧ ∃ (y6 : Bool), s_indexOf1.fn (y5, n.fst, ()) = some y6 ∧ Br y6 (P v3.fst) (k4 (IntKind.i64.wrap (v3.fst + (1 : Int)), ()))) (P (-1 : Int)))
  ((0 : Int), PUnit.unit)) = fnW tab (look [(123, s_indexOf1)]) s_ixX Try.f122 (g, n, ()) P := by kernel_rfl
theorem w_indexOf (g : List (List Int)) (xs : List Int) (P : Int → Prop) : (∃ (y3 : Int), s_ixX.fn (g, (xs, ()), ()) = some y3 ∧ P y3) = fnW tab (look [(122, s_ixX)]) s_indexOf Try.f108 (g, xs, ()) P := by kernel_rfl
theorem w_lookup (t : List Int × List (List Int) × List Int × Unit) (xs : List Int) (P : Int → Prop) : (∃ (y3 : Int), s_indexOf.fn (t.2.fst, xs, ()) = some y3 ∧ Br (decide (y3 < (0 : Int))) (P (-1 : Int)) (∃ (y4 : Int), idx t.snd.2.fst y3 = some y4 ∧ P y4)) = fnW tab (look [(108, s_indexOf)]) s_lookup Try.f71 (t, xs, ()) P := by kernel_rfl
theorem w_specTableLookup (t : List Int × List (List Int) × List Int × Unit) (xs : List Int) (P : Int → Prop) : (∃ (y3 : Bool),
  s_wellFormed.fn ((t.fst, t.2.fst, t.snd.2.fst, ()), ()) = some y3 ∧
    Br (!y3) (P (-1 : Int))
      (∃ (y4 : Int), s_tabEntry.fn ((t.fst, t.2.fst, t.snd.2.fst, ()), xs, ()) = some y4 ∧ Br (decide (y4 < (0 : Int))) (P (-1 : Int)) (∃ (y5 : Int), idx t.snd.2.fst y4 = some y5 ∧ P y5))) = fnW tab (look [(20, s_wellFormed), (70, s_tabEntry)]) s_tableLookup Try.f34 (t, xs, ()) P := by kernel_rfl
theorem w_implTableLookup (t : List Int × List (List Int) × List Int × Unit) (xs : List Int) (P : Int → Prop) : (∃ (y3 : Bool), s_wellFormed.fn ((t.fst, t.2.fst, t.snd.2.fst, ()), ()) = some y3 ∧ Br (!y3) (P (-1 : Int)) (∃ (y4 : Int), s_lookup.fn ((t.fst, t.2.fst, t.snd.2.fst, ()), xs, ()) = some y4 ∧ P y4)) = fnW tab (look [(21, s_wellFormed), (71, s_lookup)]) s_tableLookup Try.f35 (t, xs, ()) P := by kernel_rfl
theorem w_lawTableLookup (t : List Int × List (List Int) × List Int × Unit) (xs : List Int) (P : Bool → Prop) : (Br (decide ((↑xs.length : Int) > (1048576 : Int))) (P true)
  (∃ (y3 : Int),
    s_szTable.fn ((t.fst, t.2.fst, t.snd.2.fst, ()), (1048576 : Int), ()) = some y3 ∧
      Br (decide (y3 < (0 : Int))) (P true)
        (∃ (y4 : List Int × List (List Int) × List Int × PUnit),
          s_toTable.fn ((t.fst, t.2.fst, t.snd.2.fst, ()), ()) = some y4 ∧
            ∃ (y5 : List Int),
              s_toL.fn (xs, ()) = some y5 ∧
                ∃ (y6 : Int),
                  s_tableLookup.fn (y4, y5, ()) = some y6 ∧
                    ∃ (y7 : List Int × List (List Int) × List Int × PUnit),
                      s_toTable.fn ((t.fst, t.2.fst, t.snd.2.fst, ()), ()) = some y7 ∧
                        ∃ (y8 : List Int),
                          s_toL.fn (xs, ()) = some y8 ∧
                            ∃ (y9 : Int),
                              s_tableLookup.fn ((y7.fst, y7.2.fst, y7.snd.2.fst, ()), y8, ()) = some y9 ∧
                                Br (y9 != y6) (P false)
                                  (∃ (y10 : List Int × List (List Int) × List Int × PUnit),
                                    s_toTable.fn ((t.fst, t.2.fst, t.snd.2.fst, ()), ()) = some y10 ∧
                                      ∃ (y11 : Bool),
                                        s_eqTable.fn ((y7.fst, y7.2.fst, y7.snd.2.fst, ()), y10, ()) = some y11 ∧
                                          Br (!y11) (P false)
                                            (∃ (y12 : List Int), s_toL.fn (xs, ()) = some y12 ∧ ∃ (y13 : Bool), s_equalInts.fn (y8, y12, ()) = some y13 ∧ Br (!y13) (P false) (P true)))))) = fnW tab (look [(15, s_szTable), (34, s_tableLookup), (35, s_tableLookup), (17, s_toTable), (19, s_eqTable), (25, s_toL), (28, s_equalInts)]) s_lawTL Try.f7 (t, xs, ()) P := by kernel_rfl
theorem p_lenL (xs : List Int) (_ : True) : fnW tab (look []) s_lenL Try.f80 (xs, ()) (fun (z : Int) => z = (xs.length : Int)) := Eq.mp (w_lenL xs _) rfl
theorem sound_lenL : Sound Try.prog 80 s_lenL :=
  Sound.mkS tabOK envNil mixed Try.func80 (by kernel_rfl) (by kernel_rfl) fun x h => p_lenL x.1 h
/- plain lemmas on lists without repetition -/
theorem sub_len {α : Type} [DecidableEq α] : ∀ (l m : List α), l.Nodup → (∀ x ∈ l, x ∈ m) → l.length ≤ m.length
  | [], m, _, _ => Nat.zero_le _
  | a :: l, m, hn, hs => by
    have ha : a ∈ m := hs a (List.mem_cons_self ..)
    have hn := List.nodup_cons.1 hn
    have := sub_len l (m.erase a) hn.2 fun x hx => (List.mem_erase_of_ne (fun (e : x = a) => hn.1 (by rw [← e]; exact hx))).2 (hs x (List.mem_cons_of_mem _ hx))
    rw [List.length_erase_of_mem ha] at this
    have : 0 < m.length := List.length_pos_of_mem ha
    simp only [List.length_cons]
    omega
def upto (n : Nat) : List Int := (List.range n).map Int.ofNat
theorem upto_nodup (n : Nat) : (upto n).Nodup := by
  unfold upto
  exact List.Pairwise.map _ (fun a b hab e => hab (Int.ofNat.inj e)) List.nodup_range
theorem mem_upto {n : Nat} {x : Int} : x ∈ upto n ↔ 0 ≤ x ∧ x < n := by
  unfold upto
  simp only [List.mem_map, List.mem_range]
  constructor
  · rintro ⟨a, ha, rfl⟩; exact ⟨Int.natCast_nonneg _, Int.ofNat_lt.2 ha⟩
  · rintro ⟨h1, h2⟩; exact ⟨x.toNat, by omega, by simp only [Int.ofNat_eq_natCast]; omega⟩
theorem upto_len (n : Nat) : (upto n).length = n := by simp [upto]
theorem nodup_of_takes {xs : List Int} (h : ∀ j (hj : j < xs.length), xs[j] ∉ xs.take j) : xs.Nodup := by
  refine List.pairwise_iff_getElem.2 fun i j hi hj hij e => h j hj ?_
  rw [← e]
  exact List.mem_take_iff_getElem.2 ⟨i, by omega, rfl⟩
theorem takes_of_nodup {xs : List Int} (h : xs.Nodup) : ∀ j (hj : j < xs.length), xs[j] ∉ xs.take j := by
  intro j hj hm
  obtain ⟨i, hi, e⟩ := List.mem_take_iff_getElem.1 hm
  exact List.pairwise_iff_getElem.1 h i j (by omega) hj (by omega) e
/-- Points of a row that is as long as there are points: all of them, or one twice. -/
theorem all_iff_nodup {xs : List Int} (h : ∀ x ∈ xs, 0 ≤ x ∧ x < xs.length) : (∀ k : Nat, k < xs.length → (k : Int) ∈ xs) ↔ ∀ j (hj : j < xs.length), xs[j] ∉ xs.take j := by
  constructor
  · intro ha j hj hm
    have h1 := sub_len (upto xs.length) (xs.take j ++ xs.drop (j + 1)) (upto_nodup _) fun x hx => by
      obtain ⟨h1, h2⟩ := mem_upto.1 hx
      have hx := ha x.toNat (by omega)
      rw [show ((x.toNat : Nat) : Int) = x by omega] at hx
      rw [← List.take_append_drop j xs, List.mem_append, List.drop_eq_getElem_cons hj, List.mem_cons] at hx
      rcases hx with hx | rfl | hx
      · exact List.mem_append_left _ hx
      · exact List.mem_append_left _ hm
      · exact List.mem_append_right _ hx
    rw [upto_len, List.length_append, List.length_take, List.length_drop] at h1
    omega
  · intro hn k hk
    refine Classical.byContradiction fun hc => ?_
    have h1 := sub_len xs ((upto xs.length).erase (k : Int)) (nodup_of_takes hn) fun x hx => by
      refine (List.mem_erase_of_ne fun (e : x = (k : Int)) => hc (by rw [← e]; exact hx)).2 (mem_upto.2 (h x hx))
    rw [List.length_erase_of_mem (mem_upto.2 ⟨by omega, by omega⟩), upto_len] at h1
    omega
def mask (xs : List Int) : Nat := xs.foldl (fun m x => m ||| 2 ^ x.toNat) 0
theorem mask_snoc (xs : List Int) (x : Int) : mask (xs ++ [x]) = mask xs ||| 2 ^ x.toNat := by simp [mask]
theorem mask_testBit (xs : List Int) (k : Nat) : ∀ a : Nat, (xs.foldl (fun m x => m ||| 2 ^ x.toNat) a).testBit k = (a.testBit k || xs.any fun x => decide (x.toNat = k)) := by
  induction xs with
  | nil => simp
  | cons x xs ih =>
    intro a
    rw [List.foldl_cons, ih, Nat.testBit_or, Nat.testBit_two_pow, List.any_cons, Bool.or_assoc]
theorem mask_bit (xs : List Int) (k : Nat) : (mask xs).testBit k = xs.any fun x => decide (x.toNat = k) := by
  unfold mask
  rw [mask_testBit, Nat.zero_testBit, Bool.false_or]
theorem mask_lt {xs : List Int} {n : Nat} (h : ∀ x ∈ xs, x.toNat < n) : mask xs < 2 ^ n := by
  refine Nat.lt_pow_two_of_testBit _ fun k hk => ?_
  rw [mask_bit]
  refine Bool.eq_false_iff.2 fun ht => ?_
  obtain ⟨x, hx, he⟩ := List.any_eq_true.1 ht
  have := h x hx
  have := of_decide_eq_true he
  omega
theorem mask_full {xs : List Int} (h : ∀ x ∈ xs, 0 ≤ x ∧ x < xs.length) : mask xs = 2 ^ xs.length - 1 ↔ ∀ k : Nat, k < xs.length → (k : Int) ∈ xs := by
  constructor
  · intro e k hk
    have h1 := mask_bit xs k
    rw [e, Nat.testBit_two_pow_sub_one, decide_eq_true hk] at h1
    obtain ⟨x, hx, he⟩ := List.any_eq_true.1 h1.symm
    have := (h x hx).1
    have := of_decide_eq_true he
    have e : x = (k : Int) := by omega
    exact e ▸ hx
  · intro ha
    refine Nat.eq_of_testBit_eq fun k => ?_
    rw [mask_bit, Nat.testBit_two_pow_sub_one]
    by_cases hk : k < xs.length
    · rw [decide_eq_true hk]
      exact List.any_eq_true.2 ⟨k, ha k hk, by simp⟩
    · rw [decide_eq_false hk]
      refine Bool.eq_false_iff.2 fun ht => ?_
      obtain ⟨x, hx, he⟩ := List.any_eq_true.1 ht
      have := h x hx
      have := of_decide_eq_true he
      omega
theorem or_step {m : Nat} {x : Int} (hm : m < 2 ^ 20) (h0 : 0 ≤ x) (h1 : x < 20) :
    IntKind.i64.wrap (((BitVec.ofInt IntKind.i64.bits (m : Int) ||| BitVec.ofInt IntKind.i64.bits (IntKind.i64.wrap ((1 : Int) * (2 : Int) ^ min x.toNat IntKind.i64.bits))).toNat : Nat) : Int) = ((m ||| 2 ^ x.toNat : Nat) : Int) := by
  have hx : (2 : Nat) ^ x.toNat < 2 ^ 20 := Nat.pow_lt_pow_right (by omega) (by omega)
  have e1 : min x.toNat IntKind.i64.bits = x.toNat := by show min x.toNat 64 = _; omega
  have e2 : (1 : Int) * (2 : Int) ^ x.toNat = ((2 ^ x.toNat : Nat) : Int) := by rw [Int.one_mul]; exact (Int.natCast_pow 2 _).symm
  rw [e1, e2, wrap_id (n := ((2 ^ x.toNat : Nat) : Int)) (by have : (0 : Int) ≤ ((2 ^ x.toNat : Nat) : Int) := Int.natCast_nonneg _; omega) (by omega)]
  show IntKind.i64.wrap (((BitVec.ofInt 64 (m : Int) ||| BitVec.ofInt 64 ((2 ^ x.toNat : Nat) : Int)).toNat : Nat) : Int) = _
  rw [BitVec.ofInt_natCast, BitVec.ofInt_natCast, BitVec.toNat_or, BitVec.toNat_ofNat, BitVec.toNat_ofNat, Nat.mod_eq_of_lt (by omega), Nat.mod_eq_of_lt (by omega)]
  have := Nat.or_lt_two_pow hm hx
  exact wrap_id (by omega) (by omega)
theorem p_specIsPerm (p : List Int) (h : short p) : fnW tab (look [(60, s_inRange), (102, s_containsInt)]) s_isPerm Try.f119 (p, ()) (fun (z : Bool) => z = m_isPerm p) := by
  have hs := h
  unfold short at h
  refine Eq.mp (w_specIsPerm p _) ⟨_, if_pos trivial, ⟨fun hp => ?_, fun hp => ?_⟩⟩
  · have hp := bnot_true hp
    rw [m_range_iff] at hp
    dsimp only at hp
    exact dec_false fun hh => hp ⟨by omega, by omega⟩
  · have hp := bnot_false hp
    rw [m_range_iff] at hp
    dsimp only at hp
    refine loop_range p.length (fun v => v.1) (fun j _ => DL p.length p j) rfl (fun j _ hj => absurd hj (Nat.not_lt_zero _)) ?_
    rintro j ⟨i, ⟨⟩⟩ K hj hi hR hK
    dsimp only at hi ⊢
    subst hi
    refine Br.dec (fun hl => ?_) fun hl => ?_
    · have hl : j < p.length := by omega
      refine ⟨_, idx_nat hl, _, if_pos trivial, ⟨fun hq => ?_, fun hq => ?_⟩⟩
      · have hq := bnot_true hq
        rw [m_range_iff, wrap_id (by omega) (by omega)] at hq
        exact dec_false fun hh => hq ⟨(hh.2.2 j hl hl).1, (hh.2.2 j hl hl).2.1⟩
      · have hq := bnot_false hq
        rw [m_range_iff, wrap_id (by omega) (by omega)] at hq
        refine ⟨⟨by omega, by omega, by omega⟩, _, idx_nat hl, ?_⟩
        rw [show (Int.toNat 0) = 0 from rfl, List.drop_zero, Int.toNat_natCast]
        refine ⟨_, if_pos (short_take hs j), ⟨fun hc => ?_, fun hc => ?_⟩⟩
        · have hc : decide (p[j] ∈ p.take j) = true := hc
          rw [decide_eq_true_iff] at hc
          exact dec_false fun hh => (hh.2.2 j hl hl).2.2 hc
        · have hc : decide (p[j] ∈ p.take j) = false := hc
          rw [decide_eq_false_iff_not] at hc
          rw [wrap_nat (by omega)]
          exact hK hl _ rfl (dl_step hl hR hq.1 hq.2 hc)
    · have : j = p.length := by omega
      subst this
      exact dec_true ⟨by omega, by omega, hR⟩
theorem sound_specIsPerm : Sound Try.prog 119 s_isPerm :=
  Sound.mkS tabOK (envCons sound_inRange (envCons sound_containsInt envNil)) mixed Try.func119 (by kernel_rfl) (by kernel_rfl) fun x h => p_specIsPerm x.1 h
theorem p_implIsPerm (p : List Int) (h : short p) : fnW tab (look [(63, s_inRange), (80, s_lenL)]) s_isPerm Try.f116 (p, ()) (fun (z : Bool) => z = m_isPerm p) := by
  unfold short at h
  refine Eq.mp (w_implIsPerm p _) ⟨_, if_pos trivial, _, if_pos trivial, ⟨fun hp => ?_, fun hp => ?_⟩⟩
  · have hp := bnot_true hp
    rw [m_range_iff] at hp
    dsimp only at hp
    exact dec_false fun hh => hp ⟨by omega, by omega⟩
  · have hp := bnot_false hp
    rw [m_range_iff] at hp
    dsimp only at hp
    refine loop_range p.length (fun v => v.2.1) (fun j v => v.1 = (mask (p.take j) : Int) ∧ ∀ x ∈ p.take j, 0 ≤ x ∧ x < p.length) rfl ⟨rfl, by simp⟩ ?_
    rintro j ⟨m, i, ⟨⟩⟩ K hj hi ⟨hm, hR⟩ hK
    dsimp only at hi hm ⊢
    subst hi hm
    refine Br.dec (fun hl => ?_) fun hl => ?_
    · have hl : j < p.length := by omega
      refine ⟨_, idx_nat hl, _, if_pos trivial, _, if_pos trivial, ⟨fun hq => ?_, fun hq => ?_⟩⟩
      · have hq := bnot_true hq
        rw [m_range_iff] at hq
        dsimp only at hq
        rw [wrap_id (by omega) (by omega)] at hq
        exact dec_false fun hh => hq ⟨(hh.2.2 j hl hl).1, (hh.2.2 j hl hl).2.1⟩
      · have hq := bnot_false hq
        rw [m_range_iff] at hq
        dsimp only at hq
        rw [wrap_id (by omega) (by omega)] at hq
        refine ⟨by omega, ?_⟩
        rw [wrap_nat (by omega)]
        have hb : mask (p.take j) < 2 ^ 20 := mask_lt fun x hx => by have := hR x hx; omega
        refine hK hl _ rfl ⟨?_, ?_⟩
        · dsimp only
          rw [or_step hb hq.1 (by omega), List.take_succ_eq_append_getElem hl, mask_snoc]
        · rw [List.take_succ_eq_append_getElem hl]
          intro x hx
          rcases List.mem_append.1 hx with hx | hx
          · exact hR x hx
          · rw [List.mem_singleton.1 hx]; omega
    · have : j = p.length := by omega
      subst this
      rw [List.take_length] at hR ⊢
      refine ⟨by omega, ?_⟩
      have hx : (2 : Nat) ^ p.length ≤ 2 ^ 20 := Nat.pow_le_pow_right (by omega) (by omega)
      have hpos : 0 < (2 : Nat) ^ p.length := Nat.two_pow_pos _
      have e1 : min (p.length : Int).toNat IntKind.i64.bits = p.length := by show min (p.length : Int).toNat 64 = _; omega
      have e2 : (1 : Int) * (2 : Int) ^ p.length = ((2 ^ p.length : Nat) : Int) := by rw [Int.one_mul]; exact (Int.natCast_pow 2 _).symm
      rw [e1, e2, wrap_id (n := ((2 ^ p.length : Nat) : Int)) (by omega) (by omega), wrap_id (by omega) (by omega)]
      have hE : ((mask p : Int) == ((2 ^ p.length : Nat) : Int) - 1) = decide (mask p = 2 ^ p.length - 1) := by
        rw [Bool.eq_iff_iff, beq_iff_eq, decide_eq_true_iff]
        omega
      show ((mask p : Int) == ((2 ^ p.length : Nat) : Int) - 1) = m_isPerm p
      rw [hE]
      by_cases hf : mask p = 2 ^ p.length - 1
      · rw [decide_eq_true hf]
        have hn := (all_iff_nodup hR).1 ((mask_full hR).1 hf)
        refine dec_true ⟨by omega, by omega, fun j hj _ => ?_⟩
        have := hR _ (List.getElem_mem hj)
        exact ⟨this.1, by omega, hn j hj⟩
      · rw [decide_eq_false hf]
        refine dec_false fun hh => hf ((mask_full hR).2 ((all_iff_nodup hR).2 fun j hj => (hh.2.2 j hj hj).2.2))
theorem sound_implIsPerm : Sound Try.prog 116 s_isPerm :=
  Sound.mkS tabOK (envCons sound_within (envCons sound_lenL envNil)) mixed Try.func116 (by kernel_rfl) (by kernel_rfl) fun x h => p_implIsPerm x.1 h
theorem p_specIsGens (n : Int) (g : List (List Int)) (h : shortLL g) : fnW tab (look [(60, s_inRange), (119, s_isPerm)]) s_isGens Try.f104 (n, g, ()) (fun (z : Bool) => z = m_isGens n g) := by
  obtain ⟨h, h4⟩ := h
  refine Eq.mp (w_specIsGens n g _) ⟨_, if_pos trivial, ⟨fun hp => ?_, fun hp => ?_⟩⟩
  · have hp := bnot_true hp
    rw [m_range_iff] at hp
    exact dec_false fun hh => hp hh.1
  · have hp := bnot_false hp
    rw [m_range_iff] at hp
    refine Br.dec (fun hg => ?_) fun hg => ?_
    · exact dec_false fun hh => by have := hh.2.1; omega
    · refine loop_range g.length (fun v => v.1) (fun j _ => ∀ p ∈ g.take j, m_genOK n p = true) rfl (by simp) ?_
      rintro j ⟨i, ⟨⟩⟩ K hj hi hR hK
      dsimp only at hi ⊢
      subst hi
      refine Br.dec (fun hl => ?_) fun hl => ?_
      · have hl : j < g.length := by omega
        have hm : g[j] ∈ g := List.getElem_mem hl
        refine ⟨_, idx_nat hl, ⟨fun he => ?_, fun he => ?_⟩⟩
        · simp only [bne_iff_ne, ne_eq] at he
          exact dec_false fun hh => he (dec_iff.1 (hh.2.2 _ hm)).1
        · simp only [bne_eq_false_iff_eq] at he
          refine ⟨_, idx_nat hl, _, if_pos (h4 _ hm), ⟨fun hq => ?_, fun hq => ?_⟩⟩
          · have hq := bnot_true hq
            exact dec_false fun hh => hq (dec_iff.1 (hh.2.2 _ hm)).2
          · have hq := bnot_false hq
            rw [wrap_nat (by omega)]
            refine hK hl _ rfl ?_
            rw [List.take_succ_eq_append_getElem hl]
            intro x hx
            rcases List.mem_append.1 hx with hx | hx
            · exact hR x hx
            · rw [List.mem_singleton.1 hx]; exact dec_iff.2 ⟨he, hq⟩
      · have : j = g.length := by omega
        subst this
        rw [List.take_length] at hR
        exact dec_true ⟨hp, by omega, hR⟩
theorem sound_specIsGens : Sound Try.prog 104 s_isGens :=
  Sound.mkS tabOK (envCons sound_inRange (envCons sound_specIsPerm envNil)) mixed Try.func104 (by kernel_rfl) (by kernel_rfl) fun x h => p_specIsGens x.1 x.2.1 h
theorem p_gens1 (p : List Int) (n : Int) (h : short p) : fnW tab (look [(80, s_lenL), (116, s_isPerm)]) s_gens1 Try.f121 (p, n, ()) (fun (z : Bool) => z = !m_genOK n p) := by
  refine Eq.mp (w_gens1 p n _) ⟨_, if_pos trivial, ⟨fun he => ?_, fun he => ⟨_, if_pos h, ?_⟩⟩⟩
  · simp only [bne_iff_ne, ne_eq] at he
    have : m_genOK n p = false := dec_not.2 fun hh => he hh.1
    rw [this]; rfl
  · simp only [bne_eq_false_iff_eq] at he
    show (!m_isPerm p) = _
    congr 1
    cases hp : m_isPerm p with
    | true => exact dec_true ⟨he, hp⟩
    | false => exact dec_false fun hh => by rw [hh.2] at hp; cases hp
theorem sound_gens1 : Sound Try.prog 121 s_gens1 :=
  Sound.mkS tabOK (envCons sound_lenL (envCons sound_implIsPerm envNil)) mixed Try.func121 (by kernel_rfl) (by kernel_rfl) fun x h => p_gens1 x.1 x.2.1 h
theorem m_indexF_ge {α : Type} (P : α → Bool) : ∀ (l : List α) (i : Int), 0 ≤ i → (0 ≤ m_indexF P l i ↔ l.any P = true)
  | [], i, _ => by simp [m_indexF]
  | y :: r, i, h => by
    simp only [m_indexF, List.any_cons, Bool.or_eq_true]
    split
    · rename_i hy; simp [hy, h]
    · rename_i hy; rw [m_indexF_ge P r (i + 1) (by omega)]; simp [hy]
theorem p_ixG (g : List (List Int)) (n : Int × Unit) (h : shortLL g) : fnW tab (look [(121, s_gens1)]) s_ixG Try.f122 (g, n, ()) (fun (z : Int) => z = m_indexF (fun p => !m_genOK n.1 p) g 0) := by
  obtain ⟨h, h4⟩ := h
  refine Eq.mp (w_ixG g n _) ?_
  refine loop_range g.length (fun v => v.1) (fun j _ => m_indexF (fun p => !m_genOK n.1 p) (g.drop j) j = m_indexF (fun p => !m_genOK n.1 p) g 0) rfl (by simp) ?_
  rintro j ⟨i, ⟨⟩⟩ K hj hi hR hK
  dsimp only at hi ⊢
  subst hi
  refine Br.dec (fun hl => ?_) fun hl => ?_
  · have hl : j < g.length := by omega
    rw [List.drop_eq_getElem_cons hl] at hR
    simp only [m_indexF] at hR
    refine ⟨_, idx_nat hl, _, if_pos (h4 _ (List.getElem_mem hl)), ⟨fun he => ?_, fun he => ?_⟩⟩
    · have he : (!m_genOK n.1 g[j]) = true := he
      rw [if_pos he] at hR
      exact hR
    · have he : (!m_genOK n.1 g[j]) = false := he
      rw [if_neg (by rw [he]; decide)] at hR
      rw [wrap_nat (by omega)]
      exact hK hl _ rfl (by push_cast; exact hR)
  · have : j = g.length := by omega
    subst this
    rw [List.drop_length] at hR
    exact hR
theorem sound_ixG : Sound Try.prog 122 s_ixG :=
  Sound.mkS tabOK (envCons sound_gens1 envNil) mixed Try.func122 (by kernel_rfl) (by kernel_rfl) fun x h => p_ixG x.1 x.2.1 h
theorem p_ctG (g : List (List Int)) (n : Int × Unit) (h : shortLL g) : fnW tab (look [(122, s_ixG)]) s_ctG Try.f120 (g, n, ()) (fun (z : Bool) => z = List.any g (fun p => !m_genOK n.1 p)) := by
  refine Eq.mp (w_ctG g n _) ⟨_, if_pos h, ?_⟩
  rw [Bool.eq_iff_iff, decide_eq_true_iff]
  exact m_indexF_ge _ g 0 (Int.le_refl 0)
theorem sound_ctG : Sound Try.prog 120 s_ctG :=
  Sound.mkS tabOK (envCons sound_ixG envNil) mixed Try.func120 (by kernel_rfl) (by kernel_rfl) fun x h => p_ctG x.1 x.2.1 h
theorem p_implIsGens (n : Int) (g : List (List Int)) (h : shortLL g) : fnW tab (look [(63, s_inRange), (120, s_ctG)]) s_isGens Try.f106 (n, g, ()) (fun (z : Bool) => z = m_isGens n g) := by
  refine Eq.mp (w_implIsGens n g _) ⟨_, if_pos trivial, ⟨fun hp => ?_, fun hp => ?_⟩⟩
  · have hp : m_inRange n 1 20 = true := hp
    rw [m_range_iff] at hp
    refine Br.dec (fun hl => ⟨_, if_pos h, ?_⟩) fun hl => ?_
    · show (!List.any g (fun p => !m_genOK n p)) = m_isGens n g
      cases ha : List.any g (fun p => !m_genOK n p) with
      | true =>
        obtain ⟨p, hp1, hp2⟩ := List.any_eq_true.1 ha
        exact dec_false fun hh => by rw [hh.2.2 p hp1] at hp2; cases hp2
      | false =>
        refine dec_true ⟨hp, by omega, fun p hm => ?_⟩
        have := List.any_eq_false.1 ha p hm
        simpa using this
    · exact dec_false fun hh => by have := hh.2.1; omega
  · refine dec_false fun hh => ?_
    have : m_inRange n 1 20 = true := m_range_iff.2 hh.1
    have hp : m_inRange n 1 20 = false := hp
    rw [this] at hp; cases hp
theorem sound_implIsGens : Sound Try.prog 106 s_isGens :=
  Sound.mkS tabOK (envCons sound_within (envCons sound_ctG envNil)) mixed Try.func106 (by kernel_rfl) (by kernel_rfl) fun x h => p_implIsGens x.1 x.2.1 h
theorem byte_at {s : ByteArray} {k : Nat} (h : k < s.size) : s[k]? = some s[k] := getElem?_pos s k h
theorem p_nameAt (s : ByteArray) (i : Int) (h : 0 ≤ i ∧ i < s.size ∧ s.size ≤ 4294967296) : fnW tab (look []) s_nameAt Try.f105 (s, i, ()) (fun (z : Bool) => z = m_nameAt s i) := by
  obtain ⟨h1, h2, h3⟩ := h
  have hi : i.toNat < s.size := by omega
  refine Eq.mp (w_nameAt s i _) ⟨h1, _, byte_at hi, Br.dec (fun hq => ?_) fun hq => ⟨h1, _, byte_at hi, Br.dec (fun hr => ?_) fun hr => ?_⟩⟩
  · refine dec_false fun ⟨c, hc, hc1, _⟩ => ?_
    rw [byte_at hi] at hc; cases hc; omega
  · refine dec_false fun ⟨c, hc, _, hc1, _⟩ => ?_
    rw [byte_at hi] at hc; cases hc; omega
  · refine loop_range i.toNat (fun v => v.1) (fun j _ => ∀ k, k < j → s[k]? ≠ some s[i.toNat]) rfl (fun k hk => absurd hk (Nat.not_lt_zero _)) ?_
    rintro j ⟨i', ⟨⟩⟩ K hj hi' hR hK
    dsimp only at hi' ⊢
    subst hi'
    refine Br.dec (fun hl => ?_) fun hl => ?_
    · have hl : j < i.toNat := by omega
      have hj : j < s.size := by omega
      rw [Int.toNat_natCast]
      refine ⟨by omega, _, byte_at hj, h1, _, byte_at hi, ⟨fun he => ?_, fun he => ?_⟩⟩
      · simp only [beq_iff_eq, Int.natCast_inj] at he
        refine dec_false fun ⟨c, hc, _, _, hc1⟩ => ?_
        rw [byte_at hi] at hc; cases hc
        exact hc1 j hl (by rw [byte_at hj, UInt8.toNat_inj.1 he])
      · simp only [beq_eq_false_iff_ne, ne_eq, Int.natCast_inj] at he
        rw [wrap_nat (by omega)]
        refine hK hl _ rfl fun k hk => ?_
        by_cases e : k = j
        · subst e
          rw [byte_at hj]
          exact fun e => he (by rw [Option.some.inj e])
        · exact hR k (by omega)
    · have : j = i.toNat := by omega
      subst this
      exact dec_true ⟨_, byte_at hi, by omega, by omega, hR⟩
theorem sound_nameAt : Sound Try.prog 105 s_nameAt :=
  Sound.mkS tabOK envNil mixed Try.func105 (by kernel_rfl) (by kernel_rfl) fun x h => p_nameAt x.1 x.2.1 h
theorem p_isNames (s : ByteArray) (h : s.size ≤ 4294967296) : fnW tab (look [(63, s_inRange)]) s_isNames Try.f107 (s, ()) (fun (z : Bool) => z = m_isNames s) := by
  refine Eq.mp (w_isNames s _) ?_
  refine loop_range s.size (fun v => v.1) (fun j _ => ∀ k, k < j → NameAt s k) rfl (fun k hk => absurd hk (Nat.not_lt_zero _)) ?_
  rintro j ⟨i, ⟨⟩⟩ K hj hi hR hK
  dsimp only at hi ⊢
  subst hi
  refine Br.dec (fun hl => ?_) fun hl => ?_
  · have hl : j < s.size := by omega
    rw [Int.toNat_natCast]
    have hb := (s[j]).toNat_lt
    refine ⟨by omega, _, byte_at hl, _, if_pos trivial, ⟨fun hq => ?_, fun hq => ?_⟩⟩
    · have hq := bnot_true hq
      rw [m_range_iff] at hq
      dsimp only at hq
      rw [wrap_id (by omega) (by omega)] at hq
      refine dec_false fun hh => ?_
      obtain ⟨c, hc, hc1, hc2, _⟩ := hh.2 j hl
      rw [byte_at hl] at hc; cases hc
      exact hq ⟨by omega, by omega⟩
    · have hq := bnot_false hq
      rw [m_range_iff] at hq
      dsimp only at hq
      rw [wrap_id (by omega) (by omega)] at hq
      refine loop_range j (fun v => v.1) (fun m _ => ∀ k, k < m → s[k]? ≠ some s[j]) rfl (fun k hk => absurd hk (Nat.not_lt_zero _)) ?_
      rintro m ⟨i', ⟨⟩⟩ K' hm hi' hR' hK'
      dsimp only at hi' ⊢
      subst hi'
      refine Br.dec (fun hl' => ?_) fun hl' => ?_
      · have hl' : m < j := by omega
        have hm' : m < s.size := by omega
        rw [Int.toNat_natCast]
        refine ⟨by omega, _, byte_at hm', by omega, _, byte_at hl, ⟨fun he => ?_, fun he => ?_⟩⟩
        · simp only [beq_iff_eq, Int.natCast_inj] at he
          refine dec_false fun hh => ?_
          obtain ⟨c, hc, _, _, hc1⟩ := hh.2 j hl
          rw [byte_at hl] at hc; cases hc
          exact hc1 m hl' (by rw [byte_at hm', UInt8.toNat_inj.1 he])
        · simp only [beq_eq_false_iff_ne, ne_eq, Int.natCast_inj] at he
          rw [wrap_nat (by omega)]
          refine hK' hl' _ rfl fun k hk => ?_
          by_cases e : k = m
          · subst e
            rw [byte_at hm']
            exact fun e => he (by rw [Option.some.inj e])
          · exact hR' k (by omega)
      · have : m = j := by omega
        subst this
        rw [wrap_nat (by omega)]
        refine hK hl _ rfl fun k hk => ?_
        by_cases e : k = m
        · subst e
          exact ⟨_, byte_at hl, by omega, by omega, hR'⟩
        · exact hR k (by omega)
  · have : j = s.size := by omega
    subst this
    refine ⟨_, if_pos trivial, ?_⟩
    show m_inRange s.size 1 8 = _
    cases hr : m_inRange s.size 1 8 with
    | true => rw [m_range_iff] at hr; exact dec_true ⟨by omega, hR⟩
    | false => refine dec_false fun hh => ?_; rw [m_range_iff.2 ⟨by omega, by omega⟩] at hr; cases hr
theorem sound_isNames : Sound Try.prog 107 s_isNames :=
  Sound.mkS tabOK (envCons sound_within envNil) mixed Try.func107 (by kernel_rfl) (by kernel_rfl) fun x h => p_isNames x.1 h
theorem validP_len {p : PP} (h : m_validP p = true) : 1 ≤ p.1 ∧ p.1 ≤ 20 ∧ 1 ≤ p.2.2.1.length ∧ p.2.2.1.length ≤ 8 := by
  obtain ⟨h1, h2, h3⟩ := dec_iff.1 h
  obtain ⟨h4, h5, _⟩ := dec_iff.1 h1
  obtain ⟨h6, _⟩ := dec_iff.1 h2
  omega
theorem p_specValidP (p : PP) (h : shortP p) : fnW tab (look [(104, s_isGens), (105, s_nameAt)]) s_validP Try.f66 (p, ()) (fun (z : Bool) => z = m_validP p) := by
  obtain ⟨hn, hg⟩ := h
  refine Eq.mp (w_specValidP p _) ⟨fun h0 => ?_, fun h0 => ⟨fun h1 => ?_, fun h1 => ⟨_, if_pos hg, ⟨fun h2 => ?_, fun h2 => ?_⟩⟩⟩⟩
  · simp only [beq_iff_eq] at h0
    exact dec_false fun hh => by obtain ⟨_, h2, h3⟩ := hh; have := (dec_iff.1 h2).1; omega
  · simp only [bne_iff_ne, ne_eq, Int.natCast_inj] at h1
    exact dec_false fun hh => h1 hh.2.2
  · have h2 := bnot_true h2
    exact dec_false fun hh => h2 hh.1
  · simp only [beq_eq_false_iff_ne, ne_eq] at h0
    simp only [bne_eq_false_iff_eq, Int.natCast_inj] at h1
    have h2 : m_isGens p.1 p.2.2.1 = true := bnot_false h2
    refine loop_range p.2.1.size (fun v => v.1) (fun j v => v.2 = (p.1, p.2.1, p.2.2.1, ()) ∧ ∀ k, k < j → NameAt p.2.1 k) rfl ⟨rfl, fun k hk => absurd hk (Nat.not_lt_zero _)⟩ ?_
    rintro j ⟨i, v⟩ K hj hi ⟨hv, hR⟩ hK
    dsimp only at hi hv ⊢
    subst hi hv
    dsimp only
    refine Br.dec (fun hl => ?_) fun hl => ?_
    · have hl : j < p.2.1.size := by omega
      refine ⟨_, if_pos ⟨Int.natCast_nonneg j, Int.ofNat_lt.2 hl, hn⟩, ⟨fun hq => ?_, fun hq => ?_⟩⟩
      · have hq : ¬ m_nameAt p.2.1 j = true := bnot_true hq
        refine dec_false fun hh => hq (dec_iff.2 ?_)
        rw [Int.toNat_natCast]
        exact (dec_iff.1 hh.2.1).2 j hl
      · have hq : m_nameAt p.2.1 j = true := bnot_false hq
        have hq := dec_iff.1 hq
        rw [Int.toNat_natCast] at hq
        rw [wrap_nat (by omega)]
        refine hK hl _ rfl ⟨rfl, fun k hk => ?_⟩
        by_cases e : k = j
        · subst e; exact hq
        · exact hR k (by omega)
    · have : j = p.2.1.size := by omega
      subst this
      have := (dec_iff.1 h2).2.1
      exact dec_true ⟨h2, dec_iff.2 ⟨⟨by omega, by omega⟩, hR⟩, h1⟩
theorem sound_specValidP : Sound Try.prog 66 s_validP :=
  Sound.mkS tabOK (envCons sound_specIsGens (envCons sound_nameAt envNil)) mixed Try.func66 (by kernel_rfl) (by kernel_rfl) fun x h => p_specValidP x.1 h
theorem p_implValidP (p : PP) (h : shortP p) : fnW tab (look [(106, s_isGens), (107, s_isNames)]) s_validP Try.f67 (p, ()) (fun (z : Bool) => z = m_validP p) := by
  obtain ⟨hn, hg⟩ := h
  refine Eq.mp (w_implValidP p _) ⟨_, if_pos hg, ⟨fun h1 => ⟨_, if_pos hn, ⟨fun h2 => ?_, fun h2 => ?_⟩⟩, fun h1 => ?_⟩⟩
  · have h1 : m_isGens p.1 p.2.2.1 = true := h1
    have h2 : m_isNames p.2.1 = true := h2
    by_cases e : p.2.1.size = p.2.2.1.length
    · rw [e, beq_self_eq_true]; exact dec_true ⟨h1, h2, e⟩
    · rw [show ((p.2.1.size : Int) == (p.2.2.1.length : Int)) = false from beq_eq_false_iff_ne.2 (by omega)]; exact dec_false fun hh => e hh.2.2
  · have h2 : m_isNames p.2.1 = false := h2
    exact dec_false fun hh => by rw [hh.2.1] at h2; cases h2
  · have h1 : m_isGens p.1 p.2.2.1 = false := h1
    exact dec_false fun hh => by rw [hh.1] at h1; cases h1
theorem sound_implValidP : Sound Try.prog 67 s_validP :=
  Sound.mkS tabOK (envCons sound_implIsGens (envCons sound_isNames envNil)) mixed Try.func67 (by kernel_rfl) (by kernel_rfl) fun x h => p_implValidP x.1 h
theorem and_dec {a b : Bool} : (a && b) = dec (a = true ∧ b = true) := by
  cases ha : a <;> cases hb : b
  · exact dec_false (by simp)
  · exact dec_false (by simp)
  · exact dec_false (by simp)
  · exact dec_true ⟨rfl, rfl⟩
theorem p_specMoveSubset (p : PP) (xs : List Int) (h : shortP p ∧ short xs) : fnW tab (look [(66, s_validP), (59, s_pointList)]) s_moveSubset Try.f23 (p, xs, ()) (fun (z : Bool) => z = m_moveSubset p xs) := by
  refine Eq.mp (w_specMoveSubset p xs _) ⟨_, if_pos h.1, ⟨fun h1 => ⟨_, if_pos ⟨⟨by omega, by have := h.1.2.1; dsimp only; omega⟩, h.2⟩, ?_⟩, fun h1 => ?_⟩⟩
  · have h1 : m_validP p = true := h1
    show m_pointList p.2.2.1.length xs = _
    rw [m_moveSubset, ← and_dec, h1, Bool.true_and]
  · have h1 : m_validP p = false := h1
    rw [m_moveSubset, ← and_dec, h1, Bool.false_and]
theorem sound_specMoveSubset : Sound Try.prog 23 s_moveSubset :=
  Sound.mkS tabOK (envCons sound_specValidP (envCons sound_isPointList envNil)) mixed Try.func23 (by kernel_rfl) (by kernel_rfl) fun x h => p_specMoveSubset x.1 x.2.1 h
theorem p_implMoveSubset (p : PP) (xs : List Int) (h : shortP p ∧ short xs) : fnW tab (look [(67, s_validP), (62, s_pointList), (64, s_lenLL)]) s_moveSubset Try.f26 (p, xs, ()) (fun (z : Bool) => z = m_moveSubset p xs) := by
  refine Eq.mp (w_implMoveSubset p xs _) ⟨_, if_pos h.1, ⟨fun h1 => ⟨_, if_pos trivial, _, if_pos ⟨⟨by dsimp only; omega, by have := h.1.2.1; dsimp only; omega⟩, h.2⟩, ?_⟩, fun h1 => ?_⟩⟩
  · have h1 : m_validP p = true := h1
    show m_pointList p.2.2.1.length xs = _
    rw [m_moveSubset, ← and_dec, h1, Bool.true_and]
  · have h1 : m_validP p = false := h1
    rw [m_moveSubset, ← and_dec, h1, Bool.false_and]
theorem sound_implMoveSubset : Sound Try.prog 26 s_moveSubset :=
  Sound.mkS tabOK (envCons sound_implValidP (envCons sound_isTracked (envCons sound_lenLL envNil))) mixed Try.func26 (by kernel_rfl) (by kernel_rfl) fun x h => p_implMoveSubset x.1 x.2.1 h
theorem p_szP (p : PP) (room : Int) (h : shortP p ∧ roomy room) : fnW tab (look [(38, s_szLL)]) s_szP Try.f22 (p, room, ()) (fun (z : Int) => z = m_szP p room) := by
  obtain ⟨⟨h1, h2⟩, h3, h4⟩ := h
  refine Eq.mp (w_szP p room _) ?_
  rw [wrap_id (by omega) (by omega)]
  refine Br.dec (fun hn => ?_) fun hn => ⟨_, if_pos ⟨h2, by dsimp only; omega, by dsimp only; omega⟩, Br.dec (fun hm => ?_) fun hm => ?_⟩
  · simp only [m_szP, if_pos hn]
  · exact ((if_neg hn).trans (if_pos hm)).symm
  · exact ((if_neg hn).trans (if_neg hm)).symm
theorem sound_szP : Sound Try.prog 22 s_szP :=
  Sound.mkS tabOK (envCons sound_szLL envNil) mixed Try.func22 (by kernel_rfl) (by kernel_rfl) fun x h => p_szP x.1 x.2.1 h
theorem p_toP (p : PP) (h : shortP p) : fnW tab (look [(40, s_toLL)]) s_toP Try.f24 (p, ()) (fun (z : PP) => z = p) := Eq.mp (w_toP p _) ⟨_, if_pos h.2, rfl⟩
theorem sound_toP : Sound Try.prog 24 s_toP :=
  Sound.mkS tabOK (envCons sound_toLL envNil) mixed Try.func24 (by kernel_rfl) (by kernel_rfl) fun x h => p_toP x.1 h
theorem bytes_eq {a b : ByteArray} : (a.toList == b.toList) = decide (a = b) := by
  rw [Bool.eq_iff_iff, beq_iff_eq, decide_eq_true_iff, ByteArray.toList_eq, ByteArray.toList_eq]
  exact ⟨fun h => ByteArray.ext (Array.toList_inj.1 h), fun h => by rw [h]⟩
theorem p_eqP (a b : PP) (h : shortP a) : fnW tab (look [(42, s_eqLL)]) s_eqP Try.f27 (a, b, ()) (fun (z : Bool) => z = m_eqP a b) := by
  refine Eq.mp (w_eqP a b _) ⟨fun h1 => ?_, fun h1 => ⟨fun h2 => ?_, fun h2 => ⟨_, if_pos h.2, ⟨fun h3 => ?_, fun h3 => ?_⟩⟩⟩⟩
  · simp only [bne_iff_ne, ne_eq] at h1
    unfold m_eqP
    rw [decide_eq_false h1]; rfl
  · rw [bytes_eq] at h2
    unfold m_eqP
    cases hd : decide (a.2.1 = b.2.1) <;> simp_all
  · have h3 : (!m_eqLL a.2.2.1 b.2.2.1) = true := h3
    simp only [m_eqLL, Bool.not_eq_true'] at h3
    unfold m_eqP
    rw [h3]; simp
  · have h3 : (!m_eqLL a.2.2.1 b.2.2.1) = false := h3
    rw [bytes_eq] at h2
    simp only [m_eqLL] at h3
    simp only [bne_eq_false_iff_eq] at h1
    unfold m_eqP
    simp_all
theorem sound_eqP : Sound Try.prog 27 s_eqP :=
  Sound.mkS tabOK (envCons sound_eqLL envNil) mixed Try.func27 (by kernel_rfl) (by kernel_rfl) fun x h => p_eqP x.1 x.2.1 h
theorem m_eqP_self (p : PP) : m_eqP p p = true := by simp [m_eqP]
theorem bools_same {b : Bool} {P : Prop} (h : (!(b == b)) = true) : P := by simp at h
theorem not_self {b : Bool} {P : Prop} (h1 : b = true) (h : (!b) = true) : P := by rw [h1] at h; cases h
theorem p_lawMoveSubset (p : PP) (xs : List Int) (h : shortP p ∧ short xs) : fnW tab (look [(22, s_szP), (23, s_moveSubset), (26, s_moveSubset), (24, s_toP), (27, s_eqP), (25, s_toL), (28, s_equalInts)]) s_lawPL Try.f5 (p, xs, ()) (fun (z : Bool) => z = true) := by
  refine Eq.mp (w_lawMoveSubset p xs _) (Br.dec (fun _ => rfl) fun _ => ⟨_, if_pos ⟨h.1, roomy_1m⟩, Br.dec (fun _ => rfl) fun hn => ?_⟩)
  refine ⟨_, if_pos h.1, _, if_pos h.2, _, if_pos h, _, if_pos h.1, _, if_pos h.2, _, if_pos h, ⟨fun he => bools_same he, fun _ => ?_⟩⟩
  refine ⟨_, if_pos h.1, _, if_pos h.1, ⟨fun he => not_self (m_eqP_self p) he, fun _ => ?_⟩⟩
  exact ⟨_, if_pos h.2, _, if_pos h.2, ⟨fun he => not_self (decide_eq_true rfl) he, fun _ => rfl⟩⟩
theorem sound_lawMoveSubset : Sound Try.prog 5 s_lawPL :=
  Sound.mkS tabOK (envCons sound_szP (envCons sound_specMoveSubset (envCons sound_implMoveSubset (envCons sound_toP (envCons sound_eqP (envCons sound_toL (envCons sound_eqL envNil))))))) mixed Try.func5 (by kernel_rfl) (by kernel_rfl) fun x h => p_lawMoveSubset x.1 x.2.1 h
theorem m_indexF_lt {α : Type} (P : α → Bool) : ∀ (l : List α) (i : Int), 0 ≤ i → m_indexF P l i < i + l.length
  | [], i, _ => by simp only [m_indexF, List.length_nil]; omega
  | y :: r, i, h => by
    simp only [m_indexF, List.length_cons]
    split
    · omega
    · have := m_indexF_lt P r (i + 1) (by omega); omega
theorem p_tabEntry (t : TT) (xs : List Int) (h : shortT t ∧ short xs) : fnW tab (look [(56, s_equalInts)]) s_tabEntry Try.f70 (t, xs, ()) (fun (z : Int) => z = m_indexF (fun p => decide (p = xs)) t.2.1 0) := by
  obtain ⟨⟨_, ⟨h, h4⟩, _⟩, _⟩ := h
  refine Eq.mp (w_tabEntry t xs _) ?_
  refine loop_range t.2.1.length (fun v => v.1) (fun j v => v.2 = (t.1, t.2.1, t.2.2.1, ()) ∧ m_indexF (fun p => decide (p = xs)) (t.2.1.drop j) j = m_indexF (fun p => decide (p = xs)) t.2.1 0) rfl ⟨rfl, by simp⟩ ?_
  rintro j ⟨i, v⟩ K hj hi ⟨hv, hR⟩ hK
  dsimp only at hi hv ⊢
  subst hi hv
  dsimp only
  refine Br.dec (fun hl => ?_) fun hl => ?_
  · have hl : j < t.2.1.length := by omega
    rw [List.drop_eq_getElem_cons hl] at hR
    simp only [m_indexF] at hR
    refine ⟨_, idx_nat hl, _, if_pos (h4 _ (List.getElem_mem hl)), ⟨fun he => ?_, fun he => ?_⟩⟩
    · have he : decide (t.2.1[j] = xs) = true := he
      rw [if_pos he] at hR
      exact hR
    · have he : decide (t.2.1[j] = xs) = false := he
      rw [if_neg (by rw [he]; decide)] at hR
      rw [wrap_nat (by omega)]
      exact hK hl _ rfl ⟨rfl, by push_cast; exact hR⟩
  · have : j = t.2.1.length := by omega
    subst this
    rw [List.drop_length] at hR
    exact hR
theorem sound_tabEntry : Sound Try.prog 70 s_tabEntry :=
  Sound.mkS tabOK (envCons sound_equalInts envNil) mixed Try.func70 (by kernel_rfl) (by kernel_rfl) fun x h => p_tabEntry x.1 x.2.1 h
theorem p_indexOf1 (xs ys : List Int) (h : short xs) : fnW tab (look [(57, s_equalInts)]) s_indexOf1 Try.f123 (xs, ys, ()) (fun (z : Bool) => z = decide (xs = ys)) := Eq.mp (w_indexOf1 xs ys _) ⟨_, if_pos h, rfl⟩
theorem sound_indexOf1 : Sound Try.prog 123 s_indexOf1 :=
  Sound.mkS tabOK (envCons sound_slicesEqual envNil) mixed Try.func123 (by kernel_rfl) (by kernel_rfl) fun x h => p_indexOf1 x.1 x.2.1 h
theorem p_ixX (g : List (List Int)) (n : List Int × Unit) (h : shortLL g) : fnW tab (look [(123, s_indexOf1)]) s_ixX Try.f122 (g, n, ()) (fun (z : Int) => z = m_indexF (fun p => decide (p = n.1)) g 0) := by
  obtain ⟨h, h4⟩ := h
  refine Eq.mp (w_ixX g n _) ?_
  refine loop_range g.length (fun v => v.1) (fun j _ => m_indexF (fun p => decide (p = n.1)) (g.drop j) j = m_indexF (fun p => decide (p = n.1)) g 0) rfl (by simp) ?_
  rintro j ⟨i, ⟨⟩⟩ K hj hi hR hK
  dsimp only at hi ⊢
  subst hi
  refine Br.dec (fun hl => ?_) fun hl => ?_
  · have hl : j < g.length := by omega
    rw [List.drop_eq_getElem_cons hl] at hR
    simp only [m_indexF] at hR
    refine ⟨_, idx_nat hl, _, if_pos (h4 _ (List.getElem_mem hl)), ⟨fun he => ?_, fun he => ?_⟩⟩
    · have he : decide (g[j] = n.1) = true := he
      rw [if_pos he] at hR
      exact hR
    · have he : decide (g[j] = n.1) = false := he
      rw [if_neg (by rw [he]; decide)] at hR
      rw [wrap_nat (by omega)]
      exact hK hl _ rfl (by push_cast; exact hR)
  · have : j = g.length := by omega
    subst this
    rw [List.drop_length] at hR
    exact hR
theorem sound_ixX : Sound Try.prog 122 s_ixX :=
  Sound.mkS tabOK (envCons sound_indexOf1 envNil) mixed Try.func122 (by kernel_rfl) (by kernel_rfl) fun x h => p_ixX x.1 x.2.1 h
theorem p_indexOf (g : List (List Int)) (xs : List Int) (h : shortLL g ∧ short xs) : fnW tab (look [(122, s_ixX)]) s_indexOf Try.f108 (g, xs, ()) (fun (z : Int) => z = m_indexF (fun p => decide (p = xs)) g 0) := Eq.mp (w_indexOf g xs _) ⟨_, if_pos h.1, rfl⟩
theorem sound_indexOf : Sound Try.prog 108 s_indexOf :=
  Sound.mkS tabOK (envCons sound_ixX envNil) mixed Try.func108 (by kernel_rfl) (by kernel_rfl) fun x h => p_indexOf x.1 x.2.1 h
theorem look_at (t : TT) (xs : List Int) (h : t.2.2.1.length = t.2.1.length) (hn : ¬ m_indexF (fun p => decide (p = xs)) t.2.1 0 < 0) :
    idx t.2.2.1 (m_indexF (fun p => decide (p = xs)) t.2.1 0) = some (m_lookup t xs) := by
  have h1 := m_indexF_lt (fun p => decide (p = xs)) t.2.1 0 (Int.le_refl 0)
  unfold m_lookup
  rw [if_neg hn]
  generalize m_indexF (fun p => decide (p = xs)) t.2.1 0 = k at *
  have hk : k.toNat < t.2.2.1.length := by omega
  rw [show k = (k.toNat : Int) by omega, idx_nat hk, Int.toNat_natCast, List.getD_eq_getElem?_getD, List.getElem?_eq_getElem hk]; rfl
theorem p_lookup (t : TT) (xs : List Int) (h : shortT t ∧ short xs ∧ t.2.2.1.length = t.2.1.length) : fnW tab (look [(108, s_indexOf)]) s_lookup Try.f71 (t, xs, ()) (fun (z : Int) => z = m_lookup t xs) := by
  refine Eq.mp (w_lookup t xs _) ⟨_, if_pos ⟨h.1.2.1, h.2.1⟩, Br.dec (fun hn => ?_) fun hn => ?_⟩
  · exact (if_pos hn).symm
  · exact ⟨_, look_at t xs h.2.2 hn, rfl⟩
theorem sound_lookup : Sound Try.prog 71 s_lookup :=
  Sound.mkS tabOK (envCons sound_indexOf envNil) mixed Try.func71 (by kernel_rfl) (by kernel_rfl) fun x h => p_lookup x.1 x.2.1 h
theorem p_specTableLookup (t : TT) (xs : List Int) (h : shortT t ∧ short xs) : fnW tab (look [(20, s_wellFormed), (70, s_tabEntry)]) s_tableLookup Try.f34 (t, xs, ()) (fun (z : Int) => z = m_tableLookup t xs) := by
  refine Eq.mp (w_specTableLookup t xs _) ⟨_, if_pos h.1, ⟨fun hw => ?_, fun hw => ⟨_, if_pos h, Br.dec (fun hn => ?_) fun hn => ?_⟩⟩⟩
  · exact (if_neg (bnot_true hw)).symm
  · exact ((if_pos (bnot_false hw)).trans (if_pos hn)).symm
  · have hw : m_wellFormed t = true := bnot_false hw
    refine ⟨_, look_at t xs (dec_iff.1 hw).2.2.1 hn, (if_pos hw).symm⟩
theorem sound_specTableLookup : Sound Try.prog 34 s_tableLookup :=
  Sound.mkS tabOK (envCons sound_specWellFormed (envCons sound_tabEntry envNil)) mixed Try.func34 (by kernel_rfl) (by kernel_rfl) fun x h => p_specTableLookup x.1 x.2.1 h
theorem p_implTableLookup (t : TT) (xs : List Int) (h : shortT t ∧ short xs) : fnW tab (look [(21, s_wellFormed), (71, s_lookup)]) s_tableLookup Try.f35 (t, xs, ()) (fun (z : Int) => z = m_tableLookup t xs) := by
  refine Eq.mp (w_implTableLookup t xs _) ⟨_, if_pos h.1, ⟨fun hw => ?_, fun hw => ?_⟩⟩
  · exact (if_neg (bnot_true hw)).symm
  · have hw : m_wellFormed t = true := bnot_false hw
    exact ⟨_, if_pos ⟨h.1, h.2, (dec_iff.1 hw).2.2.1⟩, (if_pos hw).symm⟩
theorem sound_implTableLookup : Sound Try.prog 35 s_tableLookup :=
  Sound.mkS tabOK (envCons sound_implWellFormed (envCons sound_lookup envNil)) mixed Try.func35 (by kernel_rfl) (by kernel_rfl) fun x h => p_implTableLookup x.1 x.2.1 h
theorem ints_same {a : Int} {P : Prop} (h : (a != a) = true) : P := by simp at h
theorem p_lawTableLookup (t : TT) (xs : List Int) (h : shortT t ∧ short xs) : fnW tab (look [(15, s_szTable), (34, s_tableLookup), (35, s_tableLookup), (17, s_toTable), (19, s_eqTable), (25, s_toL), (28, s_equalInts)]) s_lawTL Try.f7 (t, xs, ()) (fun (z : Bool) => z = true) := by
  refine Eq.mp (w_lawTableLookup t xs _) (Br.dec (fun _ => rfl) fun _ => ⟨_, if_pos ⟨h.1, roomy_1m⟩, Br.dec (fun _ => rfl) fun hn => ?_⟩)
  refine ⟨_, if_pos h.1, _, if_pos h.2, _, if_pos h, _, if_pos h.1, _, if_pos h.2, _, if_pos h, ⟨fun he => ints_same he, fun _ => ?_⟩⟩
  refine ⟨_, if_pos h.1, _, if_pos h.1, ⟨fun he => not_self (m_eqT_self t) he, fun _ => ?_⟩⟩
  exact ⟨_, if_pos h.2, _, if_pos h.2, ⟨fun he => not_self (decide_eq_true rfl) he, fun _ => rfl⟩⟩
theorem sound_lawTableLookup : Sound Try.prog 7 s_lawTL :=
  Sound.mkS tabOK (envCons sound_szTable (envCons sound_specTableLookup (envCons sound_implTableLookup (envCons sound_toTable (envCons sound_eqTable (envCons sound_toL (envCons sound_eqL envNil))))))) mixed Try.func7 (by kernel_rfl) (by kernel_rfl) fun x h => p_lawTableLookup x.1 x.2.1 h
end Go.Proofs.Ytingphpncocimaa
