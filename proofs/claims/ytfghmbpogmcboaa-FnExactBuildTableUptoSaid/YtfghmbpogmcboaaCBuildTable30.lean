/-
  Part 31 of the proof that the statement FnExactBuildTable holds.
-/
import Derived.Test.YtfghmbpogmcboaaCBuildTable29
namespace Go.Proofs.Ytfghmbpogmcboaa
open Go.RowKit

abbrev SS : Type := List (List Int) × List Int × List Int × Bool × Unit
abbrev rLS : CK := .row tL 26
abbrev rN : CK := .row tI 3
/-- Where a list is or would be put among the sorted ones. -/
def slotOf (L : List (List Int)) (srt : List Int) (s : List Int) : Nat := (srt.takeWhile fun i => m_lt (L.getD i.toNat []) s).length
structure SearchOK (m : Nat) (L : List (List Int)) (srt : List Int) : Prop where
  few : L.length ≤ 3000
  len : ∀ x ∈ L, x.length = m
  short : m ≤ 20
  perm : srt.Perm (upto L.length)
  sorted : srt.Pairwise fun i j => m_lt (L.getD i.toNat []) (L.getD j.toNat []) = true
def m_pos (L : List (List Int)) (s : List Int) : Int := if s ∈ L then (L.idxOf s : Int) else -1
def m_ins (srt : List Int) (k : Nat) (x : Int) : List Int := srt.take k ++ x :: srt.drop k
noncomputable abbrev s_slot : Spec := mkS (.pair tSearch (.pair tL .unit)) tI false true (fun x => SearchOK (List.length x.2.1) x.1.1 x.1.2.2.1) (fun x => (slotOf x.1.1 x.1.2.2.1 x.2.1 : Int))
noncomputable abbrev s_sIndex : Spec := mkS (.pair tSearch (.pair tL .unit)) tI false true (fun x => SearchOK (List.length x.2.1) x.1.1 x.1.2.2.1) (fun x => m_pos x.1.1 x.2.1)
noncomputable abbrev s_sAdd : MSpec := mkM [some 4, none, none] [(false, rLS), (false, rL), (false, rN), (false, .dat .bool), (false, .dat tL), (false, .dat tI)] false [some 4] [rLS, rL, rN, .dat .bool]
  (fun x => SearchOK (List.length x.2.2.2.2.1) x.1 x.2.2.1 ∧ List.length x.2.1 ≤ 3000) (fun x => ((x.1 ++ [x.2.2.2.2.1], x.2.1 ++ [x.2.2.2.2.2.1], m_ins x.2.2.1 (slotOf x.1 x.2.2.1 x.2.2.2.2.1) (List.length x.1), x.2.2.2.1, ()), ()))
/-- The lists' indices in order. -/
def srtOf (L : List (List Int)) : List Int := (List.range L.length).foldl (fun (S : List Int) (i : Nat) => m_ins S (slotOf (L.take i) S (L.getD i [])) (i : Int)) []
/-- The neighbours of one list are added. -/
def bfsIn (g : List (List Int)) (x : List Int) (d : Int) : List Int → List (List Int) → List Int → List (List Int) × List Int × Bool
  | [], L, D => (L, D, true)
  | l :: ls, L, D => if m_compose x (m_letterOf g l) ∈ L then bfsIn g x d ls L D else if L.length = 3000 then (L, D, false) else bfsIn g x d ls (L ++ [m_compose x (m_letterOf g l)]) (D ++ [d + 1])
def bfsGo (g : List (List Int)) (ls : List Int) : Nat → Nat → List (List Int) → List Int → List (List Int) × List Int × Bool
  | 0, _, L, D => (L, D, true)
  | f + 1, k, L, D => if k < L.length then (match bfsIn g (L.getD k []) (D.getD k 0) ls L D with
    | (L', D', true) => bfsGo g ls f (k + 1) L' D'
    | (L', D', false) => (L', D', false)) else (L, D, true)
def m_bfs (g : List (List Int)) (s : List Int) : List (List Int) × List Int × Bool := bfsGo g (m_letters g.length) 3001 0 [s] [0]
def m_search (g : List (List Int)) (s : List Int) : SS := ((m_bfs g s).1, (m_bfs g s).2.1, srtOf (m_bfs g s).1, (m_bfs g s).2.2, ())
noncomputable abbrev s_sFrom : Spec := mkS (.pair tPuzzle (.pair tL .unit)) tSearch false false (fun x => m_validP x.1 = true ∧ List.length x.2.1 ≤ 20 ∧ ∀ y ∈ x.2.1, 0 ≤ y ∧ y < x.1.1) (fun x => m_search x.1.2.2.1 x.2.1)
theorem w_slot (f : List (List Int) × List Int × List Int × Bool × Unit) (s : List Int) (P : Int → Prop) : (WLoop
  (fun (v3 : Int × Int × List (List Int) × List Int × List Int × Bool × PUnit) (k4 : Int × Int × List (List Int) × List Int × List Int × Bool × PUnit → Prop) =>
    Br (decide (v3.fst < v3.2.fst))
      ((2 : Int) ≠ (0 : Int) ∧
        ∃ (y5 : Int),
          idx v3.snd.2.snd.2.fst (IntKind.i64.wrap ((IntKind.i64.wrap (v3.fst + v3.2.fst)).tdiv (2 : Int))) = some y5 ∧
            ∃ (y6 : List Int),
              idx v3.snd.2.fst y5 = some y6 ∧
                ∃ (y7 : Bool),
                  s_precedes.fn (y6, s, ()) = some y7 ∧
                    Br y7
                      (k4
                        (IntKind.i64.wrap (IntKind.i64.wrap ((IntKind.i64.wrap (v3.fst + v3.2.fst)).tdiv (2 : Int)) + (1 : Int)), v3.2.fst, v3.snd.2.fst, v3.2.snd.2.fst, v3.snd.2.snd.2.fst,
                          v3.2.snd.2.snd.2.fst, ()))
                      (k4 (v3.fst, IntKind.i64.wrap ((IntKind.i64.wrap (v3.fst + v3.2.fst)).tdiv (2 : Int)), v3.snd.2.fst, v3.2.snd.2.fst, v3.snd.2.snd.2.fst, v3.2.snd.2.snd.2.fst, ())))
      (P v3.fst))
  ((0 : Int), (↑f.snd.2.fst.length : Int), f.fst, f.2.fst, f.snd.2.fst, f.2.snd.2.fst, PUnit.unit)) = fnW tab (look [(135, s_precedes)]) s_slot Try.f169 (f, s, ()) P := by kernel_rfl
theorem w_sIndex (f : List (List Int) × List Int × List Int × Bool × Unit) (s : List Int) (P : Int → Prop) : (∃ (y3 : Int),
  s_slot.fn ((f.fst, f.2.fst, f.snd.2.fst, f.2.snd.2.fst, ()), s, ()) = some y3 ∧
    Br (decide (y3 < (↑f.snd.2.fst.length : Int)))
      (∃ (y4 : Int),
        idx f.snd.2.fst y3 = some y4 ∧
          ∃ (y5 : List Int), idx f.fst y4 = some y5 ∧ ∃ (y6 : Bool), s_equalInts.fn (y5, s, ()) = some y6 ∧ Br y6 (∃ (y7 : Int), idx f.snd.2.fst y3 = some y7 ∧ P y7) (P (-1 : Int)))
      (P (-1 : Int))) = fnW tab (look [(169, s_slot), (90, s_equalInts)]) s_sIndex Try.f161 (f, s, ()) P := by kernel_rfl
theorem w_sAdd (L : List (List Int)) (D S : List Int) (b : Bool) (s : List Int) (d : Int) (P : ((List (List Int) × List Int × List Int × Bool × Unit) × Unit) → Prop) : (∃ (y7 : Int),
  s_slot.fn ((List.take L.length (List.drop (0 : Nat) L), List.take D.length (List.drop (0 : Nat) D), List.take S.length (List.drop (0 : Nat) S), b, ()), s, ()) = some y7 ∧
    (0 : Nat) = (0 : Nat) ∧
      S.length = S.length ∧
        S.length + (List.take (1 : Nat) (List.drop (0 : Nat) [(0 : Int)])).length ≤ maxRow ∧
          ((0 : Int) ≤ IntKind.i64.wrap (y7 + (1 : Int)) ∧
              IntKind.i64.wrap (y7 + (1 : Int)) ≤ (↑(S ++ List.take (1 : Nat) (List.drop (0 : Nat) [(0 : Int)])).length : Int) ∧
                (↑(S ++ List.take (1 : Nat) (List.drop (0 : Nat) [(0 : Int)])).length : Int) ≤ (↑(S ++ List.take (1 : Nat) (List.drop (0 : Nat) [(0 : Int)])).length : Int)) ∧
            ((0 : Int) ≤ y7 ∧
                y7 ≤ (↑(S ++ List.take (1 : Nat) (List.drop (0 : Nat) [(0 : Int)])).length : Int) ∧
                  (↑(S ++ List.take (1 : Nat) (List.drop (0 : Nat) [(0 : Int)])).length : Int) ≤ (↑(S ++ List.take (1 : Nat) (List.drop (0 : Nat) [(0 : Int)])).length : Int)) ∧
              ((0 : Int) ≤ y7 ∧ y7 < (↑(S ++ List.take (1 : Nat) (List.drop (0 : Nat) [(0 : Int)])).length : Int)) ∧
                (0 : Nat) + y7.toNat <
                    (splice (S ++ List.take (1 : Nat) (List.drop (0 : Nat) [(0 : Int)])) ((0 : Nat) + (IntKind.i64.wrap (y7 + (1 : Int))).toNat)
                        (List.take ((↑(S ++ List.take (1 : Nat) (List.drop (0 : Nat) [(0 : Int)])).length : Int).toNat - (IntKind.i64.wrap (y7 + (1 : Int))).toNat)
                          (List.take ((↑(S ++ List.take (1 : Nat) (List.drop (0 : Nat) [(0 : Int)])).length : Int).toNat - y7.toNat)
                            (List.drop ((0 : Nat) + y7.toNat) (S ++ List.take (1 : Nat) (List.drop (0 : Nat) [(0 : Int)])))))).length ∧
                  (0 : Nat) = (0 : Nat) ∧
                    L.length = L.length ∧
                      L.length + (List.take (1 : Nat) (List.drop (0 : Nat) [s])).length ≤ maxRow ∧
                        (0 : Nat) = (0 : Nat) ∧
                          D.length = D.length ∧
                            D.length + (List.take (1 : Nat) (List.drop (0 : Nat) [d])).length ≤ maxRow ∧
                              P
                                ((List.take (L ++ List.take (1 : Nat) (List.drop (0 : Nat) [s])).length (List.drop (0 : Nat) (L ++ List.take (1 : Nat) (List.drop (0 : Nat) [s]))),
                                    List.take (D ++ List.take (1 : Nat) (List.drop (0 : Nat) [d])).length (List.drop (0 : Nat) (D ++ List.take (1 : Nat) (List.drop (0 : Nat) [d]))),
                                    List.take (S ++ List.take (1 : Nat) (List.drop (0 : Nat) [(0 : Int)])).length
                                      (List.drop (0 : Nat)
                                        ((splice (S ++ List.take (1 : Nat) (List.drop (0 : Nat) [(0 : Int)])) ((0 : Nat) + (IntKind.i64.wrap (y7 + (1 : Int))).toNat)
                                              (List.take ((↑(S ++ List.take (1 : Nat) (List.drop (0 : Nat) [(0 : Int)])).length : Int).toNat - (IntKind.i64.wrap (y7 + (1 : Int))).toNat)
                                                (List.take ((↑(S ++ List.take (1 : Nat) (List.drop (0 : Nat) [(0 : Int)])).length : Int).toNat - y7.toNat)
                                                  (List.drop ((0 : Nat) + y7.toNat) (S ++ List.take (1 : Nat) (List.drop (0 : Nat) [(0 : Int)])))))).set
                                          ((0 : Nat) + y7.toNat) (↑L.length : Int))),
                                    b, ()),
                                  ())) = fnMW tabT (look [(169, s_slot)]) s_sAdd Try.f160 (L, D, S, b, s, d, ()) P := by kernel_rfl
theorem w_sFrom (p : Int × ByteArray × List (List Int) × Unit) (s : List Int) (P : (List (List Int) × List Int × List Int × Bool × Unit) → Prop) : (∃ (y3 : List Int),
  s_copyInts.fn (s, ()) = some y3 ∧
    ∃ (y4 : (List (List Int) × List Int × List Int × Bool × PUnit) × PUnit),
      s_sAdd.fn ([], [], [], false, y3, (0 : Int), ()) = some y4 ∧
        ∃ (y5 : List Int),
          s_lettersOf.fn ((p.fst, p.2.fst, p.snd.2.fst, ()), ()) = some y5 ∧
            (0 : Nat) = (0 : Nat) ∧
              (0 : Nat) = ([] : List Int).length ∧
                (0 : Nat) = (0 : Nat) ∧
                  (0 : Nat) = ([] : List Int).length ∧
                    (0 : Nat) = (0 : Nat) ∧
                      (0 : Nat) = ([] : List Int).length ∧
                        (0 : Nat) = (0 : Nat) ∧
                          y4.1.fst.length = y4.1.fst.length ∧
                            (0 : Nat) = (0 : Nat) ∧
                              y4.fst.2.fst.length = y4.fst.2.fst.length ∧
                                (0 : Nat) = (0 : Nat) ∧
                                  y4.1.snd.2.fst.length = y4.1.snd.2.fst.length ∧
                                    WLoop
                                      (fun (v6 : Int × Int × ByteArray × List (List Int) × Bool × Bool × List (List Int) × List Int × List Int × List (List Int) × List Int × List Int × PUnit)
                                          (k7 : Int × Int × ByteArray × List (List Int) × Bool × Bool × List (List Int) × List Int × List Int × List (List Int) × List Int × List Int × PUnit → Prop) =>
                                        Br (decide (v6.fst < (↑v6.2.snd.2.snd.2.snd.2.snd.2.fst.length : Int)))
                                          ((0 : Nat) = (0 : Nat) ∧
                                            v6.snd.2.snd.2.snd.2.fst.length = v6.snd.2.snd.2.snd.2.fst.length ∧
                                              (0 : Nat) = (0 : Nat) ∧
                                                v6.2.snd.2.snd.2.snd.2.fst.length = v6.2.snd.2.snd.2.snd.2.fst.length ∧
                                                  (0 : Nat) = (0 : Nat) ∧
                                                    v6.snd.2.snd.2.snd.2.snd.2.fst.length = v6.snd.2.snd.2.snd.2.snd.2.fst.length ∧
                                                      (0 : Nat) = (0 : Nat) ∧
                                                        v6.2.snd.2.snd.2.snd.2.snd.2.fst.length = v6.2.snd.2.snd.2.snd.2.snd.2.fst.length ∧
                                                          (0 : Nat) = (0 : Nat) ∧
                                                            v6.snd.2.snd.2.snd.2.snd.2.snd.2.fst.length = v6.snd.2.snd.2.snd.2.snd.2.snd.2.fst.length ∧
                                                              (0 : Nat) = (0 : Nat) ∧
                                                                v6.2.snd.2.snd.2.snd.2.snd.2.snd.2.fst.length = v6.2.snd.2.snd.2.snd.2.snd.2.snd.2.fst.length ∧
                                                                  WLoop
                                                                    (fun
                                                                        (v8 :
                                                                          Int ×
                                                                            Int ×
                                                                              ByteArray ×
                                                                                List (List Int) × Bool × Bool × List (List Int) × List Int × List Int × List (List Int) × List Int × List Int × PUnit)
                                                                        (k9 :
                                                                          Int ×
                                                                              Int ×
                                                                                ByteArray ×
                                                                                  List (List Int) ×
                                                                                    Bool × Bool × List (List Int) × List Int × List Int × List (List Int) × List Int × List Int × PUnit →
                                                                            Prop) =>
                                                                      Br (decide (v8.fst < (↑y5.length : Int)))
                                                                        (((0 : Int) ≤ v6.fst ∧ v6.fst < (↑v8.2.snd.2.snd.2.snd.2.snd.2.fst.length : Int)) ∧
                                                                          ∃ (y10 : List Int),
                                                                            v8.2.snd.2.snd.2.snd.2.snd.2.fst[(0 : Nat) + v6.fst.toNat]? = some y10 ∧
                                                                              ∃ (y11 : Int),
                                                                                idx y5 v8.fst = some y11 ∧
                                                                                  ∃ (y12 : List Int),
                                                                                    s_applyL.fn ((v8.2.fst, v8.snd.2.fst, v8.2.snd.2.fst, ()), y10, y11, ()) = some y12 ∧
                                                                                      ∃ (y13 : Int),
                                                                                        s_sIndex.fn
                                                                                              ((List.take v8.2.snd.2.snd.2.snd.2.snd.2.fst.length
                                                                                                    (List.drop ((0 : Nat)) v8.2.snd.2.snd.2.snd.2.snd.2.fst),
                                                                                                  List.take v8.snd.2.snd.2.snd.2.snd.2.snd.2.fst.length
                                                                                                    (List.drop ((0 : Nat)) v8.snd.2.snd.2.snd.2.snd.2.snd.2.fst),
                                                                                                  List.take v8.2.snd.2.snd.2.snd.2.snd.2.snd.2.fst.length
                                                                                                    (List.drop ((0 : Nat)) v8.2.snd.2.snd.2.snd.2.snd.2.snd.2.fst),
                                                                                                  v8.2.snd.2.snd.2.fst, ()),
                                                                                                y12, ()) =
                                                                                            some y13 ∧
                                                                                          Br (decide (y13 ≥ (0 : Int)))
                                                                                            ((0 : Nat) = (0 : Nat) ∧
                                                                                              v8.snd.2.snd.2.snd.2.fst.length = v8.snd.2.snd.2.snd.2.fst.length ∧
                                                                                                (0 : Nat) = (0 : Nat) ∧
                                                                                                  v8.2.snd.2.snd.2.snd.2.fst.length = v8.2.snd.2.snd.2.snd.2.fst.length ∧
                                                                                                    (0 : Nat) = (0 : Nat) ∧
                                                                                                      v8.snd.2.snd.2.snd.2.snd.2.fst.length = v8.snd.2.snd.2.snd.2.snd.2.fst.length ∧
                                                                                                        (0 : Nat) = (0 : Nat) ∧
                                                                                                          v8.2.snd.2.snd.2.snd.2.snd.2.fst.length = v8.2.snd.2.snd.2.snd.2.snd.2.fst.length ∧
                                                                                                            (0 : Nat) = (0 : Nat) ∧
                                                                                                              v8.snd.2.snd.2.snd.2.snd.2.snd.2.fst.length =
                                                                                                                  v8.snd.2.snd.2.snd.2.snd.2.snd.2.fst.length ∧
                                                                                                                (0 : Nat) = (0 : Nat) ∧
                                                                                                                  v8.2.snd.2.snd.2.snd.2.snd.2.snd.2.fst.length =
                                                                                                                      v8.2.snd.2.snd.2.snd.2.snd.2.snd.2.fst.length ∧
                                                                                                                    k9
                                                                                                                      (IntKind.i64.wrap (v8.fst + (1 : Int)), v8.2.fst, v8.snd.2.fst, v8.2.snd.2.fst,
                                                                                                                        v8.snd.2.snd.2.fst, v8.2.snd.2.snd.2.fst, v8.snd.2.snd.2.snd.2.fst,
                                                                                                                        v8.2.snd.2.snd.2.snd.2.fst, v8.snd.2.snd.2.snd.2.snd.2.fst,
                                                                                                                        v8.2.snd.2.snd.2.snd.2.snd.2.fst, v8.snd.2.snd.2.snd.2.snd.2.snd.2.fst,
                                                                                                                        v8.2.snd.2.snd.2.snd.2.snd.2.snd.2.fst, ()))
                                                                                            (Br ((↑v8.2.snd.2.snd.2.snd.2.snd.2.fst.length : Int) == (3000 : Int))
                                                                                              (P
                                                                                                (List.take v8.2.snd.2.snd.2.snd.2.snd.2.fst.length
                                                                                                    (List.drop ((0 : Nat)) v8.2.snd.2.snd.2.snd.2.snd.2.fst),
                                                                                                  List.take v8.snd.2.snd.2.snd.2.snd.2.snd.2.fst.length
                                                                                                    (List.drop ((0 : Nat)) v8.snd.2.snd.2.snd.2.snd.2.snd.2.fst),
                                                                                                  List.take v8.2.snd.2.snd.2.snd.2.snd.2.snd.2.fst.length
                                                                                                    (List.drop ((0 : Nat)) v8.2.snd.2.snd.2.snd.2.snd.2.snd.2.fst),
                                                                                                  v8.2.snd.2.snd.2.fst, ()))
                                                                                              (((0 : Int) ≤ v6.fst ∧ v6.fst < (↑v8.snd.2.snd.2.snd.2.snd.2.snd.2.fst.length : Int)) ∧
                                                                                                ∃ (y14 : Int),
                                                                                                  v8.snd.2.snd.2.snd.2.snd.2.snd.2.fst[(0 : Nat) + v6.fst.toNat]? = some y14 ∧
                                                                                                    (0 : Nat) = (0 : Nat) ∧
                                                                                                      v8.2.snd.2.snd.2.snd.2.snd.2.fst.length = v8.2.snd.2.snd.2.snd.2.snd.2.fst.length ∧
                                                                                                        (0 : Nat) = (0 : Nat) ∧
                                                                                                          v8.snd.2.snd.2.snd.2.snd.2.snd.2.fst.length = v8.snd.2.snd.2.snd.2.snd.2.snd.2.fst.length ∧
                                                                                                            (0 : Nat) = (0 : Nat) ∧
                                                                                                              v8.2.snd.2.snd.2.snd.2.snd.2.snd.2.fst.length =
                                                                                                                  v8.2.snd.2.snd.2.snd.2.snd.2.snd.2.fst.length ∧
                                                                                                                ∃ (y15 : (List (List Int) × List Int × List Int × Bool × PUnit) × PUnit),
                                                                                                                  s_sAdd.fn
                                                                                                                        (v8.2.snd.2.snd.2.snd.2.snd.2.fst, v8.snd.2.snd.2.snd.2.snd.2.snd.2.fst,
                                                                                                                          v8.2.snd.2.snd.2.snd.2.snd.2.snd.2.fst, v8.2.snd.2.snd.2.fst, y12,
                                                                                                                          IntKind.i64.wrap (y14 + (1 : Int)), ()) =
                                                                                                                      some y15 ∧
                                                                                                                    (0 : Nat) = (0 : Nat) ∧
                                                                                                                      v8.snd.2.snd.2.snd.2.fst.length = v8.snd.2.snd.2.snd.2.fst.length ∧
                                                                                                                        (0 : Nat) = (0 : Nat) ∧
                                                                                                                          v8.2.snd.2.snd.2.snd.2.fst.length = v8.2.snd.2.snd.2.snd.2.fst.length ∧
                                                                                                                            (0 : Nat) = (0 : Nat) ∧
                                                                                                                              v8.snd.2.snd.2.snd.2.snd.2.fst.length =
                                                                                                                                  v8.snd.2.snd.2.snd.2.snd.2.fst.length ∧
                                                                                                                                (0 : Nat) = (0 : Nat) ∧
                                                                                                                                  y15.1.fst.length = y15.1.fst.length ∧
                                                                                                                                    (0 : Nat) = (0 : Nat) ∧
                                                                                                                                      y15.fst.2.fst.length = y15.fst.2.fst.length ∧
                                                                                                                                        (0 : Nat) = (0 : Nat) ∧
                                                                                                                                          y15.1.snd.2.fst.length = y15.1.snd.2.fst.length ∧
                                                                                                                                            k9
                                                                                                                                              (IntKind.i64.wrap (v8.fst + (1 : Int)), v8.2.fst,
                                                                                                                                                v8.snd.2.fst, v8.2.snd.2.fst, v8.snd.2.snd.2.fst,
                                                                                                                                                y15.fst.2.snd.2.fst, v8.snd.2.snd.2.snd.2.fst,
                                                                                                                                                v8.2.snd.2.snd.2.snd.2.fst,
                                                                                                                                                v8.snd.2.snd.2.snd.2.snd.2.fst, y15.1.fst,
                                                                                                                                                y15.fst.2.fst, y15.1.snd.2.fst, ()))))
                                                                        ((0 : Nat) = (0 : Nat) ∧
                                                                          v8.snd.2.snd.2.snd.2.fst.length = v8.snd.2.snd.2.snd.2.fst.length ∧
                                                                            (0 : Nat) = (0 : Nat) ∧
                                                                              v8.2.snd.2.snd.2.snd.2.fst.length = v8.2.snd.2.snd.2.snd.2.fst.length ∧
                                                                                (0 : Nat) = (0 : Nat) ∧
                                                                                  v8.snd.2.snd.2.snd.2.snd.2.fst.length = v8.snd.2.snd.2.snd.2.snd.2.fst.length ∧
                                                                                    (0 : Nat) = (0 : Nat) ∧
                                                                                      v8.2.snd.2.snd.2.snd.2.snd.2.fst.length = v8.2.snd.2.snd.2.snd.2.snd.2.fst.length ∧
                                                                                        (0 : Nat) = (0 : Nat) ∧
                                                                                          v8.snd.2.snd.2.snd.2.snd.2.snd.2.fst.length = v8.snd.2.snd.2.snd.2.snd.2.snd.2.fst.length ∧
                                                                                            (0 : Nat) = (0 : Nat) ∧
                                                                                              v8.2.snd.2.snd.2.snd.2.snd.2.snd.2.fst.length = v8.2.snd.2.snd.2.snd.2.snd.2.snd.2.fst.length ∧
                                                                                                k7
                                                                                                  (IntKind.i64.wrap (v6.fst + (1 : Int)), v8.2.fst, v8.snd.2.fst, v8.2.snd.2.fst, v8.snd.2.snd.2.fst,
                                                                                                    v8.2.snd.2.snd.2.fst, v8.snd.2.snd.2.snd.2.fst, v8.2.snd.2.snd.2.snd.2.fst,
                                                                                                    v8.snd.2.snd.2.snd.2.snd.2.fst, v8.2.snd.2.snd.2.snd.2.snd.2.fst,
                                                                                                    v8.snd.2.snd.2.snd.2.snd.2.snd.2.fst, v8.2.snd.2.snd.2.snd.2.snd.2.snd.2.fst, ())))
                                                                    ((0 : Int), v6.2.fst, v6.snd.2.fst, v6.2.snd.2.fst, v6.snd.2.snd.2.fst, v6.2.snd.2.snd.2.fst, v6.snd.2.snd.2.snd.2.fst,
                                                                      v6.2.snd.2.snd.2.snd.2.fst, v6.snd.2.snd.2.snd.2.snd.2.fst, v6.2.snd.2.snd.2.snd.2.snd.2.fst,
                                                                      v6.snd.2.snd.2.snd.2.snd.2.snd.2.fst, v6.2.snd.2.snd.2.snd.2.snd.2.snd.2.fst, PUnit.unit))
                                          (P
                                            (List.take v6.2.snd.2.snd.2.snd.2.snd.2.fst.length (List.drop ((0 : Nat)) v6.2.snd.2.snd.2.snd.2.snd.2.fst),
                                              List.take v6.snd.2.snd.2.snd.2.snd.2.snd.2.fst.length (List.drop ((0 : Nat)) v6.snd.2.snd.2.snd.2.snd.2.snd.2.fst),
                                              List.take v6.2.snd.2.snd.2.snd.2.snd.2.snd.2.fst.length (List.drop ((0 : Nat)) v6.2.snd.2.snd.2.snd.2.snd.2.snd.2.fst), true, ())))
                                      ((0 : Int), p.fst, p.2.fst, p.snd.2.fst, false, y4.fst.2.snd.2.fst, [], [], [], y4.1.fst, y4.fst.2.fst, y4.1.snd.2.fst, PUnit.unit)) = fnW tabW (look [(70, s_copyInts), (160, s_sAdd), (113, s_lettersOf), (124, s_applyL), (161, s_sIndex)]) s_sFrom Try.f139 (p, s, ()) P := by kernel_rfl
theorem cmp_zero : ∀ {a b : List Int}, m_compare a b = 0 ↔ a = b
  | [], [] => by simp [m_compare]
  | [], _ :: _ => by simp [m_compare]
  | _ :: _, [] => by simp [m_compare]
  | x :: a, y :: b => by
    simp only [m_compare, List.cons.injEq]
    by_cases h1 : x < y
    · rw [if_pos h1]
      exact ⟨fun h => by omega, fun h => by omega⟩
    · rw [if_neg h1]
      by_cases h2 : x > y
      · rw [if_pos h2]
        exact ⟨fun h => by omega, fun h => by omega⟩
      · rw [if_neg h2, cmp_zero]
        exact ⟨fun h => ⟨by omega, h⟩, fun h => h.2⟩
theorem cmp_neg : ∀ (a b : List Int), m_compare b a = - m_compare a b
  | [], [] => by simp [m_compare]
  | [], _ :: _ => by simp [m_compare]
  | _ :: _, [] => by simp [m_compare]
  | x :: a, y :: b => by
    simp only [m_compare]
    rcases Int.lt_trichotomy x y with h1 | h1 | h1
    · simp [h1, show ¬ y < x by omega]
    · subst h1
      simp [cmp_neg a b]
    · simp [h1, show ¬ x < y by omega]
theorem cmp_trans : ∀ {a b c : List Int}, m_compare a b < 0 → m_compare b c < 0 → m_compare a c < 0
  | [], [], _, h, _ => by simp [m_compare] at h
  | _ :: _, [], _, h, _ => by simp [m_compare] at h
  | _, _ :: _, [], _, h => by simp [m_compare] at h
  | [], _ :: _, _ :: _, _, _ => by simp [m_compare]
  | x :: a, y :: b, z :: c, h1, h2 => by
    simp only [m_compare] at h1 h2 ⊢
    by_cases e1 : x < y
    · by_cases e2 : y < z
      · rw [if_pos (by omega)]; omega
      · rw [if_neg e2] at h2
        by_cases e3 : y > z
        · rw [if_pos e3] at h2; omega
        · rw [if_pos (by omega)]; omega
    · rw [if_neg e1] at h1
      by_cases e2 : x > y
      · rw [if_pos e2] at h1; omega
      · rw [if_neg e2] at h1
        by_cases e3 : y < z
        · rw [if_pos (by omega)]; omega
        · rw [if_neg e3] at h2
          by_cases e4 : y > z
          · rw [if_pos e4] at h2; omega
          · rw [if_neg e4] at h2
            rw [if_neg (by omega), if_neg (by omega)]
            exact cmp_trans h1 h2
theorem lt_iff {a b : List Int} : m_lt a b = true ↔ m_compare a b < 0 := decide_eq_true_iff
theorem lt_trans' {a b c : List Int} (h1 : m_lt a b = true) (h2 : m_lt b c = true) : m_lt a c = true := lt_iff.2 (cmp_trans (lt_iff.1 h1) (lt_iff.1 h2))
theorem lt_irrefl' (a : List Int) : m_lt a a = false := by
  have : m_compare a a = 0 := cmp_zero.2 rfl
  unfold m_lt; rw [this]; rfl
theorem lt_total {a b : List Int} (h : m_lt a b = false) (hne : a ≠ b) : m_lt b a = true := by
  rw [lt_iff, cmp_neg a b]
  have h1 : ¬ m_compare a b < 0 := fun h' => by rw [lt_iff.2 h'] at h; cases h
  have h2 : m_compare a b ≠ 0 := fun h' => hne (cmp_zero.1 h')
  omega
theorem takeWhile_iff {α : Type} (q : α → Bool) : ∀ (l : List α), l.Pairwise (fun i j => q j = true → q i = true) → ∀ k (hk : k < l.length), k < (l.takeWhile q).length ↔ q l[k] = true
  | [], _, k, hk => by simp at hk
  | a :: l, h, k, hk => by
    obtain ⟨h1, h2⟩ := List.pairwise_cons.1 h
    by_cases ha : q a = true
    · rw [List.takeWhile_cons_of_pos ha]
      rcases k with _ | k
      · simpa using ha
      · simp only [List.length_cons, List.getElem_cons_succ, Nat.add_lt_add_iff_right]
        exact takeWhile_iff q l h2 k (by simpa using hk)
    · rw [List.takeWhile_cons_of_neg ha]
      simp only [List.length_nil, Nat.not_lt_zero, false_iff]
      rcases k with _ | k
      · exact ha
      · simp only [List.getElem_cons_succ]
        exact fun hq => ha (h1 _ (List.getElem_mem _) hq)
theorem SearchOK.len2 {m : Nat} {L : List (List Int)} {srt : List Int} (h : SearchOK m L srt) : srt.length = L.length := by rw [h.perm.length_eq, upto_len]
theorem SearchOK.idx {m : Nat} {L : List (List Int)} {srt : List Int} (h : SearchOK m L srt) {k : Nat} (hk : k < srt.length) : 0 ≤ srt[k] ∧ srt[k] < L.length := mem_upto.1 (h.perm.mem_iff.1 (List.getElem_mem hk))
theorem SearchOK.slot_iff {m : Nat} {L : List (List Int)} {srt : List Int} (h : SearchOK m L srt) (s : List Int) {k : Nat} (hk : k < srt.length) : k < slotOf L srt s ↔ m_lt (L.getD srt[k].toNat []) s = true :=
  takeWhile_iff _ srt (h.sorted.imp fun hij hj => lt_trans' hij hj) k hk
theorem slot_le (L : List (List Int)) (srt s : List Int) : slotOf L srt s ≤ srt.length := (List.takeWhile_sublist _).length_le
theorem SearchOK.inj {m : Nat} {L : List (List Int)} {srt : List Int} (h : SearchOK m L srt) {i j : Nat} (hi : i < L.length) (hj : j < L.length) (e : L[i] = L[j]) : i = j := by
  have mem : ∀ i, i < L.length → (i : Int) ∈ srt := fun i hi => h.perm.mem_iff.2 (mem_upto.2 ⟨by omega, by omega⟩)
  obtain ⟨p, hp, ep⟩ := List.mem_iff_getElem.1 (mem i hi)
  obtain ⟨q, hq, eq⟩ := List.mem_iff_getElem.1 (mem j hj)
  have get : ∀ i (hi : i < L.length), L.getD ((i : Int)).toNat [] = L[i] := fun i hi => by rw [Int.toNat_natCast, List.getD_eq_getElem?_getD, List.getElem?_eq_getElem hi]; rfl
  rcases Nat.lt_trichotomy p q with h1 | h1 | h1
  · have := List.pairwise_iff_getElem.1 h.sorted p q hp hq h1
    rw [ep, eq, get i hi, get j hj, e, lt_irrefl'] at this
    cases this
  · subst h1
    rw [ep] at eq
    omega
  · have := List.pairwise_iff_getElem.1 h.sorted q p hq hp h1
    rw [ep, eq, get i hi, get j hj, e, lt_irrefl'] at this
    cases this
theorem getD_nat {L : List (List Int)} {k : Nat} (h : k < L.length) : L.getD k [] = L[k] := by rw [List.getD_eq_getElem?_getD, List.getElem?_eq_getElem h]; rfl
/-- What stands at the slot. -/
theorem SearchOK.at_slot {m : Nat} {L : List (List Int)} {srt : List Int} (h : SearchOK m L srt) {s : List Int} :
    (∃ hk : slotOf L srt s < srt.length, L.getD srt[slotOf L srt s].toNat [] = s ∧ m_pos L s = srt[slotOf L srt s]) ∨ (m_pos L s = -1 ∧ ∀ hk : slotOf L srt s < srt.length, L.getD srt[slotOf L srt s].toNat [] ≠ s) := by
  by_cases hm : s ∈ L
  · left
    obtain ⟨j, hj, rfl⟩ := List.mem_iff_getElem.1 hm
    obtain ⟨p, hp, ep⟩ := List.mem_iff_getElem.1 (h.perm.mem_iff.2 (mem_upto.2 ⟨by omega, by omega⟩) : (j : Int) ∈ srt)
    have gj : L.getD srt[p].toNat [] = L[j] := by rw [ep, Int.toNat_natCast, getD_nat hj]
    have hs : slotOf L srt L[j] = p := by
      have h1 : ¬ p < slotOf L srt L[j] := fun h1 => by
        have := (h.slot_iff L[j] hp).1 h1
        rw [gj, lt_irrefl'] at this; cases this
      have h2 : ¬ slotOf L srt L[j] < p := fun h2 => by
        have h3 := (h.slot_iff L[j] (k := slotOf L srt L[j]) (by omega)).2 (by
          have := List.pairwise_iff_getElem.1 h.sorted (slotOf L srt L[j]) p (by omega) hp h2
          rw [gj] at this; exact this)
        omega
      omega
    have hx : L.idxOf L[j] = j := by
      have h1 : L.idxOf L[j] < L.length := List.idxOf_lt_length_of_mem hm
      exact h.inj h1 hj (List.getElem_idxOf h1)
    refine ⟨by omega, ?_, ?_⟩
    · simp only [hs]; exact gj
    · unfold m_pos
      rw [if_pos hm, hx]
      simp only [hs]; exact ep.symm
  · right
    refine ⟨by unfold m_pos; rw [if_neg hm], fun hk e => hm ?_⟩
    have hi := h.idx hk
    rw [getD_nat (by omega)] at e
    rw [← e]
    exact List.getElem_mem _
theorem ins_perm (srt : List Int) (k : Nat) (x : Int) : (m_ins srt k x).Perm (x :: srt) := by
  unfold m_ins
  refine List.perm_middle.trans (List.Perm.cons x ?_)
  rw [List.take_append_drop]
theorem SearchOK.add {m : Nat} {L : List (List Int)} {srt s : List Int} (h : SearchOK m L srt) (hn : s ∉ L) (hl : s.length = m) (hr : L.length < 3000) : SearchOK m (L ++ [s]) (m_ins srt (slotOf L srt s) L.length) := by
  have get1 : ∀ i ∈ srt, (L ++ [s]).getD i.toNat [] = L.getD i.toNat [] := fun i hi => by
    have := mem_upto.1 (h.perm.mem_iff.1 hi)
    rw [List.getD_eq_getElem?_getD, List.getD_eq_getElem?_getD, List.getElem?_append_left (by omega)]
  have get2 : (L ++ [s]).getD ((L.length : Int)).toNat [] = s := by
    rw [Int.toNat_natCast, List.getD_eq_getElem?_getD, List.getElem?_append_right (by omega), Nat.sub_self]; rfl
  refine ⟨by rw [List.length_append, List.length_singleton]; omega, fun x hx => ?_, h.short, ?_, ?_⟩
  · rcases List.mem_append.1 hx with hx | hx
    · exact h.len x hx
    · rw [List.mem_singleton.1 hx]; exact hl
  · refine (ins_perm _ _ _).trans ?_
    rw [List.length_append, List.length_singleton, upto_succ]
    exact (List.Perm.cons _ h.perm).trans (List.perm_append_singleton _ _).symm
  · unfold m_ins
    have hs := h.sorted
    rw [← List.take_append_drop (slotOf L srt s) srt] at hs
    obtain ⟨s1, s2, s3⟩ := List.pairwise_append.1 hs
    have mt : ∀ i ∈ srt.take (slotOf L srt s), i ∈ srt ∧ m_lt (L.getD i.toNat []) s = true := fun i hi => by
      obtain ⟨k, hk, rfl⟩ := List.mem_iff_getElem.1 hi
      have hk2 : k < slotOf L srt s := by rw [List.length_take] at hk; omega
      have hk3 : k < srt.length := by rw [List.length_take] at hk; omega
      rw [List.getElem_take]
      exact ⟨List.getElem_mem _, (h.slot_iff s hk3).1 hk2⟩
    have md : ∀ i ∈ srt.drop (slotOf L srt s), i ∈ srt ∧ m_lt s (L.getD i.toNat []) = true := fun i hi => by
      obtain ⟨k, hk, rfl⟩ := List.mem_iff_getElem.1 hi
      rw [List.length_drop] at hk
      have hk3 : slotOf L srt s + k < srt.length := by omega
      rw [List.getElem_drop]
      refine ⟨List.getElem_mem _, lt_total ?_ fun e => hn ?_⟩
      · exact Bool.eq_false_iff.2 fun hh => by
          have := (h.slot_iff s hk3).2 hh
          omega
      · have hi := h.idx hk3
        rw [getD_nat (by omega)] at e
        rw [← e]; exact List.getElem_mem _
    refine List.pairwise_append.2 ⟨s1.imp_of_mem fun {a b} ha hb hab => ?_, List.pairwise_cons.2 ⟨fun b hb => ?_, s2.imp_of_mem fun {a b} ha hb hab => ?_⟩, fun a ha b hb => ?_⟩
    · rw [get1 a (mt a ha).1, get1 b (mt b hb).1]; exact hab
    · rw [get2, get1 b (md b hb).1]; exact (md b hb).2
    · rw [get1 a (md a ha).1, get1 b (md b hb).1]; exact hab
    · rcases List.mem_cons.1 hb with rfl | hb
      · rw [get2, get1 a (mt a ha).1]; exact (mt a ha).2
      · rw [get1 a (mt a ha).1, get1 b (md b hb).1]; exact s3 a ha b hb
theorem srtOf_snoc (L : List (List Int)) (s : List Int) : srtOf (L ++ [s]) = m_ins (srtOf L) (slotOf L (srtOf L) s) L.length := by
  unfold srtOf
  rw [List.length_append, List.length_singleton, List.range_succ, List.foldl_append]
  have e : ∀ (is : List Nat) (S : List Int), (∀ i ∈ is, i < L.length) → is.foldl (fun (S : List Int) (i : Nat) => m_ins S (slotOf ((L ++ [s]).take i) S ((L ++ [s]).getD i [])) (i : Int)) S = is.foldl (fun (S : List Int) (i : Nat) => m_ins S (slotOf (L.take i) S (L.getD i [])) (i : Int)) S := by
    intro is
    induction is with
    | nil => intro S _; rfl
    | cons i is ih =>
      intro S h
      have hi := h i (by simp)
      rw [List.foldl_cons, List.foldl_cons, ih _ fun j hj => h j (List.mem_cons_of_mem _ hj)]
      congr 2
      rw [List.take_append_of_le_length (by omega), List.getD_eq_getElem?_getD, List.getElem?_append_left hi, ← List.getD_eq_getElem?_getD]
  rw [e _ _ fun i hi => List.mem_range.1 hi]
  simp only [List.foldl_cons, List.foldl_nil]
  congr 2
  · rw [List.take_append_of_le_length (Nat.le_refl _), List.take_length]
  · rw [List.getD_eq_getElem?_getD, List.getElem?_append_right (by omega), Nat.sub_self]; rfl
theorem searchOK_nil {m : Nat} (h : m ≤ 20) : SearchOK m [] [] := ⟨by simp, fun x hx => (by cases hx), h, by simp [upto], List.Pairwise.nil⟩
theorem idx_at {α : Type} {xs : List α} {y : Int} (h0 : 0 ≤ y) (h : y.toNat < xs.length) : idx xs y = some xs[y.toNat] := by
  unfold idx
  rw [if_pos h0, List.getElem?_eq_getElem h]
theorem p_slot (f : SS) (s : List Int) (h : SearchOK s.length f.1 f.2.2.1) : fnW tab (look [(135, s_precedes)]) s_slot Try.f169 (f, s, ()) (fun (z : Int) => z = (slotOf f.1 f.2.2.1 s : Int)) := by
  obtain ⟨L, D, srt, b, ⟨⟩⟩ := f
  dsimp only at h ⊢
  have hle := slot_le L srt s
  have hl2 := h.len2
  have hfew := h.few
  refine Eq.mp (w_slot (L, D, srt, b, ()) s _) ?_
  refine WLoop.mk (fun v => v.2.2.1 = L ∧ v.2.2.2.2.1 = srt ∧ ∃ lo hi : Nat, v.1 = lo ∧ v.2.1 = hi ∧ lo ≤ hi ∧ hi ≤ srt.length ∧ lo ≤ slotOf L srt s ∧ slotOf L srt s ≤ hi) (fun v => (v.2.1 - v.1).toNat)
    ⟨rfl, rfl, 0, srt.length, rfl, rfl, by omega, by omega, by omega, hle⟩ ?_
  rintro ⟨lo', hi', L', D', srt', b', ⟨⟩⟩ ⟨h1, h2, lo, hi, h3, h4, h5, h6, h7, h8⟩
  dsimp only at h1 h2 h3 h4 ⊢
  subst h1 h2 h3 h4
  refine Br.dec (fun hl => ?_) fun hl => ?_
  · have em : IntKind.i64.wrap ((IntKind.i64.wrap ((lo : Int) + (hi : Int))).tdiv 2) = (((lo + hi) / 2 : Nat) : Int) := by
      rw [wrap_id (n := (lo : Int) + (hi : Int)) (by omega) (by omega), Int.tdiv_eq_ediv_of_nonneg (by omega), wrap_id (by omega) (by omega)]
      omega
    rw [em]
    have hm1 : (lo + hi) / 2 < srt'.length := by omega
    have hi1 := h.idx hm1
    have hi2 : srt'[(lo + hi) / 2].toNat < L'.length := by omega
    have hgd := getD_nat hi2
    have hlen := h.len _ (List.getElem_mem hi2)
    have hsh : short L'[srt'[(lo + hi) / 2].toNat] := by
      unfold short
      have := h.short; omega
    refine ⟨by decide, _, idx_nat hm1, _, idx_at hi1.1 hi2, _, if_pos ⟨hsh, hlen⟩, ⟨fun hc => ?_, fun hc => ?_⟩⟩
    · have hc : m_lt L'[srt'[(lo + hi) / 2].toNat] s = true := hc
      have hs := (h.slot_iff s hm1).2 (by rw [hgd]; exact hc)
      rw [wrap_nat (by omega)]
      exact ⟨⟨rfl, rfl, (lo + hi) / 2 + 1, hi, rfl, rfl, by omega, h6, by omega, h8⟩, by omega⟩
    · have hc : m_lt L'[srt'[(lo + hi) / 2].toNat] s = false := hc
      have hs : ¬ (lo + hi) / 2 < slotOf L' srt' s := fun hh => by
        have := (h.slot_iff s hm1).1 hh
        rw [hgd, hc] at this; cases this
      exact ⟨⟨rfl, rfl, lo, (lo + hi) / 2, rfl, rfl, by omega, by omega, h7, by omega⟩, by omega⟩
  · show (lo : Int) = _
    omega
theorem sound_slot : Sound Try.prog 169 s_slot :=
  Sound.mkS tabOK (envCons sound_precedes envNil) mixed Try.func169 (by kernel_rfl) (by kernel_rfl) fun x h => p_slot x.1 x.2.1 h
theorem p_sIndex (f : SS) (s : List Int) (h : SearchOK s.length f.1 f.2.2.1) : fnW tab (look [(169, s_slot), (90, s_equalInts)]) s_sIndex Try.f161 (f, s, ()) (fun (z : Int) => z = m_pos f.1 s) := by
  obtain ⟨L, D, srt, b, ⟨⟩⟩ := f
  dsimp only at h ⊢
  refine Eq.mp (w_sIndex (L, D, srt, b, ()) s _) ⟨_, if_pos h, Br.dec (fun hl => ?_) fun hl => ?_⟩
  · have hl : slotOf L srt s < srt.length := by
      have hl : ((slotOf L srt s : Nat) : Int) < (srt.length : Int) := hl
      omega
    have hi1 := h.idx hl
    have hi2 : srt[slotOf L srt s].toNat < L.length := by omega
    have hgd := getD_nat hi2
    have hlen := h.len _ (List.getElem_mem hi2)
    have hsh : short L[srt[slotOf L srt s].toNat] := by
      unfold short
      have := h.short; omega
    refine ⟨_, idx_nat hl, _, idx_at hi1.1 hi2, _, if_pos hsh, ⟨fun hc => ⟨_, idx_nat hl, ?_⟩, fun hc => ?_⟩⟩
    · have hc : L[srt[slotOf L srt s].toNat] = s := of_decide_eq_true hc
      rcases h.at_slot (s := s) with ⟨hk, _, e⟩ | ⟨_, hne⟩
      · exact e.symm
      · exact absurd (by rw [hgd]; exact hc) (hne hl)
    · have hc : ¬ L[srt[slotOf L srt s].toNat] = s := of_decide_eq_false hc
      rcases h.at_slot (s := s) with ⟨hk, e, _⟩ | ⟨e, _⟩
      · rw [hgd] at e; exact absurd e hc
      · exact e.symm
  · have hl : ¬ slotOf L srt s < srt.length := by
      have hl : ¬ ((slotOf L srt s : Nat) : Int) < (srt.length : Int) := hl
      omega
    rcases h.at_slot (s := s) with ⟨hk, e, _⟩ | ⟨e, _⟩
    · exact absurd hk hl
    · exact e.symm
theorem sound_sIndex : Sound Try.prog 161 s_sIndex :=
  Sound.mkS tabOK (envCons sound_slot (envCons sound_equalInts envNil)) mixed Try.func161 (by kernel_rfl) (by kernel_rfl) fun x h => p_sIndex x.1 x.2.1 h
theorem ins_splice {S : List Int} {k : Nat} (h : k ≤ S.length) (n : Int) :
    (splice (S ++ [0]) (k + 1) (List.take ((S ++ [0]).length - (k + 1)) (List.take ((S ++ [0]).length - k) (List.drop k (S ++ [0]))))).set k n = m_ins S k n := by
  obtain ⟨A, B, rfl, hA⟩ : ∃ A B, S = A ++ B ∧ A.length = k := ⟨S.take k, S.drop k, (List.take_append_drop k S).symm, by rw [List.length_take]; omega⟩
  subst hA
  have e1 : List.drop A.length (A ++ B ++ [0]) = B ++ [0] := by rw [List.append_assoc, List.drop_left]
  have e2 : List.take ((A ++ B ++ [0]).length - A.length) (B ++ [0]) = B ++ [0] := List.take_of_length_le (by simp only [List.length_append, List.length_singleton]; omega)
  have e3 : List.take ((A ++ B ++ [0]).length - (A.length + 1)) (B ++ [0]) = B := by
    have : (A ++ B ++ [(0 : Int)]).length - (A.length + 1) = B.length := by simp only [List.length_append, List.length_singleton]; omega
    rw [this, List.take_left]
  rw [e1, e2, e3]
  unfold splice m_ins
  have e4 : List.drop (A.length + 1 + B.length) (A ++ B ++ [0]) = [] := List.drop_eq_nil_of_le (by simp only [List.length_append, List.length_singleton]; omega)
  obtain ⟨c, hc⟩ : ∃ c, List.take (A.length + 1) (A ++ B ++ [0]) = A ++ [c] := by
    rw [List.append_assoc, List.take_append, List.take_of_length_le (by omega)]
    cases B with
    | nil => exact ⟨0, by simp⟩
    | cons b B => exact ⟨b, by simp⟩
  rw [e4, hc, List.append_nil, List.append_assoc, List.singleton_append, set_mid, List.take_left, List.drop_left]
theorem p_sAdd (L : List (List Int)) (D S : List Int) (b : Bool) (s : List Int) (d : Int) (h : SearchOK s.length L S ∧ D.length ≤ 3000) :
    fnMW tabT (look [(169, s_slot)]) s_sAdd Try.f160 (L, D, S, b, s, d, ()) (fun (z : (List (List Int) × List Int × List Int × Bool × Unit) × Unit) => z = ((L ++ [s], D ++ [d], m_ins S (slotOf L S s) L.length, b, ()), ())) := by
  obtain ⟨h, hD⟩ := h
  have hle := slot_le L S s
  have hl2 := h.len2
  have hfew := h.few
  refine Eq.mp (w_sAdd L D S b s d _) ?_
  rw [whole_row L, whole_row D, whole_row S]
  refine ⟨_, if_pos h, ?_⟩
  dsimp only
  have es : List.take 1 (List.drop 0 [(0 : Int)]) = [0] := rfl
  have el : (S ++ [(0 : Int)]).length = S.length + 1 := by simp
  rw [es, wrap_nat (by omega), Nat.zero_add, Nat.zero_add, Int.toNat_natCast, Int.toNat_natCast, Int.toNat_natCast]
  refine ⟨rfl, rfl, by show S.length + 1 ≤ 4294967296; omega, ⟨by omega, by omega, by omega⟩, ⟨by omega, by omega, by omega⟩, ⟨by omega, by omega⟩, ?_, rfl, rfl, by show L.length + 1 ≤ 4294967296; omega, rfl, rfl, by show D.length + 1 ≤ 4294967296; omega, ?_⟩
  · unfold splice
    simp only [List.length_append, List.length_take, List.length_drop, List.length_singleton]
    omega
  · rw [ins_splice hle, whole_row, whole_row]
    have e5 : List.take (S ++ [(0 : Int)]).length (List.drop 0 (m_ins S (slotOf L S s) (L.length : Int))) = m_ins S (slotOf L S s) (L.length : Int) := by
      rw [List.drop_zero, List.take_of_length_le]
      unfold m_ins
      simp only [List.length_append, List.length_cons, List.length_take, List.length_drop, List.length_nil]
      omega
    rw [e5]
    rfl
theorem sound_sAdd : MSound Try.prog 160 s_sAdd :=
  MSound.mkM tabTOK (envCons sound_slot envNil) mixed Try.func160 (by kernel_rfl) (by kernel_rfl) fun x h => p_sAdd x.1 x.2.1 x.2.2.1 x.2.2.2.1 x.2.2.2.2.1 x.2.2.2.2.2.1 h
/-- What holds all along a search. -/
structure BfsOK (p : PP) (m : Nat) (L : List (List Int)) (D : List Int) : Prop where
  ok : SearchOK m L (srtOf L)
  len : D.length = L.length
  row : ∀ x ∈ L, ∀ y ∈ x, 0 ≤ y ∧ y < p.1
  dep : ∀ j (h : j < D.length), 0 ≤ D[j] ∧ D[j] ≤ j
theorem next_ok {p : PP} (hv : Valid p) {x : List Int} {l : Int} (hx : ∀ y ∈ x, 0 ≤ y ∧ y < p.1) (hl : isLetter (List.length p.2.2.1) l) :
    (m_compose x (m_letterOf p.2.2.1 l)).length = x.length ∧ ∀ y ∈ m_compose x (m_letterOf p.2.2.1 l), 0 ≤ y ∧ y < p.1 := by
  obtain ⟨h1, h2⟩ := letter_ok hv hl
  refine ⟨compose_len _ _, fun y hy => ?_⟩
  have := compose_row (n := (m_letterOf p.2.2.1 l).length) (fun z hz => by have := hx z hz; omega) h2 y hy
  omega
theorem BfsOK.add {p : PP} {m : Nat} {L : List (List Int)} {D : List Int} (h : BfsOK p m L D) {y : List Int} {d : Int} (hn : y ∉ L) (hl : y.length = m) (hr : L.length < 3000) (hy : ∀ z ∈ y, 0 ≤ z ∧ z < p.1) (hd : 0 ≤ d ∧ d ≤ L.length) : BfsOK p m (L ++ [y]) (D ++ [d]) := by
  have hlen := h.len
  refine ⟨by rw [srtOf_snoc]; exact h.ok.add hn hl hr, by simp [hlen], fun x hx => ?_, fun j hj => ?_⟩
  · rcases List.mem_append.1 hx with hx | hx
    · exact h.row x hx
    · rw [List.mem_singleton.1 hx]; exact hy
  · by_cases e : j < D.length
    · rw [List.getElem_append_left e]; exact h.dep j e
    · simp only [List.length_append, List.length_singleton] at hj
      have : j = D.length := by omega
      subst this
      rw [List.getElem_append_right (by omega)]
      simp only [Nat.sub_self, List.getElem_cons_zero]
      omega
theorem bfs_start {p : PP} {s : List Int} (hs : s.length ≤ 20) (hr : ∀ y ∈ s, 0 ≤ y ∧ y < p.1) : BfsOK p s.length [s] [0] := by
  refine ⟨?_, rfl, fun x hx => by rw [List.mem_singleton.1 hx]; exact hr, fun j hj => ?_⟩
  · have := (searchOK_nil hs).add (s := s) (by simp) rfl (by simp)
    have e : srtOf [s] = m_ins [] (slotOf [] [] s) 0 := srtOf_snoc [] s
    rw [e]; exact this
  · simp only [List.length_singleton] at hj
    have : j = 0 := by omega
    subst this
    simp
theorem m_pos_neg {L : List (List Int)} {s : List Int} : m_pos L s ≥ 0 ↔ s ∈ L := by
  unfold m_pos
  split
  · rename_i h; exact ⟨fun _ => h, fun _ => by omega⟩
  · rename_i h; exact ⟨fun hh => by omega, fun hh => absurd hh h⟩
theorem p_sFrom (p : PP) (s : List Int) (h : m_validP p = true ∧ s.length ≤ 20 ∧ ∀ y ∈ s, 0 ≤ y ∧ y < p.1) : fnW tabW (look [(70, s_copyInts), (160, s_sAdd), (113, s_lettersOf), (124, s_applyL), (161, s_sIndex)]) s_sFrom Try.f139 (p, s, ()) (fun (z : SS) => z = m_search p.2.2.1 s) := by
  obtain ⟨hv, hs, hr⟩ := h
  have hV := valid hv
  have hfew := hV.few
  have hb0 := bfs_start hs hr
  have hsh : short s := by unfold short; omega
  obtain ⟨ls, hls⟩ : ∃ ls, m_letters (List.length p.2.2.1) = ls := ⟨_, rfl⟩
  refine Eq.mp (w_sFrom p s _) ⟨_, if_pos hsh, _, if_pos ⟨searchOK_nil hs, by show 0 ≤ 3000; omega⟩, ls, (if_pos (by show List.length p.2.2.1 ≤ 8; exact hfew.2)).trans (congrArg some hls), rfl, rfl, rfl, rfl, rfl, rfl, rfl, rfl, rfl, rfl, rfl, rfl, ?_⟩
  have e0 : m_ins [] (slotOf [] [] s) ((([] : List (List Int)).length : Nat) : Int) = srtOf [s] := (srtOf_snoc [] s).symm
  show WLoop _ ((0 : Int), p.1, p.2.1, p.2.2.1, false, false, [], [], [], [s], [(0 : Int)], m_ins [] (slotOf [] [] s) ((([] : List (List Int)).length : Nat) : Int), PUnit.unit)
  rw [e0]
  have hll : ls.length ≤ 16 := by rw [← hls, m_letters_len]; omega
  have hmem : ∀ l ∈ ls, isLetter (List.length p.2.2.1) l := fun l hl => mem_letters (hls ▸ hl)
  have hstart : bfsGo p.2.2.1 ls 3001 0 [s] [0] = m_bfs p.2.2.1 s := by unfold m_bfs; rw [hls]
  refine WLoop.mk (fun v => v.2.1 = p.1 ∧ v.2.2.1 = p.2.1 ∧ v.2.2.2.1 = p.2.2.1 ∧ v.2.2.2.2.2.1 = false ∧ ∃ k : Nat, v.1 = k ∧ k ≤ v.2.2.2.2.2.2.2.2.2.1.length ∧
      BfsOK p s.length v.2.2.2.2.2.2.2.2.2.1 v.2.2.2.2.2.2.2.2.2.2.1 ∧ v.2.2.2.2.2.2.2.2.2.2.2.1 = srtOf v.2.2.2.2.2.2.2.2.2.1 ∧
      bfsGo p.2.2.1 ls (3001 - k) k v.2.2.2.2.2.2.2.2.2.1 v.2.2.2.2.2.2.2.2.2.2.1 = m_bfs p.2.2.1 s) (fun v => 3001 - v.1.toNat)
    ⟨rfl, rfl, rfl, rfl, 0, rfl, by simp, hb0, rfl, hstart⟩ ?_
  rintro ⟨k', n1, n2, n3, b0, wh, x1, x2, x3, L0, D0, S0, ⟨⟩⟩ ⟨h1, h2, h3, h4, k, h5, h6, h7, h8, h9⟩
  dsimp only at h1 h2 h3 h4 h5 h6 h7 h8 h9
  subst h1 h2 h3 h4 h5 h8
  dsimp only
  have hL0 := h7.ok.few
  have hD0 := h7.len
  refine Br.dec (fun hl => ⟨rfl, rfl, rfl, rfl, rfl, rfl, rfl, rfl, rfl, rfl, rfl, rfl, ?_⟩) fun hl => ?_
  · have hk : k < L0.length := by omega
    have hkD : k < D0.length := by omega
    have hx : ∀ y ∈ L0[k], 0 ≤ y ∧ y < p.1 := h7.row _ (List.getElem_mem hk)
    have hxl : L0[k].length = s.length := h7.ok.len _ (List.getElem_mem hk)
    have hdk := h7.dep k hkD
    obtain ⟨f, hf⟩ : ∃ f, 3001 - k = f + 1 := ⟨3000 - k, by omega⟩
    have hgo : ∀ L' D' ok, bfsIn p.2.2.1 L0[k] D0[k] ls L0 D0 = (L', D', ok) → m_bfs p.2.2.1 s = if ok = true then bfsGo p.2.2.1 ls f (k + 1) L' D' else (L', D', false) := by
      intro L' D' ok he
      rw [← h9, hf, bfsGo, if_pos hk, getD_nat hk, List.getD_eq_getElem?_getD, List.getElem?_eq_getElem hkD]
      simp only [Option.getD_some]
      rw [he]
      cases ok <;> rfl
    refine WLoop.mk (fun v => v.2.1 = p.1 ∧ v.2.2.1 = p.2.1 ∧ v.2.2.2.1 = p.2.2.1 ∧ v.2.2.2.2.2.1 = false ∧ ∃ i : Nat, v.1 = i ∧ i ≤ ls.length ∧ BfsOK p s.length v.2.2.2.2.2.2.2.2.2.1 v.2.2.2.2.2.2.2.2.2.2.1 ∧
        v.2.2.2.2.2.2.2.2.2.2.2.1 = srtOf v.2.2.2.2.2.2.2.2.2.1 ∧ (∃ A, v.2.2.2.2.2.2.2.2.2.1 = L0 ++ A) ∧ (∃ A, v.2.2.2.2.2.2.2.2.2.2.1 = D0 ++ A) ∧
        bfsIn p.2.2.1 L0[k] D0[k] (ls.drop i) v.2.2.2.2.2.2.2.2.2.1 v.2.2.2.2.2.2.2.2.2.2.1 = bfsIn p.2.2.1 L0[k] D0[k] ls L0 D0) (fun v => ls.length - v.1.toNat)
      ⟨rfl, rfl, rfl, rfl, 0, rfl, Nat.zero_le _, h7, rfl, ⟨[], by simp⟩, ⟨[], by simp⟩, rfl⟩ ?_
    rintro ⟨i', m1, m2, m3, b1, wh1, y1, y2, y3, L, D, S, ⟨⟩⟩ ⟨g1, g2, g3, g4, i, g5, g6, g7, g8, ⟨A, g9⟩, ⟨A', g10⟩, g11⟩
    dsimp only at g1 g2 g3 g4 g5 g6 g7 g8 g9 g10 g11
    subst g1 g2 g3 g4 g5 g8
    dsimp only
    have hLf := g7.ok.few
    have hDl := g7.len
    rw [whole_row L, whole_row D, whole_row (srtOf L)]
    refine Br.dec (fun hli => ?_) fun hli => ?_
    · have hi : i < ls.length := by omega
      have hkL : k < L.length := by rw [g9, List.length_append]; omega
      have hLk : L[k] = L0[k] := by simp only [g9]; exact List.getElem_append_left hk
      have hkD2 : k < D.length := by rw [hDl]; exact hkL
      have hDk : D[k] = D0[k] := by simp only [g10]; exact List.getElem_append_left hkD
      have hlet := hmem _ (List.getElem_mem hi)
      obtain ⟨nl, nr⟩ := next_ok hV hx hlet
      rw [List.drop_eq_getElem_cons hi] at g11
      simp only [bfsIn] at g11
      refine ⟨⟨by omega, by omega⟩, L0[k], by rw [Int.toNat_natCast, Nat.zero_add, List.getElem?_eq_getElem hkL, hLk], _, idx_nat hi, _, if_pos ⟨hv, by show L0[k].length ≤ 20; omega, hx, hlet⟩, ?_⟩
      dsimp only
      have hyl : (m_compose L0[k] (m_letterOf p.2.2.1 ls[i])).length = s.length := by rw [nl, hxl]
      refine ⟨_, if_pos (by show SearchOK (m_compose L0[k] (m_letterOf p.2.2.1 ls[i])).length L (srtOf L); rw [hyl]; exact g7.ok), Br.dec (fun hin => ?_) fun hin => ?_⟩
      · have hin : m_compose L0[k] (m_letterOf p.2.2.1 ls[i]) ∈ L := m_pos_neg.1 hin
        rw [if_pos hin] at g11
        rw [wrap_nat (by omega)]
        exact ⟨rfl, rfl, rfl, rfl, rfl, rfl, rfl, rfl, rfl, rfl, rfl, rfl, ⟨rfl, rfl, rfl, rfl, i + 1, rfl, hi, g7, rfl, ⟨A, g9⟩, ⟨A', g10⟩, g11⟩, by omega⟩
      · have hin : m_compose L0[k] (m_letterOf p.2.2.1 ls[i]) ∉ L := fun hh => hin (m_pos_neg.2 hh)
        rw [if_neg hin] at g11
        refine ⟨fun hfull => ?_, fun hfull => ⟨⟨by omega, by omega⟩, D0[k], by rw [Int.toNat_natCast, Nat.zero_add, List.getElem?_eq_getElem hkD2, hDk], rfl, rfl, rfl, rfl, rfl, rfl, ?_⟩⟩
        · have hfull : L.length = 3000 := by
            have : (L.length : Int) = 3000 := by simpa using hfull
            omega
          rw [if_pos hfull] at g11
          have := hgo _ _ _ g11.symm
          rw [if_neg (by decide)] at this
          unfold m_search
          rw [this]
        · have hfull : L.length ≠ 3000 := by
            have : (L.length : Int) ≠ 3000 := by simpa using hfull
            omega
          rw [if_neg hfull] at g11
          rw [wrap_id (n := D0[k] + 1) (by omega) (by omega)]
          refine ⟨_, if_pos ⟨by show SearchOK (m_compose L0[k] (m_letterOf p.2.2.1 ls[i])).length L (srtOf L); rw [hyl]; exact g7.ok, by show D.length ≤ 3000; omega⟩, ?_⟩
          dsimp only
          rw [wrap_nat (by omega), ← srtOf_snoc]
          refine ⟨rfl, rfl, rfl, rfl, rfl, rfl, rfl, rfl, rfl, rfl, rfl, rfl, ⟨rfl, rfl, rfl, rfl, i + 1, rfl, hi, g7.add hin hyl (by omega) nr ⟨by omega, by omega⟩, rfl, ⟨A ++ [m_compose L0[k] (m_letterOf p.2.2.1 ls[i])], by rw [g9, List.append_assoc]⟩, ⟨A' ++ [D0[k] + 1], by rw [g10, List.append_assoc]⟩, g11⟩, by omega⟩
    · have : i = ls.length := by omega
      subst this
      rw [List.drop_length, bfsIn] at g11
      have := hgo _ _ _ g11.symm
      rw [if_pos rfl] at this
      rw [wrap_nat (by omega)]
      refine ⟨rfl, rfl, rfl, rfl, rfl, rfl, rfl, rfl, rfl, rfl, rfl, rfl, ⟨rfl, rfl, rfl, rfl, k + 1, rfl, by rw [g9, List.length_append]; omega, g7, rfl, ?_⟩, by omega⟩
      rw [show 3001 - (k + 1) = f by omega]
      exact this.symm
  · have hk : k = L0.length := by omega
    rw [whole_row L0, whole_row D0, whole_row (srtOf L0)]
    obtain ⟨f, hf⟩ : ∃ f, 3001 - k = f + 1 := ⟨3000 - k, by omega⟩
    rw [hf, bfsGo, if_neg (by omega)] at h9
    unfold m_search
    rw [← h9]
theorem sound_sFrom : Sound Try.prog 139 s_sFrom :=
  Sound.mkS tabWOK (envCons sound_copyInts (envConsM sound_sAdd (envCons sound_lettersOf (envCons sound_applyL (envCons sound_sIndex envNil))))) mixed Try.func139 (by kernel_rfl) (by kernel_rfl) fun x h => p_sFrom x.1 x.2.1 h
end Go.Proofs.Ytfghmbpogmcboaa

namespace Go.Proofs.Ytfghmbpogmcboaa
open Go.RowKit

noncomputable def m_tracked (p : PP) (t : List Int) : Bool := m_validP p && m_pointList p.1 t
noncomputable def m_patOK (p : PP) (t : List Int) : Bool := m_tracked p t && (m_bfs p.2.2.1 t).2.2
noncomputable abbrev s_trackedSet : Spec := mkS (.pair tPuzzle (.pair tL .unit)) .bool false true (fun x => shortP x.1 ∧ short x.2.1) (fun x => m_tracked x.1 x.2.1)
noncomputable def m_searchPat (p : PP) (t : List Int) : SS := if m_tracked p t = true then m_search p.2.2.1 t else ([], [], [], false, ())
noncomputable abbrev s_searchPat : Spec := mkS (.pair tPuzzle (.pair tL .unit)) (.pair tSearch (.pair .bool .unit)) true false (fun x => shortP x.1 ∧ short x.2.1) (fun x => (m_searchPat x.1 x.2.1, m_patOK x.1 x.2.1, ()))
noncomputable abbrev s_copyLists : Spec := mkS (.pair tLL .unit) tLL false true (fun x => shortLL x.1) (fun x => x.1)
noncomputable def m_build (p : PP) (t : List Int) : TT := if m_patOK p t = true then (t, (m_bfs p.2.2.1 t).1, (m_bfs p.2.2.1 t).2.1, ()) else ([], [], [], ())
noncomputable abbrev s_specBuild : Spec := mkS (.pair tPuzzle (.pair tL .unit)) (.pair tTable (.pair .bool .unit)) true true (fun x => shortP x.1 ∧ short x.2.1) (fun x => (m_build x.1 x.2.1, m_patOK x.1 x.2.1, ()))
noncomputable abbrev s_patterns : MSpec := mkM [some 3, none] [(false, .dat tI), (false, .dat .str), (false, .dat tLL), (false, .dat tL)] true [none, none, none] [xLL, rL, .dat .bool]
  (fun x => m_tracked (x.1, x.2.1, x.2.2.1, ()) x.2.2.2.1 = true) (fun x => (((m_build (x.1, x.2.1, x.2.2.1, ()) x.2.2.2.1).2.1, (m_build (x.1, x.2.1, x.2.2.1, ()) x.2.2.2.1).2.2.1, m_patOK (x.1, x.2.1, x.2.2.1, ()) x.2.2.2.1, ()), ()))
noncomputable abbrev s_reachPat : MSpec := mkM [some 3, none] [(false, .dat tI), (false, .dat .str), (false, .dat tLL), (false, .dat tL)] true [none, none, none] [xLL, rL, .dat .bool]
  (fun x => shortP (x.1, x.2.1, x.2.2.1, ()) ∧ short x.2.2.2.1) (fun x => (((m_build (x.1, x.2.1, x.2.2.1, ()) x.2.2.2.1).2.1, (m_build (x.1, x.2.1, x.2.2.1, ()) x.2.2.2.1).2.2.1, m_patOK (x.1, x.2.1, x.2.2.1, ()) x.2.2.2.1, ()), ()))
noncomputable abbrev s_implBuild : MSpec := mkM [some 3, none] [(false, .dat tI), (false, .dat .str), (false, .dat tLL), (false, .dat tL)] true [some 3, none] [rL, xLL, rL, .dat .bool]
  (fun x => shortP (x.1, x.2.1, x.2.2.1, ()) ∧ short x.2.2.2.1) (fun x => (((m_build (x.1, x.2.1, x.2.2.1, ()) x.2.2.2.1).1, (m_build (x.1, x.2.1, x.2.2.1, ()) x.2.2.2.1).2.1, (m_build (x.1, x.2.1, x.2.2.1, ()) x.2.2.2.1).2.2.1, m_patOK (x.1, x.2.1, x.2.2.1, ()) x.2.2.2.1, ()), ()))
noncomputable abbrev s_lawPLt : Spec := mkS (.pair tPuzzle (.pair tL .unit)) .bool false true (fun x => shortP x.1 ∧ short x.2.1) (fun _ => true)
theorem w_implTracked (p : Int × ByteArray × List (List Int) × Unit) (t : List Int) (P : Bool → Prop) : (∃ (y3 : Bool), s_validP.fn ((p.fst, p.2.fst, p.snd.2.fst, ()), ()) = some y3 ∧ Br y3 (∃ (y4 : Bool), s_pointList.fn (p.fst, t, ()) = some y4 ∧ P y4) (P false)) = fnW tab (look [(60, s_validP), (74, s_pointList)]) s_trackedSet Try.f140 (p, t, ()) P := by kernel_rfl
theorem w_specTracked (p : Int × ByteArray × List (List Int) × Unit) (t : List Int) (P : Bool → Prop) : (∃ (y3 : Bool), s_validP.fn ((p.fst, p.2.fst, p.snd.2.fst, ()), ()) = some y3 ∧ Br y3 (∃ (y4 : Bool), s_pointList.fn (p.fst, t, ()) = some y4 ∧ P y4) (P false)) = fnW tab (look [(56, s_validP), (68, s_pointList)]) s_trackedSet Try.f106 (p, t, ()) P := by kernel_rfl
theorem w_searchPat (p : Int × ByteArray × List (List Int) × Unit) (t : List Int) (P : ((List (List Int) × List Int × List Int × Bool × Unit) × Bool × Unit) → Prop) : (∃ (y3 : Bool),
  s_trackedSet.fn ((p.fst, p.2.fst, p.snd.2.fst, ()), t, ()) = some y3 ∧
    Br (!y3) (P ((List.take (0 : Nat) (List.drop (0 : Nat) []), List.take (0 : Nat) (List.drop (0 : Nat) []), List.take (0 : Nat) (List.drop (0 : Nat) []), false, ()), false, ()))
      (∃ (y4 : List (List Int) × List Int × List Int × Bool × PUnit),
        s_sFrom.fn ((p.fst, p.2.fst, p.snd.2.fst, ()), t, ()) = some y4 ∧
          ((P ((y4.fst, y4.2.fst, y4.snd.2.fst, y4.2.snd.2.fst, ()), y4.2.snd.2.fst, ()) ∧ P ((y4.fst, y4.2.fst, y4.snd.2.fst, y4.2.snd.2.fst, ()), y4.2.snd.2.fst, ())) ∧
              P ((y4.fst, y4.2.fst, y4.snd.2.fst, y4.2.snd.2.fst, ()), y4.2.snd.2.fst, ())) ∧
            (P ((y4.fst, y4.2.fst, y4.snd.2.fst, y4.2.snd.2.fst, ()), y4.2.snd.2.fst, ()) ∧ P ((y4.fst, y4.2.fst, y4.snd.2.fst, y4.2.snd.2.fst, ()), y4.2.snd.2.fst, ())) ∧
              P ((y4.fst, y4.2.fst, y4.snd.2.fst, y4.2.snd.2.fst, ()), y4.2.snd.2.fst, ()))) = fnW tab (look [(106, s_trackedSet), (139, s_sFrom)]) s_searchPat Try.f95 (p, t, ()) P := by kernel_rfl
theorem w_copyLists (l : List (List Int)) (P : List (List Int) → Prop) : ((0 : Nat) = (0 : Nat) ∧
  (0 : Nat) = ([] : List Int).length ∧
    WLoop
      (fun (v2 : Int × List (List Int) × PUnit) (k3 : Int × List (List Int) × PUnit → Prop) =>
        Br (decide (v2.fst < (↑l.length : Int)))
          (∃ (y4 : List Int),
            idx l v2.fst = some y4 ∧
              ∃ (y5 : List Int),
                s_copyInts.fn (y4, ()) = some y5 ∧
                  (0 : Nat) = (0 : Nat) ∧
                    v2.2.fst.length = v2.2.fst.length ∧
                      v2.2.fst.length + (List.take (1 : Nat) (List.drop (0 : Nat) [y5])).length ≤ maxRow ∧
                        (0 : Nat) = (0 : Nat) ∧
                          (v2.2.fst ++ List.take (1 : Nat) (List.drop (0 : Nat) [y5])).length = (v2.2.fst ++ List.take (1 : Nat) (List.drop (0 : Nat) [y5])).length ∧
                            k3 (IntKind.i64.wrap (v2.fst + (1 : Int)), v2.2.fst ++ List.take (1 : Nat) (List.drop (0 : Nat) [y5]), ()))
          (P (List.take v2.2.fst.length (List.drop ((0 : Nat)) v2.2.fst))))
      ((0 : Int), [], PUnit.unit)) = fnW tab (look [(70, s_copyInts)]) s_copyLists Try.f96 (l, ()) P := by kernel_rfl
theorem w_specBuild (p : Int × ByteArray × List (List Int) × Unit) (t : List Int) (P : ((List Int × List (List Int) × List Int × Unit) × Bool × Unit) → Prop) : (∃ (y3 : (List (List Int) × List Int × List Int × Bool × PUnit) × Bool × PUnit),
  s_searchPat.fn ((p.fst, p.2.fst, p.snd.2.fst, ()), t, ()) = some y3 ∧
    Br (!y3.2.fst) (P ((List.take (0 : Nat) (List.drop (0 : Nat) []), List.take (0 : Nat) (List.drop (0 : Nat) []), List.take (0 : Nat) (List.drop (0 : Nat) []), ()), false, ()))
      (∃ (y4 : List Int),
        s_copyInts.fn (t, ()) = some y4 ∧
          ∃ (y5 : List (List Int)), s_copyLists.fn (y3.1.fst, ()) = some y5 ∧ ∃ (y6 : List Int), s_copyInts.fn (y3.fst.2.fst, ()) = some y6 ∧ P ((y4, y5, y6, ()), true, ()))) = fnW tab (look [(95, s_searchPat), (70, s_copyInts), (96, s_copyLists)]) s_specBuild Try.f42 (p, t, ()) P := by kernel_rfl
theorem w_patterns (n : Int) (str : ByteArray) (g : List (List Int)) (t : List Int) (P : ((List (List Int) × List Int × Bool × Unit) × Unit) → Prop) : (∃ (y5 : (List Int × PUnit) × PUnit),
  s_cloneM.fn (t, ()) = some y5 ∧
    ∃ (y6 : ByteArray),
      s_stateKey.fn (t, ()) = some y6 ∧
        ∃ (y7 : List Int),
          s_letters.fn ((↑g.length : Int), ()) = some y7 ∧
            (0 : Nat) = (0 : Nat) ∧
              (1 : Nat) = [List.take y5.1.fst.length (List.drop (0 : Nat) y5.1.fst)].length ∧
                (0 : Nat) = (0 : Nat) ∧
                  (1 : Nat) = [(0 : Int)].length ∧
                    (0 : Nat) = (0 : Nat) ∧
                      (0 : Nat) = ([] : List Int).length ∧
                        WLoop
                          (fun (v8 : Int × Int × ByteArray × List (List Int) × List (List Int) × List (List Int) × List Int × (ByteArray → Option Bool) × PUnit)
                              (k9 : Int × Int × ByteArray × List (List Int) × List (List Int) × List (List Int) × List Int × (ByteArray → Option Bool) × PUnit → Prop) =>
                            Br (decide (v8.fst < (↑y7.length : Int)))
                              (∃ (y10 : Int),
                                idx y7 v8.fst = some y10 ∧
                                  ∃ (y11 : List Int),
                                    s_letterOf.fn (v8.2.snd.2.fst, y10, ()) = some y11 ∧
                                      (0 : Nat) = (0 : Nat) ∧
                                        v8.snd.2.snd.2.fst.length = v8.snd.2.snd.2.fst.length ∧
                                          v8.snd.2.snd.2.fst.length + (List.take (1 : Nat) (List.drop (0 : Nat) [y11])).length ≤ maxRow ∧
                                            (0 : Nat) = (0 : Nat) ∧
                                              v8.2.snd.2.snd.2.fst.length = v8.2.snd.2.snd.2.fst.length ∧
                                                (0 : Nat) = (0 : Nat) ∧
                                                  v8.snd.2.snd.2.snd.2.fst.length = v8.snd.2.snd.2.snd.2.fst.length ∧
                                                    (0 : Nat) = (0 : Nat) ∧
                                                      (v8.snd.2.snd.2.fst ++ List.take (1 : Nat) (List.drop (0 : Nat) [y11])).length =
                                                          (v8.snd.2.snd.2.fst ++ List.take (1 : Nat) (List.drop (0 : Nat) [y11])).length ∧
                                                        k9
                                                          (IntKind.i64.wrap (v8.fst + (1 : Int)), v8.2.fst, v8.snd.2.fst, v8.2.snd.2.fst,
                                                            v8.snd.2.snd.2.fst ++ List.take (1 : Nat) (List.drop (0 : Nat) [y11]), v8.2.snd.2.snd.2.fst, v8.snd.2.snd.2.snd.2.fst,
                                                            v8.2.snd.2.snd.2.snd.2.fst, ()))
                              ((0 : Nat) = (0 : Nat) ∧
                                v8.2.snd.2.snd.2.fst.length = v8.2.snd.2.snd.2.fst.length ∧
                                  (0 : Nat) = (0 : Nat) ∧
                                    v8.snd.2.snd.2.snd.2.fst.length = v8.snd.2.snd.2.snd.2.fst.length ∧
                                      (0 : Nat) = (0 : Nat) ∧
                                        v8.snd.2.snd.2.fst.length = v8.snd.2.snd.2.fst.length ∧
                                          WLoop
                                            (fun (v10 : Int × List (List Int) × List (List Int) × List Int × (ByteArray → Option Bool) × PUnit)
                                                (k11 : Int × List (List Int) × List (List Int) × List Int × (ByteArray → Option Bool) × PUnit → Prop) =>
                                              Br (decide (v10.fst < (↑v10.snd.2.fst.length : Int)))
                                                ((0 : Nat) = (0 : Nat) ∧
                                                  v10.snd.2.fst.length = v10.snd.2.fst.length ∧
                                                    (0 : Nat) = (0 : Nat) ∧
                                                      v10.2.snd.2.fst.length = v10.2.snd.2.fst.length ∧
                                                        (0 : Nat) = (0 : Nat) ∧
                                                          v10.2.fst.length = v10.2.fst.length ∧
                                                            (0 : Nat) = (0 : Nat) ∧
                                                              v10.2.fst.length = v10.2.fst.length ∧
                                                                WLoop
                                                                  (fun (v12 : Int × List (List Int) × List (List Int) × List Int × (ByteArray → Option Bool) × PUnit)
                                                                      (k13 : Int × List (List Int) × List (List Int) × List Int × (ByteArray → Option Bool) × PUnit → Prop) =>
                                                                    Br (decide (v12.fst < (↑v10.2.fst.length : Int)))
                                                                      (((0 : Int) ≤ v12.fst ∧ v12.fst < (↑v12.2.fst.length : Int)) ∧
                                                                        ∃ (y14 : List Int),
                                                                          v12.2.fst[(0 : Nat) + v12.fst.toNat]? = some y14 ∧
                                                                            ((0 : Int) ≤ v10.fst ∧ v10.fst < (↑v12.snd.2.fst.length : Int)) ∧
                                                                              ∃ (y15 : List Int),
                                                                                v12.snd.2.fst[(0 : Nat) + v10.fst.toNat]? = some y15 ∧
                                                                                  ∃ (y16 : (List Int × PUnit) × PUnit),
                                                                                    s_pickedM.fn (y14, y15, ()) = some y16 ∧
                                                                                      ∃ (y17 : ByteArray),
                                                                                        s_stateKey.fn (List.take y16.1.fst.length (List.drop (0 : Nat) y16.1.fst), ()) = some y17 ∧
                                                                                          Br (!(v12.2.snd.2.snd.fst y17).getD false)
                                                                                            (Br ((↑v12.snd.2.fst.length : Int) == (3000 : Int))
                                                                                              (P
                                                                                                ((List.take (0 : Nat) (List.drop (0 : Nat) []), List.take (0 : Nat) (List.drop (0 : Nat) []), false,
                                                                                                    ()),
                                                                                                  ()))
                                                                                              ((0 : Nat) = (0 : Nat) ∧
                                                                                                v12.snd.2.fst.length = v12.snd.2.fst.length ∧
                                                                                                  v12.snd.2.fst.length +
                                                                                                        (List.take (1 : Nat)
                                                                                                            (List.drop (0 : Nat) [List.take y16.1.fst.length (List.drop (0 : Nat) y16.1.fst)])).length ≤
                                                                                                      maxRow ∧
                                                                                                    ((0 : Int) ≤ v10.fst ∧ v10.fst < (↑v12.2.snd.2.fst.length : Int)) ∧
                                                                                                      ∃ (y18 : Int),
                                                                                                        v12.2.snd.2.fst[(0 : Nat) + v10.fst.toNat]? = some y18 ∧
                                                                                                          (0 : Nat) = (0 : Nat) ∧
                                                                                                            v12.2.snd.2.fst.length = v12.2.snd.2.fst.length ∧
                                                                                                              v12.2.snd.2.fst.length +
                                                                                                                    (List.take (1 : Nat)
                                                                                                                        (List.drop (0 : Nat) [IntKind.i64.wrap (y18 + (1 : Int))])).length ≤
                                                                                                                  maxRow ∧
                                                                                                                (0 : Nat) = (0 : Nat) ∧
                                                                                                                  (v12.snd.2.fst ++
                                                                                                                          List.take (1 : Nat)
                                                                                                                            (List.drop (0 : Nat)
                                                                                                                              [List.take y16.1.fst.length (List.drop (0 : Nat) y16.1.fst)])).length =
                                                                                                                      (v12.snd.2.fst ++
                                                                                                                          List.take (1 : Nat)
                                                                                                                            (List.drop (0 : Nat)
                                                                                                                              [List.take y16.1.fst.length (List.drop (0 : Nat) y16.1.fst)])).length ∧
                                                                                                                    (0 : Nat) = (0 : Nat) ∧
                                                                                                                      (v12.2.snd.2.fst ++
                                                                                                                              List.take (1 : Nat)
                                                                                                                                (List.drop (0 : Nat) [IntKind.i64.wrap (y18 + (1 : Int))])).length =
                                                                                                                          (v12.2.snd.2.fst ++
                                                                                                                              List.take (1 : Nat)
                                                                                                                                (List.drop (0 : Nat) [IntKind.i64.wrap (y18 + (1 : Int))])).length ∧
                                                                                                                        (0 : Nat) = (0 : Nat) ∧
                                                                                                                          v12.2.fst.length = v12.2.fst.length ∧
                                                                                                                            (0 : Nat) = (0 : Nat) ∧
                                                                                                                              v12.2.fst.length = v12.2.fst.length ∧
                                                                                                                                k13
                                                                                                                                  (IntKind.i64.wrap (v12.fst + (1 : Int)), v12.2.fst,
                                                                                                                                    v12.snd.2.fst ++
                                                                                                                                      List.take (1 : Nat)
                                                                                                                                        (List.drop (0 : Nat)
                                                                                                                                          [List.take y16.1.fst.length (List.drop (0 : Nat) y16.1.fst)]),
                                                                                                                                    v12.2.snd.2.fst ++
                                                                                                                                      List.take (1 : Nat)
                                                                                                                                        (List.drop (0 : Nat) [IntKind.i64.wrap (y18 + (1 : Int))]),
                                                                                                                                    upd1 v12.snd.2.snd.2.fst y17 true, ())))
                                                                                            ((0 : Nat) = (0 : Nat) ∧
                                                                                              v12.snd.2.fst.length = v12.snd.2.fst.length ∧
                                                                                                (0 : Nat) = (0 : Nat) ∧
                                                                                                  v12.2.snd.2.fst.length = v12.2.snd.2.fst.length ∧
                                                                                                    (0 : Nat) = (0 : Nat) ∧
                                                                                                      v12.2.fst.length = v12.2.fst.length ∧
                                                                                                        (0 : Nat) = (0 : Nat) ∧
                                                                                                          v12.2.fst.length = v12.2.fst.length ∧
                                                                                                            k13
                                                                                                              (IntKind.i64.wrap (v12.fst + (1 : Int)), v12.2.fst, v12.snd.2.fst, v12.2.snd.2.fst,
                                                                                                                v12.snd.2.snd.2.fst, ())))
                                                                      ((0 : Nat) = (0 : Nat) ∧
                                                                        v12.snd.2.fst.length = v12.snd.2.fst.length ∧
                                                                          (0 : Nat) = (0 : Nat) ∧
                                                                            v12.2.snd.2.fst.length = v12.2.snd.2.fst.length ∧
                                                                              (0 : Nat) = (0 : Nat) ∧
                                                                                v12.2.fst.length = v12.2.fst.length ∧
                                                                                  k11 (IntKind.i64.wrap (v10.fst + (1 : Int)), v12.2.fst, v12.snd.2.fst, v12.2.snd.2.fst, v12.snd.2.snd.2.fst, ())))
                                                                  ((0 : Int), v10.2.fst, v10.snd.2.fst, v10.2.snd.2.fst, v10.snd.2.snd.2.fst, PUnit.unit))
                                                (P
                                                  ((List.take v10.snd.2.fst.length (List.drop ((0 : Nat)) v10.snd.2.fst), List.take v10.2.snd.2.fst.length (List.drop ((0 : Nat)) v10.2.snd.2.fst),
                                                      true, ()),
                                                    ())))
                                            ((0 : Int), v8.snd.2.snd.2.fst, v8.2.snd.2.snd.2.fst, v8.snd.2.snd.2.snd.2.fst, v8.2.snd.2.snd.2.snd.2.fst, PUnit.unit)))
                          ((0 : Int), n, str, g, [], [List.take y5.1.fst.length (List.drop (0 : Nat) y5.1.fst)], [(0 : Int)], upd1 (fun (_ : ByteArray) => none) y6 true, PUnit.unit)) = fnMW (tabM [weakBase + 10]) (look [(76, s_cloneM), (78, s_stateKey), (64, s_letters), (130, s_letterOf), (77, s_pickedM)]) s_patterns Try.f141 (n, str, g, t, ()) P := by kernel_rfl
theorem w_reachPat (n : Int) (str : ByteArray) (g : List (List Int)) (t : List Int) (P : ((List (List Int) × List Int × Bool × Unit) × Unit) → Prop) : (∃ (y5 : Bool),
  s_trackedSet.fn ((n, str, g, ()), t, ()) = some y5 ∧
    Br (!y5) (P ((List.take (0 : Nat) (List.drop (0 : Nat) []), List.take (0 : Nat) (List.drop (0 : Nat) []), false, ()), ()))
      (∃ (y6 : (List (List Int) × List Int × Bool × PUnit) × PUnit),
        s_patterns.fn (n, str, g, t, ()) = some y6 ∧
          P ((List.take y6.1.fst.length (List.drop (0 : Nat) y6.1.fst), List.take y6.fst.2.fst.length (List.drop (0 : Nat) y6.fst.2.fst), y6.1.snd.2.fst, ()), ()))) = fnMW tabT (look [(140, s_trackedSet), (141, s_patterns)]) s_reachPat Try.f97 (n, str, g, t, ()) P := by kernel_rfl
theorem w_implBuild (n : Int) (str : ByteArray) (g : List (List Int)) (t : List Int) (P : ((List Int × List (List Int) × List Int × Bool × Unit) × Unit) → Prop) : (∃ (y5 : (List (List Int) × List Int × Bool × PUnit) × PUnit),
  s_reachPat.fn (n, str, g, t, ()) = some y5 ∧
    Br (!y5.1.snd.2.fst) (P ((List.take (0 : Nat) (List.drop (0 : Nat) []), List.take (0 : Nat) (List.drop (0 : Nat) []), List.take (0 : Nat) (List.drop (0 : Nat) []), false, ()), ()))
      (∃ (y6 : (List Int × PUnit) × PUnit),
        s_cloneM.fn (t, ()) = some y6 ∧
          P
            ((List.take y6.1.fst.length (List.drop (0 : Nat) y6.1.fst), List.take y5.1.fst.length (List.drop (0 : Nat) y5.1.fst), List.take y5.fst.2.fst.length (List.drop (0 : Nat) y5.fst.2.fst),
                true, ()),
              ()))) = fnMW tabT (look [(97, s_reachPat), (76, s_cloneM)]) s_implBuild Try.f43 (n, str, g, t, ()) P := by kernel_rfl
theorem w_lawBuild (p : Int × ByteArray × List (List Int) × Unit) (t : List Int) (P : Bool → Prop) : (Br (decide ((↑t.length : Int) > (1048576 : Int))) (P true)
  (∃ (y3 : Int),
    s_szP.fn ((p.fst, p.2.fst, p.snd.2.fst, ()), (1048576 : Int), ()) = some y3 ∧
      Br (decide (y3 < (0 : Int))) (P true)
        (∃ (y4 : (Int × ByteArray × List (List Int) × PUnit) × PUnit),
          s_toPuzzlem.fn (p.fst, p.2.fst, p.snd.2.fst, ()) = some y4 ∧
            ∃ (y5 : (List Int × PUnit) × PUnit),
              s_toLm.fn (t, ()) = some y5 ∧
                ∃ (y6 : (List Int × List (List Int) × List Int × PUnit) × Bool × PUnit),
                  s_specBuild.fn ((y4.1.fst, y4.fst.2.fst, List.take y4.1.snd.2.fst.length (List.drop (0 : Nat) y4.1.snd.2.fst), ()), List.take y5.1.fst.length (List.drop (0 : Nat) y5.1.fst), ()) =
                      some y6 ∧
                    ∃ (y7 : (Int × ByteArray × List (List Int) × PUnit) × PUnit),
                      s_toPuzzlem.fn (p.fst, p.2.fst, p.snd.2.fst, ()) = some y7 ∧
                        ∃ (y8 : (List Int × PUnit) × PUnit),
                          s_toLm.fn (t, ()) = some y8 ∧
                            ∃ (y9 : (List Int × List (List Int) × List Int × Bool × PUnit) × PUnit),
                              s_implBuild.fn
                                    (y7.1.fst, y7.fst.2.fst, List.take y7.1.snd.2.fst.length (List.drop (0 : Nat) y7.1.snd.2.fst), List.take y8.1.fst.length (List.drop (0 : Nat) y8.1.fst), ()) =
                                  some y9 ∧
                                ∃ (y10 : Bool),
                                  s_eqTable.fn
                                        ((List.take y9.1.fst.length (List.drop (0 : Nat) y9.1.fst), List.take y9.fst.2.fst.length (List.drop (0 : Nat) y9.fst.2.fst),
                                            List.take y9.1.snd.2.fst.length (List.drop (0 : Nat) y9.1.snd.2.fst), ()),
                                          (y6.1.fst, y6.fst.2.fst, y6.1.snd.2.fst, ()), ()) =
                                      some y10 ∧
                                    Br (!y10) (P false)
                                      (Br (!y9.fst.2.snd.2.fst == y6.2.fst) (P false)
                                        (∃ (y11 : Int × ByteArray × List (List Int) × PUnit),
                                          s_toP.fn ((p.fst, p.2.fst, p.snd.2.fst, ()), ()) = some y11 ∧
                                            ∃ (y12 : Bool),
                                              s_eqP.fn ((y7.1.fst, y7.fst.2.fst, List.take y7.1.snd.2.fst.length (List.drop (0 : Nat) y7.1.snd.2.fst), ()), y11, ()) = some y12 ∧
                                                Br (!y12) (P false)
                                                  (∃ (y13 : (List Int × PUnit) × PUnit),
                                                    s_toLm.fn (t, ()) = some y13 ∧
                                                      ∃ (y14 : Bool),
                                                        s_equalInts.fn (List.take y8.1.fst.length (List.drop (0 : Nat) y8.1.fst), List.take y13.1.fst.length (List.drop (0 : Nat) y13.1.fst), ()) =
                                                            some y14 ∧
                                                          Br (!y14) (P false)
                                                            ((0 : Nat) = (0 : Nat) ∧
                                                              y7.1.snd.2.fst.length = y7.1.snd.2.fst.length ∧
                                                                ∃ (y15 : (Int × PUnit) × List (List Int) × PUnit),
                                                                  s_markPuzzle.fn (y7.1.fst, y7.fst.2.fst, y7.1.snd.2.fst, (1 : Int), ()) = some y15 ∧
                                                                    (y15.2.fst.length = y7.1.snd.2.fst.length ∧ y7.1.snd.2.fst.length = y7.1.snd.2.fst.length) ∧
                                                                      (0 : Nat) = (0 : Nat) ∧
                                                                        y8.1.fst.length = y8.1.fst.length ∧
                                                                          ∃ (y16 : (Int × PUnit) × List Int × PUnit),
                                                                            s_markL.fn (y8.1.fst, y15.1.fst, ()) = some y16 ∧
                                                                              (y16.2.fst.length = y8.1.fst.length ∧ y8.1.fst.length = y8.1.fst.length) ∧
                                                                                Br (decide (y16.1.fst < (0 : Int))) (P false)
                                                                                  (∃ (y17 : Bool),
                                                                                    s_eqTable.fn
                                                                                          ((List.take y9.1.fst.length (List.drop (0 : Nat) y9.1.fst),
                                                                                              List.take y9.fst.2.fst.length (List.drop (0 : Nat) y9.fst.2.fst),
                                                                                              List.take y9.1.snd.2.fst.length (List.drop (0 : Nat) y9.1.snd.2.fst), ()),
                                                                                            (y6.1.fst, y6.fst.2.fst, y6.1.snd.2.fst, ()), ()) =
                                                                                        some y17 ∧
                                                                                      Br (!y17) (P false)
                                                                                        (Br (!y9.fst.2.snd.2.fst == y6.2.fst) (P false)
                                                                                          ((0 : Nat) = (0 : Nat) ∧
                                                                                            y9.1.fst.length = y9.1.fst.length ∧
                                                                                              (0 : Nat) = (0 : Nat) ∧
                                                                                                y9.fst.2.fst.length = y9.fst.2.fst.length ∧
                                                                                                  (0 : Nat) = (0 : Nat) ∧
                                                                                                    y9.1.snd.2.fst.length = y9.1.snd.2.fst.length ∧
                                                                                                      ∃ (y18 : (Int × PUnit) × List Int × List (List Int) × List Int × PUnit),
                                                                                                        s_markTable.fn (y9.1.fst, y9.fst.2.fst, y9.1.snd.2.fst, (1 : Int), ()) = some y18 ∧
                                                                                                          (y18.2.fst.length = y9.1.fst.length ∧ y9.1.fst.length = y9.1.fst.length) ∧
                                                                                                            (y18.snd.2.fst.length = y9.fst.2.fst.length ∧ y9.fst.2.fst.length = y9.fst.2.fst.length) ∧
                                                                                                              (y18.2.snd.2.fst.length = y9.1.snd.2.fst.length ∧
                                                                                                                  y9.1.snd.2.fst.length = y9.1.snd.2.fst.length) ∧
                                                                                                                ∃ (y19 : Int),
                                                                                                                  s_heldTable.fn
                                                                                                                        ((List.take y9.1.fst.length (List.drop (0 : Nat) y18.2.fst),
                                                                                                                            List.take y9.fst.2.fst.length (List.drop (0 : Nat) y18.snd.2.fst),
                                                                                                                            List.take y9.1.snd.2.fst.length (List.drop (0 : Nat) y18.2.snd.2.fst), ()),
                                                                                                                          (1 : Int), ()) =
                                                                                                                      some y19 ∧
                                                                                                                    Br (decide (y19 < (0 : Int))) (P false)
                                                                                                                      (Br (y19 != y18.1.fst) (P false)
                                                                                                                        (∃ (y20 : (Int × ByteArray × List (List Int) × PUnit) × PUnit),
                                                                                                                          s_toPuzzlem.fn (p.fst, p.2.fst, p.snd.2.fst, ()) = some y20 ∧
                                                                                                                            ∃ (y21 : (List Int × PUnit) × PUnit),
                                                                                                                              s_toLm.fn (t, ()) = some y21 ∧
                                                                                                                                ∃ (y22 :
                                                                                                                                  (List Int × List (List Int) × List Int × Bool × PUnit) × PUnit),
                                                                                                                                  s_implBuild.fn
                                                                                                                                        (y20.1.fst, y20.fst.2.fst,
                                                                                                                                          List.take y20.1.snd.2.fst.length
                                                                                                                                            (List.drop (0 : Nat) y20.1.snd.2.fst),
                                                                                                                                          List.take y21.1.fst.length (List.drop (0 : Nat) y21.1.fst),
                                                                                                                                          ()) =
                                                                                                                                      some y22 ∧
                                                                                                                                    ∃ (y23 : Bool),
                                                                                                                                      s_eqTable.fn
                                                                                                                                            ((List.take y22.1.fst.length
                                                                                                                                                  (List.drop (0 : Nat) y22.1.fst),
                                                                                                                                                List.take y22.fst.2.fst.length
                                                                                                                                                  (List.drop (0 : Nat) y22.fst.2.fst),
                                                                                                                                                List.take y22.1.snd.2.fst.length
                                                                                                                                                  (List.drop (0 : Nat) y22.1.snd.2.fst),
                                                                                                                                                ()),
                                                                                                                                              (y6.1.fst, y6.fst.2.fst, y6.1.snd.2.fst, ()), ()) =
                                                                                                                                          some y23 ∧
                                                                                                                                        Br (!y23) (P false)
                                                                                                                                          (Br (!y22.fst.2.snd.2.fst == y6.2.fst) (P false)
                                                                                                                                            (∃ (y24 : Int),
                                                                                                                                              s_heldTable.fn
                                                                                                                                                    ((List.take y9.1.fst.length
                                                                                                                                                          (List.drop (0 : Nat) y18.2.fst),
                                                                                                                                                        List.take y9.fst.2.fst.length
                                                                                                                                                          (List.drop (0 : Nat) y18.snd.2.fst),
                                                                                                                                                        List.take y9.1.snd.2.fst.length
                                                                                                                                                          (List.drop (0 : Nat) y18.2.snd.2.fst),
                                                                                                                                                        ()),
                                                                                                                                                      (1 : Int), ()) =
                                                                                                                                                  some y24 ∧
                                                                                                                                                Br (decide (y24 < (0 : Int))) (P false)
                                                                                                                                                  (Br (y24 != y18.1.fst) (P false)
                                                                                                                                                    (P true)))))))))))))))) = fnW tab (look [(14, s_szP), (42, s_specBuild), (43, s_implBuild), (16, ASpec.b s_toP s_toPuzzlem), (26, ASpec.b s_toL s_toLm), (28, s_eqTable), (19, s_eqP), (18, s_equalInts), (20, s_markPuzzle), (21, s_markL), (29, s_markTable), (30, s_heldTable)]) s_lawPLt Try.f9 (p, t, ()) P := by kernel_rfl
theorem bfsIn_ok {p : PP} (hV : Valid p) {m : Nat} {x : List Int} {d : Int} (hx : ∀ y ∈ x, 0 ≤ y ∧ y < p.1) (hxl : x.length = m) : ∀ (ls : List Int) (L : List (List Int)) (D : List Int), (∀ l ∈ ls, isLetter (List.length p.2.2.1) l) →
    BfsOK p m L D → (0 ≤ d ∧ d < L.length) → BfsOK p m (bfsIn p.2.2.1 x d ls L D).1 (bfsIn p.2.2.1 x d ls L D).2.1 ∧ (∃ A, (bfsIn p.2.2.1 x d ls L D).1 = L ++ A) ∧ (∃ A, (bfsIn p.2.2.1 x d ls L D).2.1 = D ++ A)
  | [], L, D, _, h, _ => ⟨h, ⟨[], by simp [bfsIn]⟩, ⟨[], by simp [bfsIn]⟩⟩
  | l :: ls, L, D, hl, h, hd => by
    obtain ⟨n1, n2⟩ := next_ok hV hx (hl l (by simp))
    have hl' : ∀ l ∈ ls, isLetter (List.length p.2.2.1) l := fun l' h' => hl l' (List.mem_cons_of_mem _ h')
    simp only [bfsIn]
    split
    · exact bfsIn_ok hV hx hxl ls L D hl' h hd
    · rename_i hn
      split
      · exact ⟨h, ⟨[], by simp⟩, ⟨[], by simp⟩⟩
      · rename_i hf
        have hfew := h.ok.few
        obtain ⟨k1, ⟨A, k2⟩, ⟨A', k3⟩⟩ := bfsIn_ok hV hx hxl ls (L ++ [m_compose x (m_letterOf p.2.2.1 l)]) (D ++ [d + 1]) hl' (h.add hn (by rw [n1, hxl]) (by omega) n2 ⟨by omega, by omega⟩) ⟨hd.1, by rw [List.length_append]; omega⟩
        exact ⟨k1, ⟨_ :: A, by rw [k2, List.append_assoc]; rfl⟩, ⟨_ :: A', by rw [k3, List.append_assoc]; rfl⟩⟩
theorem bfsGo_ok {p : PP} (hV : Valid p) {m : Nat} {ls : List Int} (hl : ∀ l ∈ ls, isLetter (List.length p.2.2.1) l) : ∀ (f k : Nat) (L : List (List Int)) (D : List Int), BfsOK p m L D →
    BfsOK p m (bfsGo p.2.2.1 ls f k L D).1 (bfsGo p.2.2.1 ls f k L D).2.1 ∧ (∃ A, (bfsGo p.2.2.1 ls f k L D).1 = L ++ A)
  | 0, k, L, D, h => ⟨h, ⟨[], by simp [bfsGo]⟩⟩
  | f + 1, k, L, D, h => by
    simp only [bfsGo]
    split
    · rename_i hk
      have hkD : k < D.length := by rw [h.len]; exact hk
      have hd := h.dep k hkD
      have e : D.getD k 0 = D[k] := by rw [List.getD_eq_getElem?_getD, List.getElem?_eq_getElem hkD]; rfl
      rw [getD_nat hk, e]
      obtain ⟨k1, ⟨A, k2⟩, _⟩ := bfsIn_ok hV (h.row _ (List.getElem_mem hk)) (h.ok.len _ (List.getElem_mem hk)) (d := D[k]) ls L D hl h ⟨by omega, by omega⟩
      split
      · rename_i L' D' he
        rw [he] at k1 k2
        obtain ⟨g1, ⟨B, g2⟩⟩ := bfsGo_ok hV hl f (k + 1) L' D' k1
        have k2 : L' = L ++ A := k2
        exact ⟨g1, ⟨A ++ B, by rw [g2, k2, List.append_assoc]⟩⟩
      · rename_i L' D' he
        rw [he] at k1 k2
        exact ⟨k1, ⟨A, k2⟩⟩
    · exact ⟨h, ⟨[], by simp⟩⟩
theorem bfs_ok {p : PP} {s : List Int} (hv : m_validP p = true) (hs : s.length ≤ 20) (hr : ∀ y ∈ s, 0 ≤ y ∧ y < p.1) : BfsOK p s.length (m_bfs p.2.2.1 s).1 (m_bfs p.2.2.1 s).2.1 ∧ ∃ A, (m_bfs p.2.2.1 s).1 = s :: A :=
  bfsGo_ok (valid hv) (fun _ hl => mem_letters hl) _ _ _ _ (bfs_start hs hr)
theorem tracked_iff {p : PP} {t : List Int} : m_tracked p t = true ↔ m_validP p = true ∧ m_pointList p.1 t = true := by
  unfold m_tracked; rw [Bool.and_eq_true]
theorem tracked_row {p : PP} {t : List Int} (h : m_tracked p t = true) : t.length ≤ 20 ∧ ∀ y ∈ t, 0 ≤ y ∧ y < p.1 := by
  obtain ⟨h1, h2⟩ := tracked_iff.1 h
  have hn := (valid h1).n
  obtain ⟨h3, h4⟩ := dec_iff.1 h2
  have hy : ∀ y ∈ t, 0 ≤ y ∧ y < p.1 := fun y hy => by
    obtain ⟨j, hj, rfl⟩ := List.mem_iff_getElem.1 hy
    have := h4 j hj hj
    omega
  refine ⟨?_, hy⟩
  have h5 := pl_len h4 (t.length - 1) (by omega)
  have h6 := hy _ (List.getElem_mem (show t.length - 1 < t.length by omega))
  omega
theorem pat_ok {p : PP} {t : List Int} (h : m_tracked p t = true) : BfsOK p t.length (m_bfs p.2.2.1 t).1 (m_bfs p.2.2.1 t).2.1 := (bfs_ok (tracked_iff.1 h).1 (tracked_row h).1 (tracked_row h).2).1
theorem patOK_iff {p : PP} {t : List Int} : m_patOK p t = true ↔ m_tracked p t = true ∧ (m_bfs p.2.2.1 t).2.2 = true := by
  unfold m_patOK; rw [Bool.and_eq_true]
theorem bfs_short {p : PP} {m : Nat} {L : List (List Int)} {D : List Int} (h : BfsOK p m L D) : shortLL L ∧ short D := by
  have h1 := h.ok.few
  have h2 := h.ok.short
  have h3 := h.len
  refine ⟨⟨by omega, fun x hx => ?_⟩, by unfold short; omega⟩
  have := h.ok.len x hx
  unfold short; omega
theorem build_short {p : PP} {t : List Int} : shortT (m_build p t) := by
  unfold m_build
  split
  · rename_i h
    have h1 := (patOK_iff.1 h).1
    have h2 := bfs_short (pat_ok h1)
    have h3 := (tracked_row h1).1
    exact ⟨show t.length ≤ 4294967296 by omega, h2.1, h2.2⟩
  · exact ⟨by simp [short], ⟨by simp, fun r hr => by cases hr⟩, by simp [short]⟩
theorem build_low {p : PP} {t : List Int} : low (1 + (List.length (m_build p t).1 + m_total (m_build p t).2.1 + List.length (m_build p t).2.2.1 : Nat)) := by
  unfold m_build
  split
  · rename_i h
    have h1 := (patOK_iff.1 h).1
    have h2 := pat_ok h1
    have h3 := (tracked_row h1).1
    have h4 := h2.ok.few
    have h5 := h2.len
    have h6 := m_total_le (n := 20) (m_bfs p.2.2.1 t).1 fun q hq => by have := h2.ok.len q hq; omega
    have h7 := Nat.mul_le_mul_right 20 h4
    unfold low
    dsimp only
    omega
  · simp [low, m_total]
theorem p_implTracked (p : PP) (t : List Int) (h : shortP p ∧ short t) : fnW tab (look [(60, s_validP), (74, s_pointList)]) s_trackedSet Try.f140 (p, t, ()) (fun (z : Bool) => z = m_tracked p t) := by
  refine Eq.mp (w_implTracked p t _) ⟨_, if_pos h.1, ⟨fun hv => ?_, fun hv => ?_⟩⟩
  · have hv : m_validP p = true := hv
    have hn := (valid hv).n
    refine ⟨_, if_pos ⟨⟨by show 0 ≤ p.1; omega, by show p.1 ≤ 4294967296; omega⟩, h.2⟩, ?_⟩
    unfold m_tracked; rw [hv]; rfl
  · have hv : m_validP p = false := hv
    unfold m_tracked; rw [hv]; rfl
theorem sound_implTracked : Sound Try.prog 140 s_trackedSet :=
  Sound.mkS tabOK (envCons sound_implValidP (envCons sound_isTracked envNil)) mixed Try.func140 (by kernel_rfl) (by kernel_rfl) fun x h => p_implTracked x.1 x.2.1 h
theorem p_specTracked (p : PP) (t : List Int) (h : shortP p ∧ short t) : fnW tab (look [(56, s_validP), (68, s_pointList)]) s_trackedSet Try.f106 (p, t, ()) (fun (z : Bool) => z = m_tracked p t) := by
  refine Eq.mp (w_specTracked p t _) ⟨_, if_pos h.1, ⟨fun hv => ?_, fun hv => ?_⟩⟩
  · have hv : m_validP p = true := hv
    have hn := (valid hv).n
    refine ⟨_, if_pos ⟨⟨by show 0 ≤ p.1; omega, by show p.1 ≤ 4294967296; omega⟩, h.2⟩, ?_⟩
    unfold m_tracked; rw [hv]; rfl
  · have hv : m_validP p = false := hv
    unfold m_tracked; rw [hv]; rfl
theorem sound_specTracked : Sound Try.prog 106 s_trackedSet :=
  Sound.mkS tabOK (envCons sound_specValidP (envCons sound_isPointList envNil)) mixed Try.func106 (by kernel_rfl) (by kernel_rfl) fun x h => p_specTracked x.1 x.2.1 h
theorem p_searchPat (p : PP) (t : List Int) (h : shortP p ∧ short t) : fnW tab (look [(106, s_trackedSet), (139, s_sFrom)]) s_searchPat Try.f95 (p, t, ()) (fun (z : SS × Bool × Unit) => z = (m_searchPat p t, m_patOK p t, ())) := by
  refine Eq.mp (w_searchPat p t _) ⟨_, if_pos h, ⟨fun hn => ?_, fun hn => ?_⟩⟩
  · have hn := bnot_true hn
    have e : m_patOK p t = false := Bool.eq_false_iff.2 fun hh => hn (patOK_iff.1 hh).1
    unfold m_searchPat
    rw [if_neg hn, e]
    rfl
  · have hn : m_tracked p t = true := bnot_false hn
    have e : m_patOK p t = (m_bfs p.2.2.1 t).2.2 := by unfold m_patOK; rw [hn, Bool.true_and]
    refine ⟨_, if_pos ⟨(tracked_iff.1 hn).1, (tracked_row hn).1, (tracked_row hn).2⟩, ?_⟩
    have key : (((m_search p.2.2.1 t).1, (m_search p.2.2.1 t).2.1, (m_search p.2.2.1 t).2.2.1, (m_search p.2.2.1 t).2.2.2.1, ()), (m_search p.2.2.1 t).2.2.2.1, ()) = (m_searchPat p t, m_patOK p t, ()) := by
      unfold m_searchPat
      rw [if_pos hn, e]
      rfl
    exact ⟨⟨⟨key, key⟩, key⟩, ⟨key, key⟩, key⟩
theorem sound_searchPat : Sound Try.prog 95 s_searchPat :=
  Sound.mkS tabOK (envCons sound_specTracked (envCons sound_sFrom envNil)) mixed Try.func95 (by kernel_rfl) (by kernel_rfl) fun x h => p_searchPat x.1 x.2.1 h
theorem p_copyLists (l : List (List Int)) (h : shortLL l) : fnW tab (look [(70, s_copyInts)]) s_copyLists Try.f96 (l, ()) (fun (z : List (List Int)) => z = l) := by
  obtain ⟨h1, h2⟩ := h
  refine Eq.mp (w_copyLists l _) ⟨rfl, rfl, ?_⟩
  refine loop_range l.length (fun v => v.1) (fun j v => v.2.1 = l.take j) rfl (by simp) ?_
  rintro j ⟨i, ys, ⟨⟩⟩ K hj hi hR hK
  dsimp only at hi hR ⊢
  subst hi hR
  refine Br.dec (fun hl => ?_) fun hl => ?_
  · have hl : j < l.length := by omega
    refine ⟨_, idx_nat hl, _, if_pos (h2 _ (List.getElem_mem hl)), rfl, rfl, ?_, rfl, rfl, ?_⟩
    · show (List.take j l).length + 1 ≤ 4294967296
      rw [List.length_take]; omega
    · rw [wrap_nat (by omega)]
      refine hK hl _ rfl ?_
      show List.take j l ++ [l[j]] = _
      rw [List.take_add_one, List.getElem?_eq_getElem hl]; rfl
  · have : j = l.length := by omega
    subst this
    rw [whole_row, List.take_length]
theorem sound_copyLists : Sound Try.prog 96 s_copyLists :=
  Sound.mkS tabOK (envCons sound_copyInts envNil) mixed Try.func96 (by kernel_rfl) (by kernel_rfl) fun x h => p_copyLists x.1 h
theorem p_specBuild (p : PP) (t : List Int) (h : shortP p ∧ short t) : fnW tab (look [(95, s_searchPat), (70, s_copyInts), (96, s_copyLists)]) s_specBuild Try.f42 (p, t, ()) (fun (z : TT × Bool × Unit) => z = (m_build p t, m_patOK p t, ())) := by
  refine Eq.mp (w_specBuild p t _) ⟨_, if_pos h, ⟨fun hn => ?_, fun hn => ?_⟩⟩
  · have hn := bnot_true hn
    have hn : ¬ m_patOK p t = true := hn
    unfold m_build
    rw [if_neg hn, Bool.eq_false_iff.2 hn]
    rfl
  · have hn : m_patOK p t = true := bnot_false hn
    obtain ⟨h1, h2⟩ := patOK_iff.1 hn
    have h3 := bfs_short (pat_ok h1)
    have e : m_searchPat p t = m_search p.2.2.1 t := if_pos h1
    refine ⟨_, if_pos h.2, ?_⟩
    show ∃ y5 : List (List Int), s_copyLists.fn ((m_searchPat p t).1, ()) = some y5 ∧ ∃ y6 : List Int, s_copyInts.fn ((m_searchPat p t).2.1, ()) = some y6 ∧ ((t, y5, y6, ()), true, ()) = (m_build p t, m_patOK p t, ())
    rw [e]
    refine ⟨_, if_pos h3.1, _, if_pos h3.2, ?_⟩
    unfold m_build
    rw [if_pos hn, hn]
    rfl
theorem sound_specBuild : Sound Try.prog 42 s_specBuild :=
  Sound.mkS tabOK (envCons sound_searchPat (envCons sound_copyInts (envCons sound_copyLists envNil))) mixed Try.func42 (by kernel_rfl) (by kernel_rfl) fun x h => p_specBuild x.1 x.2.1 h
/-- The patterns seen. -/
def SeenOK (m : ByteArray → Option Bool) (L : List (List Int)) : Prop := ∀ q, byteL q → (m (m_key q)).getD false = decide (q ∈ L)
theorem SeenOK.add {m : ByteArray → Option Bool} {L : List (List Int)} {y : List Int} (h : SeenOK m L) (hy : byteL y) : SeenOK (upd1 m (m_key y) true) (L ++ [y]) := by
  intro q hq
  unfold upd1
  by_cases e : q = y
  · subst e
    rw [if_pos rfl]; simp
  · rw [if_neg fun hk => e (key_inj hq hy hk), h q hq]
    simp [e]
theorem p_patterns (n : Int) (str : ByteArray) (g : List (List Int)) (t : List Int) (h : m_tracked (n, str, g, ()) t = true) :
    fnMW (tabM [weakBase + 10]) (look [(76, s_cloneM), (78, s_stateKey), (64, s_letters), (130, s_letterOf), (77, s_pickedM)]) s_patterns Try.f141 (n, str, g, t, ()) (fun (z : (List (List Int) × List Int × Bool × Unit) × Unit) => z = (((m_build (n, str, g, ()) t).2.1, (m_build (n, str, g, ()) t).2.2.1, m_patOK (n, str, g, ()) t, ()), ())) := by
  obtain ⟨hv, _⟩ := tracked_iff.1 h
  obtain ⟨ht, hr⟩ := tracked_row h
  have hV := valid hv
  have hfew := hV.few
  have hn := hV.n
  dsimp only at hfew hn hr
  have hb0 := bfs_start (p := (n, str, g, ())) ht hr
  have hsh : short t := by unfold short; omega
  obtain ⟨ls, hls⟩ : ∃ ls, m_letters g.length = ls := ⟨_, rfl⟩
  have hll : ls.length ≤ 16 := by rw [← hls, m_letters_len]; omega
  have hmem : ∀ l ∈ ls, isLetter (List.length g) l := fun l hl => mem_letters (hls ▸ hl)
  have hstart : bfsGo g ls 3001 0 [t] [0] = m_bfs g t := by unfold m_bfs; rw [hls]
  have hbyte : ∀ x : List Int, (∀ y ∈ x, 0 ≤ y ∧ y < n) → byteL x := fun x hx y hy => by have := hx y hy; omega
  have hfin : ∀ L D ok, m_bfs g t = (L, D, ok) → (if ok = true then ((L, D, true, ()), ()) else ((([] : List (List Int)), ([] : List Int), false, ()), ())) = (((m_build (n, str, g, ()) t).2.1, (m_build (n, str, g, ()) t).2.2.1, m_patOK (n, str, g, ()) t, ()), ()) := by
    intro L D ok he
    have e1 : m_patOK (n, str, g, ()) t = ok := by unfold m_patOK; rw [h, Bool.true_and]; show (m_bfs g t).2.2 = ok; rw [he]
    unfold m_build
    rw [e1]
    cases ok with
    | true => rw [if_pos rfl, if_pos rfl]; show ((L, D, true, ()), ()) = (((m_bfs g t).1, (m_bfs g t).2.1, true, ()), ()); rw [he]
    | false => rw [if_neg (by decide), if_neg (by decide)]
  refine Eq.mp (w_patterns n str g t _) ⟨_, if_pos hsh, _, if_pos hsh, ls, (if_pos ⟨by show (0 : Int) ≤ ((g.length : Nat) : Int); omega, by show ((g.length : Nat) : Int) ≤ 8; omega⟩).trans (congrArg some (by show m_letters (((g.length : Nat) : Int)).toNat = ls; rw [Int.toNat_natCast]; exact hls)), rfl, rfl, rfl, rfl, rfl, rfl, ?_⟩
  rw [whole_row]
  refine loop_range ls.length (fun v => v.1) (fun j v => v.2.1 = n ∧ v.2.2.1 = str ∧ v.2.2.2.1 = g ∧ v.2.2.2.2.1 = (ls.take j).map (m_letterOf g) ∧ v.2.2.2.2.2.1 = [t] ∧ v.2.2.2.2.2.2.1 = [0] ∧ SeenOK v.2.2.2.2.2.2.2.1 [t]) rfl
    ⟨rfl, rfl, rfl, by simp, rfl, rfl, fun q hq => ?_⟩ ?_
  · show (upd1 (fun _ => none) (m_key t) true (m_key q)).getD false = _
    unfold upd1
    by_cases e : q = t
    · subst e; rw [if_pos rfl]; simp
    · rw [if_neg fun hk => e (key_inj hq (hbyte t hr) hk)]; simp [e]
  rintro j ⟨i, n', str', g', mv, L1, D1, m1, ⟨⟩⟩ K hj hi ⟨h1, h2, h3, h4, h5, h6, h7⟩ hK
  dsimp only at hi h1 h2 h3 h4 h5 h6 h7 ⊢
  subst hi h1 h2 h3 h4 h5 h6
  refine Br.dec (fun hl => ?_) fun hl => ⟨rfl, rfl, rfl, rfl, rfl, rfl, ?_⟩
  · have hl : j < ls.length := by omega
    have hlet := hmem _ (List.getElem_mem hl)
    refine ⟨_, idx_nat hl, _, if_pos ⟨hlet, hfew.2, hV.perm⟩, rfl, rfl, ?_, rfl, rfl, rfl, rfl, rfl, rfl, ?_⟩
    · show (List.map (m_letterOf g') (List.take j ls)).length + 1 ≤ 4294967296
      rw [List.length_map, List.length_take]; omega
    · rw [wrap_nat (by omega)]
      refine hK hl _ rfl ⟨rfl, rfl, rfl, ?_, rfl, rfl, h7⟩
      show List.map (m_letterOf g') (List.take j ls) ++ [m_letterOf g' ls[j]] = _
      rw [List.take_add_one, List.getElem?_eq_getElem hl, List.map_append]; rfl
  · have : j = ls.length := by omega
    subst this
    rw [List.take_length]
    obtain ⟨ms, hms⟩ : ∃ ms, ls.map (m_letterOf g') = ms := ⟨_, rfl⟩
    have hmsl : ms.length = ls.length := by rw [← hms, List.length_map]
    have hmsi : ∀ i (h : i < ls.length), ms[i]'(by omega) = m_letterOf g' ls[i] := fun i h => by simp only [← hms, List.getElem_map]
    rw [hms]
    refine WLoop.mk (fun v => v.2.1 = ms ∧ ∃ k : Nat, v.1 = k ∧ k ≤ v.2.2.1.length ∧ BfsOK (n', str', g', ()) t.length v.2.2.1 v.2.2.2.1 ∧ SeenOK v.2.2.2.2.1 v.2.2.1 ∧ bfsGo g' ls (3001 - k) k v.2.2.1 v.2.2.2.1 = m_bfs g' t) (fun v => 3001 - v.1.toNat)
      ⟨rfl, 0, rfl, by simp, hb0, h7, hstart⟩ ?_
    rintro ⟨k', mv, L0, D0, mp, ⟨⟩⟩ ⟨h1, k, h5, h6, h7, h8, h9⟩
    dsimp only at h1 h5 h6 h7 h8 h9
    subst h1 h5
    dsimp only
    have hL0 := h7.ok.few
    have hD0 := h7.len
    refine Br.dec (fun hl => ⟨rfl, rfl, rfl, rfl, rfl, rfl, rfl, rfl, ?_⟩) fun hl => ?_
    · have hk : k < L0.length := by omega
      have hkD : k < D0.length := by omega
      have hx : ∀ y ∈ L0[k], 0 ≤ y ∧ y < n' := h7.row _ (List.getElem_mem hk)
      have hxl : L0[k].length = t.length := h7.ok.len _ (List.getElem_mem hk)
      have hdk := h7.dep k hkD
      obtain ⟨f, hf⟩ : ∃ f, 3001 - k = f + 1 := ⟨3000 - k, by omega⟩
      have hgo : ∀ L' D' ok, bfsIn g' L0[k] D0[k] ls L0 D0 = (L', D', ok) → m_bfs g' t = if ok = true then bfsGo g' ls f (k + 1) L' D' else (L', D', false) := by
        intro L' D' ok he
        rw [← h9, hf, bfsGo, if_pos hk, getD_nat hk, List.getD_eq_getElem?_getD, List.getElem?_eq_getElem hkD]
        simp only [Option.getD_some]
        rw [he]
        cases ok <;> rfl
      refine WLoop.mk (fun v => v.2.1 = mv ∧ ∃ i : Nat, v.1 = i ∧ i ≤ ls.length ∧ BfsOK (n', str', g', ()) t.length v.2.2.1 v.2.2.2.1 ∧ SeenOK v.2.2.2.2.1 v.2.2.1 ∧ (∃ A, v.2.2.1 = L0 ++ A) ∧ (∃ A, v.2.2.2.1 = D0 ++ A) ∧
          bfsIn g' L0[k] D0[k] (ls.drop i) v.2.2.1 v.2.2.2.1 = bfsIn g' L0[k] D0[k] ls L0 D0) (fun v => ls.length - v.1.toNat)
        ⟨rfl, 0, rfl, Nat.zero_le _, h7, h8, ⟨[], by simp⟩, ⟨[], by simp⟩, rfl⟩ ?_
      rintro ⟨i', mv', L, D, mp2, ⟨⟩⟩ ⟨g1, i, g5, g6, g7, g8, ⟨A, g9⟩, ⟨A', g10⟩, g11⟩
      dsimp only at g1 g5 g6 g7 g8 g9 g10 g11
      subst g1 g5
      dsimp only
      have hLf := g7.ok.few
      have hDl := g7.len
      refine Br.dec (fun hli => ?_) fun hli => ?_
      · have hi : i < ls.length := by omega
        have hkL : k < L.length := by rw [g9, List.length_append]; omega
        have hLk : L[k] = L0[k] := by simp only [g9]; exact List.getElem_append_left hk
        have hkD2 : k < D.length := by rw [hDl]; exact hkL
        have hDk : D[k] = D0[k] := by simp only [g10]; exact List.getElem_append_left hkD
        have hlet := hmem _ (List.getElem_mem hi)
        obtain ⟨nl, nr⟩ := next_ok hV hx hlet
        dsimp only at nl nr
        have hlo := letter_ok hV hlet
        dsimp only at hlo
        rw [List.drop_eq_getElem_cons hi] at g11
        simp only [bfsIn] at g11
        have hyb := hbyte _ nr
        refine ⟨⟨by omega, by omega⟩, m_letterOf g' ls[i], by rw [Int.toNat_natCast, Nat.zero_add, List.getElem?_eq_getElem (by omega), hmsi i hi], ⟨by omega, by omega⟩, L0[k], by rw [Int.toNat_natCast, Nat.zero_add, List.getElem?_eq_getElem hkL, hLk],
          _, if_pos ⟨by show short L0[k]; unfold short; omega, by show inRow (m_letterOf g' ls[i]).length L0[k]; intro y hy; have := hx y hy; omega⟩, ?_⟩
        dsimp only
        rw [show m_picked (m_letterOf g' ls[i]) L0[k] = m_compose L0[k] (m_letterOf g' ls[i]) from rfl, whole_row]
        generalize hyv : m_compose L0[k] (m_letterOf g' ls[i]) = yv at *
        refine ⟨_, if_pos (by show short yv; unfold short; rw [nl]; omega), ?_⟩
        dsimp only
        rw [g8 _ hyb]
        refine ⟨fun hin => ?_, fun hin => ⟨rfl, rfl, rfl, rfl, rfl, rfl, rfl, rfl, ?_⟩⟩
        · have hin : yv ∉ L := by simpa using hin
          rw [if_neg hin] at g11
          refine ⟨fun hfull => ?_, fun hfull => ⟨rfl, rfl, by show L.length + 1 ≤ 4294967296; omega, ⟨by omega, by omega⟩, D0[k], by rw [Int.toNat_natCast, Nat.zero_add, List.getElem?_eq_getElem hkD2, hDk], rfl, rfl, by show D.length + 1 ≤ 4294967296; omega, rfl, rfl, rfl, rfl, rfl, rfl, rfl, rfl, ?_⟩⟩
          · have hfull : L.length = 3000 := by
              have : (L.length : Int) = 3000 := by simpa using hfull
              omega
            rw [if_pos hfull] at g11
            have := hgo _ _ _ g11.symm
            rw [if_neg (by decide)] at this
            have := hfin _ _ _ this
            rw [if_neg (by decide)] at this
            exact this
          · have hfull : L.length ≠ 3000 := by
              have : (L.length : Int) ≠ 3000 := by simpa using hfull
              omega
            rw [if_neg hfull] at g11
            rw [wrap_id (n := D0[k] + 1) (by omega) (by omega), wrap_nat (by omega)]
            refine ⟨⟨rfl, i + 1, rfl, hi, g7.add hin (by rw [nl, hxl]) (by omega) nr ⟨by omega, by omega⟩, g8.add hyb, ⟨A ++ [yv], by rw [g9, List.append_assoc]; rfl⟩, ⟨A' ++ [D0[k] + 1], by rw [g10, List.append_assoc]; rfl⟩, g11⟩, by omega⟩
        · have hin : yv ∈ L := by simpa using hin
          rw [if_pos hin] at g11
          rw [wrap_nat (by omega)]
          exact ⟨⟨rfl, i + 1, rfl, hi, g7, g8, ⟨A, g9⟩, ⟨A', g10⟩, g11⟩, by omega⟩
      · have : i = ls.length := by omega
        subst this
        rw [List.drop_length, bfsIn] at g11
        have := hgo _ _ _ g11.symm
        rw [if_pos rfl] at this
        rw [wrap_nat (by omega)]
        refine ⟨rfl, rfl, rfl, rfl, rfl, rfl, ⟨rfl, k + 1, rfl, by rw [g9, List.length_append]; omega, g7, g8, ?_⟩, by omega⟩
        rw [show 3001 - (k + 1) = f by omega]
        exact this.symm
    · have hk : k = L0.length := by omega
      rw [whole_row L0, whole_row D0]
      obtain ⟨f, hf⟩ : ∃ f, 3001 - k = f + 1 := ⟨3000 - k, by omega⟩
      rw [hf, bfsGo, if_neg (by omega)] at h9
      have := hfin _ _ _ h9.symm
      rw [if_pos rfl] at this
      exact this
theorem sound_patterns : MSound Try.prog 141 s_patterns :=
  MSound.mkM (tabMOK [weakBase + 10]) (envConsM sound_cloneM (envCons sound_stateKey (envCons sound_letters (envCons sound_letterOf (envConsM sound_pickedM envNil))))) mixed Try.func141 (by kernel_rfl) (by kernel_rfl) fun x h => p_patterns x.1 x.2.1 x.2.2.1 x.2.2.2.1 h
theorem build_none {p : PP} {t : List Int} (h : ¬ m_patOK p t = true) : m_build p t = ([], [], [], ()) := if_neg h
theorem p_reachPat (n : Int) (str : ByteArray) (g : List (List Int)) (t : List Int) (h : shortP (n, str, g, ()) ∧ short t) :
    fnMW tabT (look [(140, s_trackedSet), (141, s_patterns)]) s_reachPat Try.f97 (n, str, g, t, ()) (fun (z : (List (List Int) × List Int × Bool × Unit) × Unit) => z = (((m_build (n, str, g, ()) t).2.1, (m_build (n, str, g, ()) t).2.2.1, m_patOK (n, str, g, ()) t, ()), ())) := by
  refine Eq.mp (w_reachPat n str g t _) ⟨_, if_pos h, ⟨fun hn => ?_, fun hn => ?_⟩⟩
  · have hn : ¬ m_tracked (n, str, g, ()) t = true := bnot_true hn
    have e : ¬ m_patOK (n, str, g, ()) t = true := fun hh => hn (patOK_iff.1 hh).1
    rw [build_none e, Bool.eq_false_iff.2 e]
    rfl
  · have hn : m_tracked (n, str, g, ()) t = true := bnot_false hn
    refine ⟨_, if_pos hn, ?_⟩
    rw [whole_row, whole_row]
theorem sound_reachPat : MSound Try.prog 97 s_reachPat :=
  MSound.mkM tabTOK (envCons sound_implTracked (envConsM sound_patterns envNil)) mixed Try.func97 (by kernel_rfl) (by kernel_rfl) fun x h => p_reachPat x.1 x.2.1 x.2.2.1 x.2.2.2.1 h
theorem p_implBuild (n : Int) (str : ByteArray) (g : List (List Int)) (t : List Int) (h : shortP (n, str, g, ()) ∧ short t) :
    fnMW tabT (look [(97, s_reachPat), (76, s_cloneM)]) s_implBuild Try.f43 (n, str, g, t, ()) (fun (z : (List Int × List (List Int) × List Int × Bool × Unit) × Unit) => z = (((m_build (n, str, g, ()) t).1, (m_build (n, str, g, ()) t).2.1, (m_build (n, str, g, ()) t).2.2.1, m_patOK (n, str, g, ()) t, ()), ())) := by
  refine Eq.mp (w_implBuild n str g t _) ⟨_, if_pos h, ⟨fun hn => ?_, fun hn => ?_⟩⟩
  · have e : ¬ m_patOK (n, str, g, ()) t = true := bnot_true hn
    rw [build_none e, Bool.eq_false_iff.2 e]
    rfl
  · have e : m_patOK (n, str, g, ()) t = true := bnot_false hn
    refine ⟨_, if_pos h.2, ?_⟩
    rw [whole_row, whole_row, whole_row, e]
    have e2 : (m_build (n, str, g, ()) t).1 = t := by unfold m_build; rw [if_pos e]
    rw [e2]
theorem sound_implBuild : MSound Try.prog 43 s_implBuild :=
  MSound.mkM tabTOK (envConsM sound_reachPat (envConsM sound_cloneM envNil)) mixed Try.func43 (by kernel_rfl) (by kernel_rfl) fun x h => p_implBuild x.1 x.2.1 x.2.2.1 x.2.2.2.1 h
theorem p_lawBuild (p : PP) (t : List Int) (h : shortP p ∧ short t) : fnW tab (look [(14, s_szP), (42, s_specBuild), (43, s_implBuild), (16, ASpec.b s_toP s_toPuzzlem), (26, ASpec.b s_toL s_toLm), (28, s_eqTable), (19, s_eqP), (18, s_equalInts), (20, s_markPuzzle), (21, s_markL), (29, s_markTable), (30, s_heldTable)]) s_lawPLt Try.f9 (p, t, ()) (fun (z : Bool) => z = true) := by
  have h0 : shortP (p.1, p.2.1, p.2.2.1, ()) := h.1
  have h1 : short t := h.2
  refine Eq.mp (w_lawBuild p t _) ?_
  refine Br.dec (fun _ => rfl) fun hl_t => ?_
  refine ⟨_, if_pos ⟨h0, roomy_1m⟩, Br.dec (fun _ => rfl) fun hs_p => ?_⟩
  have hz_p : (((m_total p.2.2.1 : Nat) : Nat) : Int) ≤ (1048576) - (m_szP (p.1, p.2.1, p.2.2.1, ()) (1048576)) ∧ roomy (m_szP (p.1, p.2.1, p.2.2.1, ()) (1048576)) := szP_room roomy_1m hs_p
  have hy_p := hz_p.1
  have hr_p : 0 ≤ m_szP (p.1, p.2.1, p.2.2.1, ()) (1048576) ∧ m_szP (p.1, p.2.1, p.2.2.1, ()) (1048576) ≤ 4294967296 := hz_p.2
  have l0 : low (1 + (m_total p.2.2.1 : Nat)) := ⟨by omega, by omega⟩
  have l1 : low (1 + (m_total p.2.2.1 : Nat) + (t.length : Nat)) := ⟨by omega, by omega⟩
  refine ⟨_, if_pos h0, _, if_pos h1, ?_⟩
  try simp only [whole_row]
  refine ⟨_, if_pos ⟨h0, h1⟩, _, if_pos h0, _, if_pos h1, ?_⟩
  try simp only [whole_row]
  have hg0 : shortT (m_build (p.1, p.2.1, p.2.2.1, ()) t) := build_short
  have hlow0 : low (1 + (List.length (m_build (p.1, p.2.1, p.2.2.1, ()) t).1 + m_total (m_build (p.1, p.2.1, p.2.2.1, ()) t).2.1 + List.length (m_build (p.1, p.2.1, p.2.2.1, ()) t).2.2.1 : Nat)) := build_low
  generalize he0 : m_build (p.1, p.2.1, p.2.2.1, ()) t = g0 at hg0 hlow0
  generalize he1 : m_patOK (p.1, p.2.1, p.2.2.1, ()) t = g1
  obtain ⟨g0a, g0b, g0c, ⟨⟩⟩ := g0
  refine ⟨_, if_pos ⟨h0, h1⟩, ?_⟩
  simp only [whole_row, he0, he1]
  refine ⟨_, if_pos hg0, ⟨fun he => absurd (m_eqT_self _) (bnot_true he), fun _ => ?_⟩⟩
  refine ⟨fun he => bool_same he, fun _ => ?_⟩
  refine ⟨_, if_pos h0, _, if_pos h0, ⟨fun he => absurd (m_eqP_self _) (bnot_true he), fun _ => ?_⟩⟩
  refine ⟨_, if_pos h1, ?_⟩
  try simp only [whole_row]
  refine ⟨_, if_pos h1, ⟨fun he => absurd (m_equalInts_self _) (bnot_true he), fun _ => ?_⟩⟩
  refine ⟨trivial, trivial, _, if_pos ⟨h0.2, low_one, l0⟩, ⟨m_marksLL_len _ _, trivial⟩, trivial, trivial, _, if_pos ⟨h1, l0⟩, ⟨m_marks_len _ _, trivial⟩, Br.dec (fun hn => absurd l1.1 (Int.not_le.2 hn)) fun _ => ?_⟩
  refine ⟨_, if_pos hg0, ⟨fun he => absurd (m_eqT_self _) (bnot_true he), fun _ => ?_⟩⟩
  refine ⟨fun he => bool_same he, fun _ => ?_⟩
  have m0 : low (1 + (List.length g0a + m_total g0b + List.length g0c : Nat)) := hlow0
  refine ⟨trivial, trivial, trivial, trivial, trivial, trivial, _, if_pos ⟨hg0, low_one, m0⟩, ⟨m_marks_len _ _, trivial⟩, ⟨m_marksLL_len _ _, trivial⟩, ⟨m_marks_len _ _, trivial⟩, ?_⟩
  simp only [whole_marks, whole_marksLL]
  have hm0 : ∀ a b c, shortT (m_marks a g0a.length, m_marksLL b g0b, m_marks c g0c.length, ()) := fun a b c => shortT_marks hg0 a b c
  refine ⟨_, if_pos ⟨hm0 _ _ _, low_one, by simp only [m_marks_len, m_total_marks]; exact m0⟩, ?_⟩
  simp only [held_marksT _ (low_one).1]
  refine Br.dec (fun hn => by omega) fun _ => ⟨fun he => by simp at he, fun _ => ?_⟩
  refine ⟨_, if_pos h0, _, if_pos h1, ?_⟩
  try simp only [whole_row]
  refine ⟨_, if_pos ⟨h0, h1⟩, ?_⟩
  simp only [whole_row, he0, he1]
  refine ⟨_, if_pos hg0, ⟨fun he => absurd (m_eqT_self _) (bnot_true he), fun _ => ?_⟩⟩
  refine ⟨fun he => bool_same he, fun _ => ?_⟩
  refine ⟨_, if_pos ⟨hm0 _ _ _, low_one, by simp only [m_marks_len, m_total_marks]; exact m0⟩, ?_⟩
  simp only [held_marksT _ (low_one).1]
  exact Br.dec (fun hn => by omega) fun _ => ⟨fun he => by simp at he, fun _ => trivial⟩
theorem sound_lawBuild : Sound Try.prog 9 s_lawPLt :=
  Sound.mkS tabOK (envCons sound_szP (envCons sound_specBuild (envConsM sound_implBuild (envConsB sound_toP sound_toPuzzlem (envConsB sound_toL sound_toLm (envCons sound_eqTable (envCons sound_eqP (envCons sound_eqL (envConsM sound_markPuzzle (envConsM sound_markL (envConsM sound_markTable (envCons sound_heldTable envNil)))))))))))) mixed Try.func9 (by kernel_rfl) (by kernel_rfl) fun x h => p_lawBuild x.1 x.2.1 h
end Go.Proofs.Ytfghmbpogmcboaa
