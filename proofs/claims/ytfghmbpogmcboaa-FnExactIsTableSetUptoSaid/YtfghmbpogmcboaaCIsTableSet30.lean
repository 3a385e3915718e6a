/-
  Part 31 of the proof that the statement FnExactIsTableSet holds.
-/
import Derived.Test.YtfghmbpogmcboaaCIsTableSet29
namespace Go.Proofs.Ytfghmbpogmcboaa
open Go.RowKit

noncomputable def m_tracked (p : PP) (t : List Int) : Bool := m_validP p && m_pointList p.1 t
noncomputable def m_patOK (p : PP) (t : List Int) : Bool := m_tracked p t && (m_bfs p.2.2.1 t).2.2
noncomputable abbrev s_trackedSet : Spec := mkS (.pair tPuzzle (.pair tL .unit)) .bool false true (fun x => shortP x.1 ∧ short x.2.1) (fun x => m_tracked x.1 x.2.1)
noncomputable def m_searchPat (p : PP) (t : List Int) : SS := if m_tracked p t = true then m_search p.2.2.1 t else ([], [], [], false, ())
noncomputable abbrev s_searchPat : Spec := mkS (.pair tPuzzle (.pair tL .unit)) (.pair tSearch (.pair .bool .unit)) true false (fun x => shortP x.1 ∧ short x.2.1) (fun x => (m_searchPat x.1 x.2.1, m_patOK x.1 x.2.1, ()))
noncomputable abbrev s_copyLists : Spec := mkS (.pair tLL .unit) tLL false true (fun x => shortLL x.1) (fun x => x.1)
noncomputable def m_build (p : PP) (t : List Int) : TT := if m_patOK p t = true then (t, (m_bfs p.2.2.1 t).1, (m_bfs p.2.2.1 t).2.1, ()) else ([], [], [], ())
noncomputable abbrev s_specBuild : Spec := mkS (.pair tPuzzle (.pair tL .unit)) (.pair tTable (.pair .bool .unit)) true true (fun x => shortP x.1 ∧ short x.2.1) (fun x => (m_build x.1 x.2.1, m_patOK x.1 x.2.1, ()))
noncomputable abbrev s_patterns : MSpec := mkM [some 3, none] [(false, .dat tI), (false, .dat .str), (false, .dat tLL), (false, .dat tL)] true [none, none, none] [xLL, rL, .dat .bool]
  (fun x => m_tracked (x.1, x.2.1, x.2.2.1, ()) x.2.2.2.1 = true) (fun x => (((m_build (x.1, x.2.1, x.2.2.1, ()) x.2.2.2.1).2.1, (m_build (x.1, x.2.1, x.2.2.1, ()) x.2.2.2.1).2.2.1, m_patOK (x.1, x.2.1, x.2.2.1, ()) x.2.2.2.1, ()), ()))
noncomputable abbrev s_reachPat : MSpec := mkM [some 3, none] [(false, .dat tI), (false, .dat .str), (false, .dat tLL), (false, .dat tL)] true [none, none, none] [xLL, rL, .dat .bool]
  (fun x => shortP (x.1, x.2.1, x.2.2.1, ()) ∧ short x.2.2.2.1) (fun x => (((m_build (x.1, x.2.1, x.2.2.1, ()) x.2.2.2.1).2.1, (m_build (x.1, x.2.1, x.2.2.1, ()) x.2.2.2.1).2.2.1, m_patOK (x.1, x.2.1, x.2.2.1, ()) x.2.2.2.1, ()), ()))
noncomputable abbrev s_implBuild : MSpec := mkM [some 3, none] [(false, .dat tI), (false, .dat .str), (false, .dat tLL), (false, .dat tL)] true [some 3, none] [rL, xLL, rL, .dat .bool]
  (fun x => shortP (x.1, x.2.1, x.2.2.1, ()) ∧ short x.2.2.2.1) (fun x => (((m_build (x.1, x.2.1, x.2.2.1, ()) x.2.2.2.1).1, (m_build (x.1, x.2.1, x.2.2.1, ()) x.2.2.2.1).2.1, (m_build (x.1, x.2.1, x.2.2.1, ()) x.2.2.2.1).2.2.1, m_patOK (x.1, x.2.1, x.2.2.1, ()) x.2.2.2.1, ()), ()))
noncomputable def m_validT (p : PP) (t : TT) : Bool := m_patOK p t.1 && m_eqT (m_build p t.1) t
noncomputable abbrev s_validT : Spec := mkS (.pair tPuzzle (.pair tTable .unit)) .bool false true (fun x => shortP x.1 ∧ shortT x.2.1) (fun x => m_validT x.1 x.2.1)
abbrev tTS : Ty := .slice tTable
def shortTS (ts : List TT) : Prop := ts.length ≤ 4294967296 ∧ ∀ t ∈ ts, shortT t
noncomputable def m_tableSet (p : PP) (ts : List TT) : Bool := m_validP p && decide (ts.length ≤ 4) && List.all ts (m_validT p)
noncomputable abbrev s_tableSet : Spec := mkS (.pair tPuzzle (.pair tTS .unit)) .bool false true (fun x => shortP x.1 ∧ shortTS x.2.1) (fun x => m_tableSet x.1 x.2.1)
abbrev tTS1 : Ty := .clo 101 (.pair (.ptr tPuzzle) .unit)
noncomputable abbrev s_ts1 : Spec := mkS (.pair tTable (.pair (.ptr tPuzzle) .unit)) .bool false true (fun x => shortT x.1 ∧ shortP x.2.1) (fun x => !m_validT x.2.1 x.1)
def m_indexT (q : TT → Bool) : List TT → Int → Int
  | [], _ => -1
  | t :: ts, k => if q t = true then k else m_indexT q ts (k + 1)
noncomputable abbrev s_ixTS : Spec := mkS (.pair tTS (.pair tTS1 .unit)) tI false true (fun x => shortTS x.1 ∧ shortP x.2.1.1) (fun x => m_indexT (fun t => !m_validT x.2.1.1 t) x.1 0)
noncomputable abbrev s_ctTS : Spec := mkS (.pair tTS (.pair tTS1 .unit)) .bool false true (fun x => shortTS x.1 ∧ shortP x.2.1.1) (fun x => List.any x.1 (fun t => !m_validT x.2.1.1 t))
noncomputable abbrev s_lawPTS : Spec := mkS (.pair tPuzzle (.pair tTS .unit)) .bool false true (fun x => shortP x.1 ∧ shortTS x.2.1) (fun _ => true)
def szTSGo : List TT → Int → Int
  | [], room => room
  | t :: ts, room => if m_szTable t room < 0 then -1 else szTSGo ts (m_szTable t room)
def m_szTS (ts : List TT) (room : Int) : Int := if room - ts.length < 0 then -1 else szTSGo ts (room - ts.length)
noncomputable abbrev s_szTS : Spec := mkS (.pair tTS (.pair tI .unit)) tI false true (fun x => shortTS x.1 ∧ roomy x.2.1) (fun x => m_szTS x.1 x.2.1)
noncomputable abbrev s_toTS : Spec := mkS (.pair tTS .unit) tTS false true (fun x => shortTS x.1) (fun x => x.1)
noncomputable abbrev s_eqTS : Spec := mkS (.pair tTS (.pair tTS .unit)) .bool false true (fun x => shortTS x.1) (fun x => decide (x.1 = x.2.1))
theorem w_implTracked (p : Int × ByteArray × List (List Int) × Unit) (t : List Int) (P : Bool → Prop) : (∃ (y3 : Bool), s_validP.fn ((p.fst, p.2.fst, p.snd.2.fst, ()), ()) = some y3 ∧ Br y3 (∃ (y4 : Bool), s_pointList.fn (p.fst, t, ()) = some y4 ∧ P y4) (P false)) = fnW tab (look [(60, s_validP), (74, s_pointList)]) s_trackedSet Try.f140 (p, t, ()) P := by kernel_rfl
theorem w_specTracked (p : Int × ByteArray × List (List Int) × Unit) (t : List Int) (P : Bool → Prop) : (∃ (y3 : Bool), s_validP.fn ((p.fst, p.2.fst, p.snd.2.fst, ()), ()) = some y3 ∧ Br y3 (∃ (y4 : Bool), s_pointList.fn (p.fst, t, ()) = some y4 ∧ P y4) (P false)) = fnW tab (look [(56, s_validP), (68, s_pointList)]) s_trackedSet Try.f106 (p, t, ()) P := by kernel_rfl
theorem w_searchPat (p : Int × ByteArray × List (List Int) × Unit) (t : List Int) (P : ((List (List Int) × List Int × List Int × Bool × Unit) × Bool × Unit) → Prop) : (∃ (y3 : Bool),
  s_trackedSet.fn ((p.fst, p.2.fst, p.snd.2.fst, ()), t, ()) = some y3 ∧
    Br (!y3) (P ((List.take (0 : Nat) (List.drop (0 : Nat) []), List.take (0 : Nat) (List.drop (0 : Nat) []), List.take (0 : Nat) (List.drop (0 : Nat) []), false, ()), false, ()))
      (∃ (y4 : List (List Int) × List Int × List Int × Bool × PUnit),
        s_sFrom.fn ((p.fst, p.2.fst, p.snd.2.fst, ()), t, ()) = some y4 ∧
          ((P ((y4.fst, y4.2.fst, y4.snd.2.fst, y4.2.snd.2.fst, ()), y4.2.snd.2.fst, ()) ∧ P ((y4.fst, y4.2.fst, y4.snd.2.fst, y4.2.snd.2.fst, ()), y4.2.snd.2.fst, ())) ∧
              P ((y4.fst, y4.2.fst, y4.snd.2.fst, y4.2.snd.2.fst, ()), y4.2.snd.2.fst, ())) ∧
            (P ((y4.fst, y4.2.fst, y4.snd.2.fst, y4.2.snd.2.fst, ()), y4.2.snd.2.fst, ()) ∧ P ((y4.fst, y4.2.fst, y4.snd.2.fst, y4.2.snd.2.fst, ()), y4.2.snd.2.fst, ())) ∧
              P ((y4.fst, y4.2.fst, y4.snd.2.fst, y4.2.snd.2.fst, ()), y4.2.snd.2.fst, ()))) = fnW tab (look [(106, s_trackedSet), (139, s_sFrom)]) s_searchPat Try.f95 (p, t, ()) P := by kernel_rfl
theorem w_copyLists (l : List (List Int)) (P : List (List Int) → Prop) : ((0 : Nat) = (0 : Nat) ∧
  (0 : Nat) = ([] : List Int).length ∧
    WLoop
      (fun (v2 : Int × List (List Int) × PUnit) (k3 : Int × List (List Int) × PUnit → Prop) =>
        Br (decide (v2.fst < (↑l.length : Int)))
          (∃ (y4 : List Int),
            idx l v2.fst = some y4 ∧
              ∃ (y5 : List Int),
                s_copyInts.fn (y4, ()) = some y5 ∧
                  (0 : Nat) = (0 : Nat) ∧
                    v2.2.fst.length = v2.2.fst.length ∧
                      v2.2.fst.length + (List.take (1 : Nat) (List.drop (0 : Nat) [y5])).length ≤ maxRow ∧
                        (0 : Nat) = (0 : Nat) ∧
                          (v2.2.fst ++ List.take (1 : Nat) (List.drop (0 : Nat) [y5])).length = (v2.2.fst ++ List.take (1 : Nat) (List.drop (0 : Nat) [y5])).length ∧
                            k3 (IntKind.i64.wrap (v2.fst + (1 : Int)), v2.2.fst ++ List.take (1 : Nat) (List.drop (0 : Nat) [y5]), ()))
          (P (List.take v2.2.fst.length (List.drop ((0 : Nat)) v2.2.fst))))
      ((0 : Int), [], PUnit.unit)) = fnW tab (look [(70, s_copyInts)]) s_copyLists Try.f96 (l, ()) P := by kernel_rfl
theorem w_specBuild (p : Int × ByteArray × List (List Int) × Unit) (t : List Int) (P : ((List Int × List (List Int) × List Int × Unit) × Bool × Unit) → Prop) : (∃ (y3 : (List (List Int) × List Int × List Int × Bool × PUnit) × Bool × PUnit),
  s_searchPat.fn ((p.fst, p.2.fst, p.snd.2.fst, ()), t, ()) = some y3 ∧
    Br (!y3.2.fst) (P ((List.take (0 : Nat) (List.drop (0 : Nat) []), List.take (0 : Nat) (List.drop (0 : Nat) []), List.take (0 : Nat) (List.drop (0 : Nat) []), ()), false, ()))
      (∃ (y4 : List Int),
        s_copyInts.fn (t, ()) = some y4 ∧
          ∃ (y5 : List (List Int)), s_copyLists.fn (y3.1.fst, ()) = some y5 ∧ ∃ (y6 : List Int), s_copyInts.fn (y3.fst.2.fst, ()) = some y6 ∧ P ((y4, y5, y6, ()), true, ()))) = fnW tab (look [(95, s_searchPat), (70, s_copyInts), (96, s_copyLists)]) s_specBuild Try.f42 (p, t, ()) P := by kernel_rfl
theorem w_patterns (n : Int) (str : ByteArray) (g : List (List Int)) (t : List Int) (P : ((List (List Int) × List Int × Bool × Unit) × Unit) → Prop) : (∃ (y5 : (List Int × PUnit) × PUnit),
  s_cloneM.fn (t, ()) = some y5 ∧
    ∃ (y6 : ByteArray),
      s_stateKey.fn (t, ()) = some y6 ∧
        ∃ (y7 : List Int),
          s_letters.fn ((↑g.length : Int), ()) = some y7 ∧
            (0 : Nat) = (0 : Nat) ∧
              (1 : Nat) = [List.take y5.1.fst.length (List.drop (0 : Nat) y5.1.fst)].length ∧
                (0 : Nat) = (0 : Nat) ∧
                  (1 : Nat) = [(0 : Int)].length ∧
                    (0 : Nat) = (0 : Nat) ∧
                      (0 : Nat) = ([] : List Int).length ∧
                        WLoop
                          (fun (v8 : Int × Int × ByteArray × List (List Int) × List (List Int) × List (List Int) × List Int × (ByteArray → Option Bool) × PUnit)
                              (k9 : Int × Int × ByteArray × List (List Int) × List (List Int) × List (List Int) × List Int × (ByteArray → Option Bool) × PUnit → Prop) =>
                            Br (decide (v8.fst < (↑y7.length : Int)))
                              (∃ (y10 : Int),
                                idx y7 v8.fst = some y10 ∧
                                  ∃ (y11 : List Int),
                                    s_letterOf.fn (v8.2.snd.2.fst, y10, ()) = some y11 ∧
                                      (0 : Nat) = (0 : Nat) ∧
                                        v8.snd.2.snd.2.fst.length = v8.snd.2.snd.2.fst.length ∧
                                          v8.snd.2.snd.2.fst.length + (List.take (1 : Nat) (List.drop (0 : Nat) [y11])).length ≤ maxRow ∧
                                            (0 : Nat) = (0 : Nat) ∧
                                              v8.2.snd.2.snd.2.fst.length = v8.2.snd.2.snd.2.fst.length ∧
                                                (0 : Nat) = (0 : Nat) ∧
                                                  v8.snd.2.snd.2.snd.2.fst.length = v8.snd.2.snd.2.snd.2.fst.length ∧
                                                    (0 : Nat) = (0 : Nat) ∧
                                                      (v8.snd.2.snd.2.fst ++ List.take (1 : Nat) (List.drop (0 : Nat) [y11])).length =
                                                          (v8.snd.2.snd.2.fst ++ List.take (1 : Nat) (List.drop (0 : Nat) [y11])).length ∧
                                                        k9
                                                          (IntKind.i64.wrap (v8.fst + (1 : Int)), v8.2.fst, v8.snd.2.fst, v8.2.snd.2.fst,
                                                            v8.snd.2.snd.2.fst ++ List.take (1 : Nat) (List.drop (0 : Nat) [y11]), v8.2.snd.2.snd.2.fst, v8.snd.2.snd.2.snd.2.fst,
                                                            v8.2.snd.2.snd.2.snd.2.fst, ()))
                              ((0 : Nat) = (0 : Nat) ∧
                                v8.2.snd.2.snd.2.fst.length = v8.2.snd.2.snd.2.fst.length ∧
                                  (0 : Nat) = (0 : Nat) ∧
                                    v8.snd.2.snd.2.snd.2.fst.length = v8.snd.2.snd.2.snd.2.fst.length ∧
                                      (0 : Nat) = (0 : Nat) ∧
                                        v8.snd.2.snd.2.fst.length = v8.snd.2.snd.2.fst.length ∧
                                          WLoop
                                            (fun (v10 : Int × List (List Int) × List (List Int) × List Int × (ByteArray → Option Bool) × PUnit)
                                                (k11 : Int × List (List Int) × List (List Int) × List Int × (ByteArray → Option Bool) × PUnit → Prop) =>
                                              Br (decide (v10.fst < (↑v10.snd.2.fst.length : Int)))
                                                ((0 : Nat) = (0 : Nat) ∧
                                                  v10.snd.2.fst.length = v10.snd.2.fst.length ∧
                                                    (0 : Nat) = (0 : Nat) ∧
                                                      v10.2.snd.2.fst.length = v10.2.snd.2.fst.length ∧
                                                        (0 : Nat) = (0 : Nat) ∧
                                                          v10.2.fst.length = v10.2.fst.length ∧
                                                            (0 : Nat) = (0 : Nat) ∧
                                                              v10.2.fst.length = v10.2.fst.length ∧
                                                                WLoop
                                                                  (fun (v12 : Int × List (List Int) × List (List Int) × List Int × (ByteArray → Option Bool) × PUnit)
                                                                      (k13 : Int × List (List Int) × List (List Int) × List Int × (ByteArray → Option Bool) × PUnit → Prop) =>
                                                                    Br (decide (v12.fst < (↑v10.2.fst.length : Int)))
                                                                      (((0 : Int) ≤ v12.fst ∧ v12.fst < (↑v12.2.fst.length : Int)) ∧
                                                                        ∃ (y14 : List Int),
                                                                          v12.2.fst[(0 : Nat) + v12.fst.toNat]? = some y14 ∧
                                                                            ((0 : Int) ≤ v10.fst ∧ v10.fst < (↑v12.snd.2.fst.length : Int)) ∧
                                                                              ∃ (y15 : List Int),
                                                                                v12.snd.2.fst[(0 : Nat) + v10.fst.toNat]? = some y15 ∧
                                                                                  ∃ (y16 : (List Int × PUnit) × PUnit),
                                                                                    s_pickedM.fn (y14, y15, ()) = some y16 ∧
                                                                                      ∃ (y17 : ByteArray),
                                                                                        s_stateKey.fn (List.take y16.1.fst.length (List.drop (0 : Nat) y16.1.fst), ()) = some y17 ∧
                                                                                          Br (!(v12.2.snd.2.snd.fst y17).getD false)
                                                                                            (Br ((↑v12.snd.2.fst.length : Int) == (3000 : Int))
                                                                                              (P
                                                                                                ((List.take (0 : Nat) (List.drop (0 : Nat) []), List.take (0 : Nat) (List.drop (0 : Nat) []), false,
                                                                                                    ()),
                                                                                                  ()))
                                                                                              ((0 : Nat) = (0 : Nat) ∧
                                                                                                v12.snd.2.fst.length = v12.snd.2.fst.length ∧
                                                                                                  v12.snd.2.fst.length +
                                                                                                        (List.take (1 : Nat)
                                                                                                            (List.drop (0 : Nat) [List.take y16.1.fst.length (List.drop (0 : Nat) y16.1.fst)])).length ≤
                                                                                                      maxRow ∧
                                                                                                    ((0 : Int) ≤ v10.fst ∧ v10.fst < (↑v12.2.snd.2.fst.length : Int)) ∧
                                                                                                      ∃ (y18 : Int),
                                                                                                        v12.2.snd.2.fst[(0 : Nat) + v10.fst.toNat]? = some y18 ∧
                                                                                                          (0 : Nat) = (0 : Nat) ∧
                                                                                                            v12.2.snd.2.fst.length = v12.2.snd.2.fst.length ∧
                                                                                                              v12.2.snd.2.fst.length +
                                                                                                                    (List.take (1 : Nat)
                                                                                                                        (List.drop (0 : Nat) [IntKind.i64.wrap (y18 + (1 : Int))])).length ≤
                                                                                                                  maxRow ∧
                                                                                                                (0 : Nat) = (0 : Nat) ∧
                                                                                                                  (v12.snd.2.fst ++
                                                                                                                          List.take (1 : Nat)
                                                                                                                            (List.drop (0 : Nat)
                                                                                                                              [List.take y16.1.fst.length (List.drop (0 : Nat) y16.1.fst)])).length =
                                                                                                                      (v12.snd.2.fst ++
                                                                                                                          List.take (1 : Nat)
                                                                                                                            (List.drop (0 : Nat)
                                                                                                                              [List.take y16.1.fst.length (List.drop (0 : Nat) y16.1.fst)])).length ∧
                                                                                                                    (0 : Nat) = (0 : Nat) ∧
                                                                                                                      (v12.2.snd.2.fst ++
                                                                                                                              List.take (1 : Nat)
                                                                                                                                (List.drop (0 : Nat) [IntKind.i64.wrap (y18 + (1 : Int))])).length =
                                                                                                                          (v12.2.snd.2.fst ++
                                                                                                                              List.take (1 : Nat)
                                                                                                                                (List.drop (0 : Nat) [IntKind.i64.wrap (y18 + (1 : Int))])).length ∧
                                                                                                                        (0 : Nat) = (0 : Nat) ∧
                                                                                                                          v12.2.fst.length = v12.2.fst.length ∧
                                                                                                                            (0 : Nat) = (0 : Nat) ∧
                                                                                                                              v12.2.fst.length = v12.2.fst.length ∧
                                                                                                                                k13
                                                                                                                                  (IntKind.i64.wrap (v12.fst + (1 : Int)), v12.2.fst,
                                                                                                                                    v12.snd.2.fst ++
                                                                                                                                      List.take (1 : Nat)
                                                                                                                                        (List.drop (0 : Nat)
                                                                                                                                          [List.take y16.1.fst.length (List.drop (0 : Nat) y16.1.fst)]),
                                                                                                                                    v12.2.snd.2.fst ++
                                                                                                                                      List.take (1 : Nat)
                                                                                                                                        (List.drop (0 : Nat) [IntKind.i64.wrap (y18 + (1 : Int))]),
                                                                                                                                    upd1 v12.snd.2.snd.2.fst y17 true, ())))
                                                                                            ((0 : Nat) = (0 : Nat) ∧
                                                                                              v12.snd.2.fst.length = v12.snd.2.fst.length ∧
                                                                                                (0 : Nat) = (0 : Nat) ∧
                                                                                                  v12.2.snd.2.fst.length = v12.2.snd.2.fst.length ∧
                                                                                                    (0 : Nat) = (0 : Nat) ∧
                                                                                                      v12.2.fst.length = v12.2.fst.length ∧
                                                                                                        (0 : Nat) = (0 : Nat) ∧
                                                                                                          v12.2.fst.length = v12.2.fst.length ∧
                                                                                                            k13
                                                                                                              (IntKind.i64.wrap (v12.fst + (1 : Int)), v12.2.fst, v12.snd.2.fst, v12.2.snd.2.fst,
                                                                                                                v12.snd.2.snd.2.fst, ())))
                                                                      ((0 : Nat) = (0 : Nat) ∧
                                                                        v12.snd.2.fst.length = v12.snd.2.fst.length ∧
                                                                          (0 : Nat) = (0 : Nat) ∧
                                                                            v12.2.snd.2.fst.length = v12.2.snd.2.fst.length ∧
                                                                              (0 : Nat) = (0 : Nat) ∧
                                                                                v12.2.fst.length = v12.2.fst.length ∧
                                                                                  k11 (IntKind.i64.wrap (v10.fst + (1 : Int)), v12.2.fst, v12.snd.2.fst, v12.2.snd.2.fst, v12.snd.2.snd.2.fst, ())))
                                                                  ((0 : Int), v10.2.fst, v10.snd.2.fst, v10.2.snd.2.fst, v10.snd.2.snd.2.fst, PUnit.unit))
                                                (P
                                                  ((List.take v10.snd.2.fst.length (List.drop ((0 : Nat)) v10.snd.2.fst), List.take v10.2.snd.2.fst.length (List.drop ((0 : Nat)) v10.2.snd.2.fst),
                                                      true, ()),
                                                    ())))
                                            ((0 : Int), v8.snd.2.snd.2.fst, v8.2.snd.2.snd.2.fst, v8.snd.2.snd.2.snd.2.fst, v8.2.snd.2.snd.2.snd.2.fst, PUnit.unit)))
                          ((0 : Int), n, str, g, [], [List.take y5.1.fst.length (List.drop (0 : Nat) y5.1.fst)], [(0 : Int)], upd1 (fun (_ : ByteArray) => none) y6 true, PUnit.unit)) = fnMW (tabM [weakBase + 10]) (look [(76, s_cloneM), (78, s_stateKey), (64, s_letters), (130, s_letterOf), (77, s_pickedM)]) s_patterns Try.f141 (n, str, g, t, ()) P := by kernel_rfl
theorem w_reachPat (n : Int) (str : ByteArray) (g : List (List Int)) (t : List Int) (P : ((List (List Int) × List Int × Bool × Unit) × Unit) → Prop) : (∃ (y5 : Bool),
  s_trackedSet.fn ((n, str, g, ()), t, ()) = some y5 ∧
    Br (!y5) (P ((List.take (0 : Nat) (List.drop (0 : Nat) []), List.take (0 : Nat) (List.drop (0 : Nat) []), false, ()), ()))
      (∃ (y6 : (List (List Int) × List Int × Bool × PUnit) × PUnit),
        s_patterns.fn (n, str, g, t, ()) = some y6 ∧
          P ((List.take y6.1.fst.length (List.drop (0 : Nat) y6.1.fst), List.take y6.fst.2.fst.length (List.drop (0 : Nat) y6.fst.2.fst), y6.1.snd.2.fst, ()), ()))) = fnMW tabT (look [(140, s_trackedSet), (141, s_patterns)]) s_reachPat Try.f97 (n, str, g, t, ()) P := by kernel_rfl
theorem w_implBuild (n : Int) (str : ByteArray) (g : List (List Int)) (t : List Int) (P : ((List Int × List (List Int) × List Int × Bool × Unit) × Unit) → Prop) : (∃ (y5 : (List (List Int) × List Int × Bool × PUnit) × PUnit),
  s_reachPat.fn (n, str, g, t, ()) = some y5 ∧
    Br (!y5.1.snd.2.fst) (P ((List.take (0 : Nat) (List.drop (0 : Nat) []), List.take (0 : Nat) (List.drop (0 : Nat) []), List.take (0 : Nat) (List.drop (0 : Nat) []), false, ()), ()))
      (∃ (y6 : (List Int × PUnit) × PUnit),
        s_cloneM.fn (t, ()) = some y6 ∧
          P
            ((List.take y6.1.fst.length (List.drop (0 : Nat) y6.1.fst), List.take y5.1.fst.length (List.drop (0 : Nat) y5.1.fst), List.take y5.fst.2.fst.length (List.drop (0 : Nat) y5.fst.2.fst),
                true, ()),
              ()))) = fnMW tabT (look [(97, s_reachPat), (76, s_cloneM)]) s_implBuild Try.f43 (n, str, g, t, ()) P := by kernel_rfl
theorem w_implValidT (p : Int × ByteArray × List (List Int) × Unit) (t : List Int × List (List Int) × List Int × Unit) (P : Bool → Prop) : (∃ (y3 : (List Int × List (List Int) × List Int × Bool × PUnit) × PUnit),
  s_implBuild.fn (p.fst, p.2.fst, p.snd.2.fst, t.fst, ()) = some y3 ∧
    Br y3.fst.2.snd.2.fst
      (∃ (y4 : Bool),
        s_eqTable.fn
              ((List.take y3.1.fst.length (List.drop (0 : Nat) y3.1.fst), List.take y3.fst.2.fst.length (List.drop (0 : Nat) y3.fst.2.fst),
                  List.take y3.1.snd.2.fst.length (List.drop (0 : Nat) y3.1.snd.2.fst), ()),
                (t.fst, t.2.fst, t.snd.2.fst, ()), ()) =
            some y4 ∧
          P y4)
      (P false)) = fnW tab (look [(43, s_implBuild), (99, s_eqTable)]) s_validT Try.f45 (p, t, ()) P := by kernel_rfl
theorem w_specValidT (p : Int × ByteArray × List (List Int) × Unit) (t : List Int × List (List Int) × List Int × Unit) (P : Bool → Prop) : (∃ (y3 : (List Int × List (List Int) × List Int × PUnit) × Bool × PUnit),
  s_specBuild.fn ((p.fst, p.2.fst, p.snd.2.fst, ()), t.fst, ()) = some y3 ∧
    Br y3.2.fst (∃ (y4 : Bool), s_eqTable.fn ((y3.1.fst, y3.fst.2.fst, y3.1.snd.2.fst, ()), (t.fst, t.2.fst, t.snd.2.fst, ()), ()) = some y4 ∧ P y4) (P false)) = fnW tab (look [(42, s_specBuild), (98, s_eqTable)]) s_validT Try.f44 (p, t, ()) P := by kernel_rfl
theorem w_ts1 (t : List Int × List (List Int) × List Int × Unit) (p : Int × ByteArray × List (List Int) × Unit) (P : Bool → Prop) : (∃ (y3 : Bool), s_validT.fn (p, (t.fst, t.2.fst, t.snd.2.fst, ()), ()) = some y3 ∧ P !y3) = fnW tab (look [(45, s_validT)]) s_ts1 Try.f101 (t, p, ()) P := by kernel_rfl
theorem w_ixTS (ts : List (List Int × List (List Int) × List Int × Unit)) (c : (Int × ByteArray × List (List Int) × Unit) × Unit) (P : Int → Prop) : (WLoop
  (fun (v3 : Int × PUnit) (k4 : Int × PUnit → Prop) =>
    Br (decide (v3.fst < (↑ts.length : Int)))
      (∃ (y5 : List Int × List (List Int) × List Int × PUnit),
        idx ts v3.fst = some y5 ∧ ∃ (y6 : Bool), s_ts1.fn (y5, c.fst, ()) = some y6 ∧ Br y6 (P v3.fst) (k4 (IntKind.i64.wrap (v3.fst + (1 : Int)), ())))
      (P (-1 : Int)))
  ((0 : Int), PUnit.unit)) = fnW tab (look [(101, s_ts1)]) s_ixTS Try.f143 (ts, c, ()) P := by kernel_rfl
theorem w_ctTS (ts : List (List Int × List (List Int) × List Int × Unit)) (c : (Int × ByteArray × List (List Int) × Unit) × Unit) (P : Bool → Prop) : (∃ (y3 : Int), s_ixTS.fn (ts, c, ()) = some y3 ∧ P (decide (y3 ≥ (0 : Int)))) = fnW tab (look [(143, s_ixTS)]) s_ctTS Try.f100 (ts, c, ()) P := by kernel_rfl
theorem w_implTableSet (p : Int × ByteArray × List (List Int) × Unit) (ts : List (List Int × List (List Int) × List Int × Unit)) (P : Bool → Prop) : (∃ (y3 : Bool),
  s_validP.fn ((p.fst, p.2.fst, p.snd.2.fst, ()), ()) = some y3 ∧
    Br y3 (Br (decide ((↑ts.length : Int) ≤ (4 : Int))) (∃ (y4 : Bool), s_ctTS.fn (ts, ((p.fst, p.2.fst, p.snd.2.fst, ()), ()), ()) = some y4 ∧ P !y4) (P false)) (P false)) = fnW tab (look [(60, s_validP), (100, s_ctTS)]) s_tableSet Try.f49 (p, ts, ()) P := by kernel_rfl
theorem w_specTableSet (p : Int × ByteArray × List (List Int) × Unit) (ts : List (List Int × List (List Int) × List Int × Unit)) (P : Bool → Prop) : (∃ (y3 : Bool),
  s_validP.fn ((p.fst, p.2.fst, p.snd.2.fst, ()), ()) = some y3 ∧
    Br (!y3) (P false)
      (Br (decide ((↑ts.length : Int) > (4 : Int))) (P false)
        (WLoop
          (fun (v4 : Int × Int × ByteArray × List (List Int) × PUnit) (k5 : Int × Int × ByteArray × List (List Int) × PUnit → Prop) =>
            Br (decide (v4.fst < (↑ts.length : Int)))
              (∃ (y6 : List Int × List (List Int) × List Int × PUnit),
                idx ts v4.fst = some y6 ∧
                  ∃ (y7 : Bool),
                    s_validT.fn ((v4.2.fst, v4.snd.2.fst, v4.2.snd.2.fst, ()), y6, ()) = some y7 ∧
                      Br (!y7) (P false) (k5 (IntKind.i64.wrap (v4.fst + (1 : Int)), v4.2.fst, v4.snd.2.fst, v4.2.snd.2.fst, ())))
              (P true))
          ((0 : Int), p.fst, p.2.fst, p.snd.2.fst, PUnit.unit)))) = fnW tab (look [(56, s_validP), (44, s_validT)]) s_tableSet Try.f47 (p, ts, ()) P := by kernel_rfl
theorem w_szTS (ts : List (List Int × List (List Int) × List Int × Unit)) (k : Int) (P : Int → Prop) : (Br (decide (IntKind.i64.wrap (k - (↑ts.length : Int)) < (0 : Int))) (P (-1 : Int))
  (WLoop
    (fun (v3 : Int × Int × PUnit) (k4 : Int × Int × PUnit → Prop) =>
      Br (decide (v3.2.fst < (↑ts.length : Int)))
        (∃ (y5 : List Int × List (List Int) × List Int × PUnit),
          idx ts v3.2.fst = some y5 ∧ ∃ (y6 : Int), s_szTable.fn (y5, v3.fst, ()) = some y6 ∧ Br (decide (y6 < (0 : Int))) (P (-1 : Int)) (k4 (y6, IntKind.i64.wrap (v3.2.fst + (1 : Int)), ())))
        (P v3.fst))
    (IntKind.i64.wrap (k - (↑ts.length : Int)), (0 : Int), PUnit.unit))) = fnW tab (look [(23, s_szTable)]) s_szTS Try.f46 (ts, k, ()) P := by kernel_rfl
theorem w_toTS (ts : List (List Int × List (List Int) × List Int × Unit)) (P : List (List Int × List (List Int) × List Int × Unit) → Prop) : (((0 : Int) ≤ (↑ts.length : Int) ∧ (↑ts.length : Int) < (↑maxRow : Int) + (1 : Int)) ∧
  (↑ts.length : Int) = (↑ts.length : Int) ∧
    (0 : Nat) = (0 : Nat) ∧
      (List.replicate (↑ts.length : Int).toNat (([] : List Int), ([] : List (List Int)), ([] : List Int), ())).length = (List.replicate (↑ts.length : Int).toNat (([] : List Int), ([] : List (List Int)), ([] : List Int), ())).length ∧
        WLoop
          (fun (v2 : Int × List (List Int × List (List Int) × List Int × PUnit) × PUnit) (k3 : Int × List (List Int × List (List Int) × List Int × PUnit) × PUnit → Prop) =>
            Br (decide (v2.fst < (↑ts.length : Int)))
              (∃ (y4 : List Int × List (List Int) × List Int × PUnit),
                idx ts v2.fst = some y4 ∧
                  ∃ (y5 : List Int × List (List Int) × List Int × PUnit),
                    s_toTable.fn (y4, ()) = some y5 ∧
                      ((0 : Int) ≤ v2.fst ∧ v2.fst < (↑v2.2.fst.length : Int)) ∧
                        (0 : Nat) + v2.fst.toNat < v2.2.fst.length ∧
                          (0 : Nat) = (0 : Nat) ∧
                            v2.2.fst.length = (v2.2.fst.set ((0 : Nat) + v2.fst.toNat) y5).length ∧ k3 (IntKind.i64.wrap (v2.fst + (1 : Int)), v2.2.fst.set ((0 : Nat) + v2.fst.toNat) y5, ()))
              (P (List.take v2.2.fst.length (List.drop ((0 : Nat)) v2.2.fst))))
          ((0 : Int), List.replicate (↑ts.length : Int).toNat (([] : List Int), ([] : List (List Int)), ([] : List Int), ()), PUnit.unit)) = fnW tab (look [(25, s_toTable)]) s_toTS Try.f48 (ts, ()) P := by kernel_rfl
theorem w_eqTS (a b : List (List Int × List (List Int) × List Int × Unit)) (P : Bool → Prop) : (Br ((↑a.length : Int) != (↑b.length : Int)) (P false)
  (WLoop
    (fun (v3 : Int × PUnit) (k4 : Int × PUnit → Prop) =>
      Br (decide (v3.fst < (↑a.length : Int)))
        (∃ (y5 : List Int × List (List Int) × List Int × PUnit),
          idx a v3.fst = some y5 ∧
            ∃ (y6 : List Int × List (List Int) × List Int × PUnit),
              idx b v3.fst = some y6 ∧ ∃ (y7 : Bool), s_eqTable.fn (y5, y6, ()) = some y7 ∧ Br (!y7) (P false) (k4 (IntKind.i64.wrap (v3.fst + (1 : Int)), ())))
        (P true))
    ((0 : Int), PUnit.unit))) = fnW tab (look [(28, s_eqTable)]) s_eqTS Try.f50 (a, b, ()) P := by kernel_rfl
theorem w_lawTableSet (p : Int × ByteArray × List (List Int) × Unit) (ts : List (List Int × List (List Int) × List Int × Unit)) (P : Bool → Prop) : (∃ (y3 : Int),
  s_szP.fn ((p.fst, p.2.fst, p.snd.2.fst, ()), (1048576 : Int), ()) = some y3 ∧
    Br (decide (y3 < (0 : Int))) (P true)
      (∃ (y4 : Int),
        s_szTS.fn (ts, y3, ()) = some y4 ∧
          Br (decide (y4 < (0 : Int))) (P true)
            (∃ (y5 : Int × ByteArray × List (List Int) × PUnit),
              s_toP.fn ((p.fst, p.2.fst, p.snd.2.fst, ()), ()) = some y5 ∧
                ∃ (y6 : List (List Int × List (List Int) × List Int × PUnit)),
                  s_toTS.fn (ts, ()) = some y6 ∧
                    ∃ (y7 : Bool),
                      s_tableSet.fn (y5, y6, ()) = some y7 ∧
                        ∃ (y8 : Int × ByteArray × List (List Int) × PUnit),
                          s_toP.fn ((p.fst, p.2.fst, p.snd.2.fst, ()), ()) = some y8 ∧
                            ∃ (y9 : List (List Int × List (List Int) × List Int × PUnit)),
                              s_toTS.fn (ts, ()) = some y9 ∧
                                ∃ (y10 : Bool),
                                  s_tableSet.fn ((y8.fst, y8.2.fst, y8.snd.2.fst, ()), y9, ()) = some y10 ∧
                                    Br (!y10 == y7) (P false)
                                      (∃ (y11 : Int × ByteArray × List (List Int) × PUnit),
                                        s_toP.fn ((p.fst, p.2.fst, p.snd.2.fst, ()), ()) = some y11 ∧
                                          ∃ (y12 : Bool),
                                            s_eqP.fn ((y8.fst, y8.2.fst, y8.snd.2.fst, ()), y11, ()) = some y12 ∧
                                              Br (!y12) (P false)
                                                (∃ (y13 : List (List Int × List (List Int) × List Int × PUnit)),
                                                  s_toTS.fn (ts, ()) = some y13 ∧ ∃ (y14 : Bool), s_eqTS.fn (y9, y13, ()) = some y14 ∧ Br (!y14) (P false) (P true)))))) = fnW tab (look [(14, s_szP), (46, s_szTS), (47, s_tableSet), (49, s_tableSet), (16, s_toP), (48, s_toTS), (19, s_eqP), (50, s_eqTS)]) s_lawPTS Try.f11 (p, ts, ()) P := by kernel_rfl
theorem bfsIn_ok {p : PP} (hV : Valid p) {m : Nat} {x : List Int} {d : Int} (hx : ∀ y ∈ x, 0 ≤ y ∧ y < p.1) (hxl : x.length = m) : ∀ (ls : List Int) (L : List (List Int)) (D : List Int), (∀ l ∈ ls, isLetter (List.length p.2.2.1) l) →
    BfsOK p m L D → (0 ≤ d ∧ d < L.length) → BfsOK p m (bfsIn p.2.2.1 x d ls L D).1 (bfsIn p.2.2.1 x d ls L D).2.1 ∧ (∃ A, (bfsIn p.2.2.1 x d ls L D).1 = L ++ A) ∧ (∃ A, (bfsIn p.2.2.1 x d ls L D).2.1 = D ++ A)
  | [], L, D, _, h, _ => ⟨h, ⟨[], by simp [bfsIn]⟩, ⟨[], by simp [bfsIn]⟩⟩
  | l :: ls, L, D, hl, h, hd => by
    obtain ⟨n1, n2⟩ := next_ok hV hx (hl l (by simp))
    have hl' : ∀ l ∈ ls, isLetter (List.length p.2.2.1) l := fun l' h' => hl l' (List.mem_cons_of_mem _ h')
    simp only [bfsIn]
    split
    · exact bfsIn_ok hV hx hxl ls L D hl' h hd
    · rename_i hn
      split
      · exact ⟨h, ⟨[], by simp⟩, ⟨[], by simp⟩⟩
      · rename_i hf
        have hfew := h.ok.few
        obtain ⟨k1, ⟨A, k2⟩, ⟨A', k3⟩⟩ := bfsIn_ok hV hx hxl ls (L ++ [m_compose x (m_letterOf p.2.2.1 l)]) (D ++ [d + 1]) hl' (h.add hn (by rw [n1, hxl]) (by omega) n2 ⟨by omega, by omega⟩) ⟨hd.1, by rw [List.length_append]; omega⟩
        exact ⟨k1, ⟨_ :: A, by rw [k2, List.append_assoc]; rfl⟩, ⟨_ :: A', by rw [k3, List.append_assoc]; rfl⟩⟩
theorem bfsGo_ok {p : PP} (hV : Valid p) {m : Nat} {ls : List Int} (hl : ∀ l ∈ ls, isLetter (List.length p.2.2.1) l) : ∀ (f k : Nat) (L : List (List Int)) (D : List Int), BfsOK p m L D →
    BfsOK p m (bfsGo p.2.2.1 ls f k L D).1 (bfsGo p.2.2.1 ls f k L D).2.1 ∧ (∃ A, (bfsGo p.2.2.1 ls f k L D).1 = L ++ A)
  | 0, k, L, D, h => ⟨h, ⟨[], by simp [bfsGo]⟩⟩
  | f + 1, k, L, D, h => by
    simp only [bfsGo]
    split
    · rename_i hk
      have hkD : k < D.length := by rw [h.len]; exact hk
      have hd := h.dep k hkD
      have e : D.getD k 0 = D[k] := by rw [List.getD_eq_getElem?_getD, List.getElem?_eq_getElem hkD]; rfl
      rw [getD_nat hk, e]
      obtain ⟨k1, ⟨A, k2⟩, _⟩ := bfsIn_ok hV (h.row _ (List.getElem_mem hk)) (h.ok.len _ (List.getElem_mem hk)) (d := D[k]) ls L D hl h ⟨by omega, by omega⟩
      split
      · rename_i L' D' he
        rw [he] at k1 k2
        obtain ⟨g1, ⟨B, g2⟩⟩ := bfsGo_ok hV hl f (k + 1) L' D' k1
        have k2 : L' = L ++ A := k2
        exact ⟨g1, ⟨A ++ B, by rw [g2, k2, List.append_assoc]⟩⟩
      · rename_i L' D' he
        rw [he] at k1 k2
        exact ⟨k1, ⟨A, k2⟩⟩
    · exact ⟨h, ⟨[], by simp⟩⟩
theorem bfs_ok {p : PP} {s : List Int} (hv : m_validP p = true) (hs : s.length ≤ 20) (hr : ∀ y ∈ s, 0 ≤ y ∧ y < p.1) : BfsOK p s.length (m_bfs p.2.2.1 s).1 (m_bfs p.2.2.1 s).2.1 ∧ ∃ A, (m_bfs p.2.2.1 s).1 = s :: A :=
  bfsGo_ok (valid hv) (fun _ hl => mem_letters hl) _ _ _ _ (bfs_start hs hr)
theorem tracked_iff {p : PP} {t : List Int} : m_tracked p t = true ↔ m_validP p = true ∧ m_pointList p.1 t = true := by
  unfold m_tracked; rw [Bool.and_eq_true]
theorem tracked_row {p : PP} {t : List Int} (h : m_tracked p t = true) : t.length ≤ 20 ∧ ∀ y ∈ t, 0 ≤ y ∧ y < p.1 := by
  obtain ⟨h1, h2⟩ := tracked_iff.1 h
  have hn := (valid h1).n
  obtain ⟨h3, h4⟩ := dec_iff.1 h2
  have hy : ∀ y ∈ t, 0 ≤ y ∧ y < p.1 := fun y hy => by
    obtain ⟨j, hj, rfl⟩ := List.mem_iff_getElem.1 hy
    have := h4 j hj hj
    omega
  refine ⟨?_, hy⟩
  have h5 := pl_len h4 (t.length - 1) (by omega)
  have h6 := hy _ (List.getElem_mem (show t.length - 1 < t.length by omega))
  omega
theorem pat_ok {p : PP} {t : List Int} (h : m_tracked p t = true) : BfsOK p t.length (m_bfs p.2.2.1 t).1 (m_bfs p.2.2.1 t).2.1 := (bfs_ok (tracked_iff.1 h).1 (tracked_row h).1 (tracked_row h).2).1
theorem patOK_iff {p : PP} {t : List Int} : m_patOK p t = true ↔ m_tracked p t = true ∧ (m_bfs p.2.2.1 t).2.2 = true := by
  unfold m_patOK; rw [Bool.and_eq_true]
theorem bfs_short {p : PP} {m : Nat} {L : List (List Int)} {D : List Int} (h : BfsOK p m L D) : shortLL L ∧ short D := by
  have h1 := h.ok.few
  have h2 := h.ok.short
  have h3 := h.len
  refine ⟨⟨by omega, fun x hx => ?_⟩, by unfold short; omega⟩
  have := h.ok.len x hx
  unfold short; omega
theorem build_short {p : PP} {t : List Int} : shortT (m_build p t) := by
  unfold m_build
  split
  · rename_i h
    have h1 := (patOK_iff.1 h).1
    have h2 := bfs_short (pat_ok h1)
    have h3 := (tracked_row h1).1
    exact ⟨show t.length ≤ 4294967296 by omega, h2.1, h2.2⟩
  · exact ⟨by simp [short], ⟨by simp, fun r hr => by cases hr⟩, by simp [short]⟩
theorem p_implTracked (p : PP) (t : List Int) (h : shortP p ∧ short t) : fnW tab (look [(60, s_validP), (74, s_pointList)]) s_trackedSet Try.f140 (p, t, ()) (fun (z : Bool) => z = m_tracked p t) := by
  refine Eq.mp (w_implTracked p t _) ⟨_, if_pos h.1, ⟨fun hv => ?_, fun hv => ?_⟩⟩
  · have hv : m_validP p = true := hv
    have hn := (valid hv).n
    refine ⟨_, if_pos ⟨⟨by show 0 ≤ p.1; omega, by show p.1 ≤ 4294967296; omega⟩, h.2⟩, ?_⟩
    unfold m_tracked; rw [hv]; rfl
  · have hv : m_validP p = false := hv
    unfold m_tracked; rw [hv]; rfl
theorem sound_implTracked : Sound Try.prog 140 s_trackedSet :=
  Sound.mkS tabOK (envCons sound_implValidP (envCons sound_isTracked envNil)) mixed Try.func140 (by kernel_rfl) (by kernel_rfl) fun x h => p_implTracked x.1 x.2.1 h
theorem p_specTracked (p : PP) (t : List Int) (h : shortP p ∧ short t) : fnW tab (look [(56, s_validP), (68, s_pointList)]) s_trackedSet Try.f106 (p, t, ()) (fun (z : Bool) => z = m_tracked p t) := by
  refine Eq.mp (w_specTracked p t _) ⟨_, if_pos h.1, ⟨fun hv => ?_, fun hv => ?_⟩⟩
  · have hv : m_validP p = true := hv
    have hn := (valid hv).n
    refine ⟨_, if_pos ⟨⟨by show 0 ≤ p.1; omega, by show p.1 ≤ 4294967296; omega⟩, h.2⟩, ?_⟩
    unfold m_tracked; rw [hv]; rfl
  · have hv : m_validP p = false := hv
    unfold m_tracked; rw [hv]; rfl
theorem sound_specTracked : Sound Try.prog 106 s_trackedSet :=
  Sound.mkS tabOK (envCons sound_specValidP (envCons sound_isPointList envNil)) mixed Try.func106 (by kernel_rfl) (by kernel_rfl) fun x h => p_specTracked x.1 x.2.1 h
theorem p_searchPat (p : PP) (t : List Int) (h : shortP p ∧ short t) : fnW tab (look [(106, s_trackedSet), (139, s_sFrom)]) s_searchPat Try.f95 (p, t, ()) (fun (z : SS × Bool × Unit) => z = (m_searchPat p t, m_patOK p t, ())) := by
  refine Eq.mp (w_searchPat p t _) ⟨_, if_pos h, ⟨fun hn => ?_, fun hn => ?_⟩⟩
  · have hn := bnot_true hn
    have e : m_patOK p t = false := Bool.eq_false_iff.2 fun hh => hn (patOK_iff.1 hh).1
    unfold m_searchPat
    rw [if_neg hn, e]
    rfl
  · have hn : m_tracked p t = true := bnot_false hn
    have e : m_patOK p t = (m_bfs p.2.2.1 t).2.2 := by unfold m_patOK; rw [hn, Bool.true_and]
    refine ⟨_, if_pos ⟨(tracked_iff.1 hn).1, (tracked_row hn).1, (tracked_row hn).2⟩, ?_⟩
    have key : (((m_search p.2.2.1 t).1, (m_search p.2.2.1 t).2.1, (m_search p.2.2.1 t).2.2.1, (m_search p.2.2.1 t).2.2.2.1, ()), (m_search p.2.2.1 t).2.2.2.1, ()) = (m_searchPat p t, m_patOK p t, ()) := by
      unfold m_searchPat
      rw [if_pos hn, e]
      rfl
    exact ⟨⟨⟨key, key⟩, key⟩, ⟨key, key⟩, key⟩
theorem sound_searchPat : Sound Try.prog 95 s_searchPat :=
  Sound.mkS tabOK (envCons sound_specTracked (envCons sound_sFrom envNil)) mixed Try.func95 (by kernel_rfl) (by kernel_rfl) fun x h => p_searchPat x.1 x.2.1 h
theorem p_copyLists (l : List (List Int)) (h : shortLL l) : fnW tab (look [(70, s_copyInts)]) s_copyLists Try.f96 (l, ()) (fun (z : List (List Int)) => z = l) := by
  obtain ⟨h1, h2⟩ := h
  refine Eq.mp (w_copyLists l _) ⟨rfl, rfl, ?_⟩
  refine loop_range l.length (fun v => v.1) (fun j v => v.2.1 = l.take j) rfl (by simp) ?_
  rintro j ⟨i, ys, ⟨⟩⟩ K hj hi hR hK
  dsimp only at hi hR ⊢
  subst hi hR
  refine Br.dec (fun hl => ?_) fun hl => ?_
  · have hl : j < l.length := by omega
    refine ⟨_, idx_nat hl, _, if_pos (h2 _ (List.getElem_mem hl)), rfl, rfl, ?_, rfl, rfl, ?_⟩
    · show (List.take j l).length + 1 ≤ 4294967296
      rw [List.length_take]; omega
    · rw [wrap_nat (by omega)]
      refine hK hl _ rfl ?_
      show List.take j l ++ [l[j]] = _
      rw [List.take_add_one, List.getElem?_eq_getElem hl]; rfl
  · have : j = l.length := by omega
    subst this
    rw [whole_row, List.take_length]
theorem sound_copyLists : Sound Try.prog 96 s_copyLists :=
  Sound.mkS tabOK (envCons sound_copyInts envNil) mixed Try.func96 (by kernel_rfl) (by kernel_rfl) fun x h => p_copyLists x.1 h
theorem p_specBuild (p : PP) (t : List Int) (h : shortP p ∧ short t) : fnW tab (look [(95, s_searchPat), (70, s_copyInts), (96, s_copyLists)]) s_specBuild Try.f42 (p, t, ()) (fun (z : TT × Bool × Unit) => z = (m_build p t, m_patOK p t, ())) := by
  refine Eq.mp (w_specBuild p t _) ⟨_, if_pos h, ⟨fun hn => ?_, fun hn => ?_⟩⟩
  · have hn := bnot_true hn
    have hn : ¬ m_patOK p t = true := hn
    unfold m_build
    rw [if_neg hn, Bool.eq_false_iff.2 hn]
    rfl
  · have hn : m_patOK p t = true := bnot_false hn
    obtain ⟨h1, h2⟩ := patOK_iff.1 hn
    have h3 := bfs_short (pat_ok h1)
    have e : m_searchPat p t = m_search p.2.2.1 t := if_pos h1
    refine ⟨_, if_pos h.2, ?_⟩
    show ∃ y5 : List (List Int), s_copyLists.fn ((m_searchPat p t).1, ()) = some y5 ∧ ∃ y6 : List Int, s_copyInts.fn ((m_searchPat p t).2.1, ()) = some y6 ∧ ((t, y5, y6, ()), true, ()) = (m_build p t, m_patOK p t, ())
    rw [e]
    refine ⟨_, if_pos h3.1, _, if_pos h3.2, ?_⟩
    unfold m_build
    rw [if_pos hn, hn]
    rfl
theorem sound_specBuild : Sound Try.prog 42 s_specBuild :=
  Sound.mkS tabOK (envCons sound_searchPat (envCons sound_copyInts (envCons sound_copyLists envNil))) mixed Try.func42 (by kernel_rfl) (by kernel_rfl) fun x h => p_specBuild x.1 x.2.1 h
/-- The patterns seen. -/
def SeenOK (m : ByteArray → Option Bool) (L : List (List Int)) : Prop := ∀ q, byteL q → (m (m_key q)).getD false = decide (q ∈ L)
theorem SeenOK.add {m : ByteArray → Option Bool} {L : List (List Int)} {y : List Int} (h : SeenOK m L) (hy : byteL y) : SeenOK (upd1 m (m_key y) true) (L ++ [y]) := by
  intro q hq
  unfold upd1
  by_cases e : q = y
  · subst e
    rw [if_pos rfl]; simp
  · rw [if_neg fun hk => e (key_inj hq hy hk), h q hq]
    simp [e]
theorem p_patterns (n : Int) (str : ByteArray) (g : List (List Int)) (t : List Int) (h : m_tracked (n, str, g, ()) t = true) :
    fnMW (tabM [weakBase + 10]) (look [(76, s_cloneM), (78, s_stateKey), (64, s_letters), (130, s_letterOf), (77, s_pickedM)]) s_patterns Try.f141 (n, str, g, t, ()) (fun (z : (List (List Int) × List Int × Bool × Unit) × Unit) => z = (((m_build (n, str, g, ()) t).2.1, (m_build (n, str, g, ()) t).2.2.1, m_patOK (n, str, g, ()) t, ()), ())) := by
  obtain ⟨hv, _⟩ := tracked_iff.1 h
  obtain ⟨ht, hr⟩ := tracked_row h
  have hV := valid hv
  have hfew := hV.few
  have hn := hV.n
  dsimp only at hfew hn hr
  have hb0 := bfs_start (p := (n, str, g, ())) ht hr
  have hsh : short t := by unfold short; omega
  obtain ⟨ls, hls⟩ : ∃ ls, m_letters g.length = ls := ⟨_, rfl⟩
  have hll : ls.length ≤ 16 := by rw [← hls, m_letters_len]; omega
  have hmem : ∀ l ∈ ls, isLetter (List.length g) l := fun l hl => mem_letters (hls ▸ hl)
  have hstart : bfsGo g ls 3001 0 [t] [0] = m_bfs g t := by unfold m_bfs; rw [hls]
  have hbyte : ∀ x : List Int, (∀ y ∈ x, 0 ≤ y ∧ y < n) → byteL x := fun x hx y hy => by have := hx y hy; omega
  have hfin : ∀ L D ok, m_bfs g t = (L, D, ok) → (if ok = true then ((L, D, true, ()), ()) else ((([] : List (List Int)), ([] : List Int), false, ()), ())) = (((m_build (n, str, g, ()) t).2.1, (m_build (n, str, g, ()) t).2.2.1, m_patOK (n, str, g, ()) t, ()), ()) := by
    intro L D ok he
    have e1 : m_patOK (n, str, g, ()) t = ok := by unfold m_patOK; rw [h, Bool.true_and]; show (m_bfs g t).2.2 = ok; rw [he]
    unfold m_build
    rw [e1]
    cases ok with
    | true => rw [if_pos rfl, if_pos rfl]; show ((L, D, true, ()), ()) = (((m_bfs g t).1, (m_bfs g t).2.1, true, ()), ()); rw [he]
    | false => rw [if_neg (by decide), if_neg (by decide)]
  refine Eq.mp (w_patterns n str g t _) ⟨_, if_pos hsh, _, if_pos hsh, ls, (if_pos ⟨by show (0 : Int) ≤ ((g.length : Nat) : Int); omega, by show ((g.length : Nat) : Int) ≤ 8; omega⟩).trans (congrArg some (by show m_letters (((g.length : Nat) : Int)).toNat = ls; rw [Int.toNat_natCast]; exact hls)), rfl, rfl, rfl, rfl, rfl, rfl, ?_⟩
  rw [whole_row]
  refine loop_range ls.length (fun v => v.1) (fun j v => v.2.1 = n ∧ v.2.2.1 = str ∧ v.2.2.2.1 = g ∧ v.2.2.2.2.1 = (ls.take j).map (m_letterOf g) ∧ v.2.2.2.2.2.1 = [t] ∧ v.2.2.2.2.2.2.1 = [0] ∧ SeenOK v.2.2.2.2.2.2.2.1 [t]) rfl
    ⟨rfl, rfl, rfl, by simp, rfl, rfl, fun q hq => ?_⟩ ?_
  · show (upd1 (fun _ => none) (m_key t) true (m_key q)).getD false = _
    unfold upd1
    by_cases e : q = t
    · subst e; rw [if_pos rfl]; simp
    · rw [if_neg fun hk => e (key_inj hq (hbyte t hr) hk)]; simp [e]
  rintro j ⟨i, n', str', g', mv, L1, D1, m1, ⟨⟩⟩ K hj hi ⟨h1, h2, h3, h4, h5, h6, h7⟩ hK
  dsimp only at hi h1 h2 h3 h4 h5 h6 h7 ⊢
  subst hi h1 h2 h3 h4 h5 h6
  refine Br.dec (fun hl => ?_) fun hl => ⟨rfl, rfl, rfl, rfl, rfl, rfl, ?_⟩
  · have hl : j < ls.length := by omega
    have hlet := hmem _ (List.getElem_mem hl)
    refine ⟨_, idx_nat hl, _, if_pos ⟨hlet, hfew.2, hV.perm⟩, rfl, rfl, ?_, rfl, rfl, rfl, rfl, rfl, rfl, ?_⟩
    · show (List.map (m_letterOf g') (List.take j ls)).length + 1 ≤ 4294967296
      rw [List.length_map, List.length_take]; omega
    · rw [wrap_nat (by omega)]
      refine hK hl _ rfl ⟨rfl, rfl, rfl, ?_, rfl, rfl, h7⟩
      show List.map (m_letterOf g') (List.take j ls) ++ [m_letterOf g' ls[j]] = _
      rw [List.take_add_one, List.getElem?_eq_getElem hl, List.map_append]; rfl
  · have : j = ls.length := by omega
    subst this
    rw [List.take_length]
    obtain ⟨ms, hms⟩ : ∃ ms, ls.map (m_letterOf g') = ms := ⟨_, rfl⟩
    have hmsl : ms.length = ls.length := by rw [← hms, List.length_map]
    have hmsi : ∀ i (h : i < ls.length), ms[i]'(by omega) = m_letterOf g' ls[i] := fun i h => by simp only [← hms, List.getElem_map]
    rw [hms]
    refine WLoop.mk (fun v => v.2.1 = ms ∧ ∃ k : Nat, v.1 = k ∧ k ≤ v.2.2.1.length ∧ BfsOK (n', str', g', ()) t.length v.2.2.1 v.2.2.2.1 ∧ SeenOK v.2.2.2.2.1 v.2.2.1 ∧ bfsGo g' ls (3001 - k) k v.2.2.1 v.2.2.2.1 = m_bfs g' t) (fun v => 3001 - v.1.toNat)
      ⟨rfl, 0, rfl, by simp, hb0, h7, hstart⟩ ?_
    rintro ⟨k', mv, L0, D0, mp, ⟨⟩⟩ ⟨h1, k, h5, h6, h7, h8, h9⟩
    dsimp only at h1 h5 h6 h7 h8 h9
    subst h1 h5
    dsimp only
    have hL0 := h7.ok.few
    have hD0 := h7.len
    refine Br.dec (fun hl => ⟨rfl, rfl, rfl, rfl, rfl, rfl, rfl, rfl, ?_⟩) fun hl => ?_
    · have hk : k < L0.length := by omega
      have hkD : k < D0.length := by omega
      have hx : ∀ y ∈ L0[k], 0 ≤ y ∧ y < n' := h7.row _ (List.getElem_mem hk)
      have hxl : L0[k].length = t.length := h7.ok.len _ (List.getElem_mem hk)
      have hdk := h7.dep k hkD
      obtain ⟨f, hf⟩ : ∃ f, 3001 - k = f + 1 := ⟨3000 - k, by omega⟩
      have hgo : ∀ L' D' ok, bfsIn g' L0[k] D0[k] ls L0 D0 = (L', D', ok) → m_bfs g' t = if ok = true then bfsGo g' ls f (k + 1) L' D' else (L', D', false) := by
        intro L' D' ok he
        rw [← h9, hf, bfsGo, if_pos hk, getD_nat hk, List.getD_eq_getElem?_getD, List.getElem?_eq_getElem hkD]
        simp only [Option.getD_some]
        rw [he]
        cases ok <;> rfl
      refine WLoop.mk (fun v => v.2.1 = mv ∧ ∃ i : Nat, v.1 = i ∧ i ≤ ls.length ∧ BfsOK (n', str', g', ()) t.length v.2.2.1 v.2.2.2.1 ∧ SeenOK v.2.2.2.2.1 v.2.2.1 ∧ (∃ A, v.2.2.1 = L0 ++ A) ∧ (∃ A, v.2.2.2.1 = D0 ++ A) ∧
          bfsIn g' L0[k] D0[k] (ls.drop i) v.2.2.1 v.2.2.2.1 = bfsIn g' L0[k] D0[k] ls L0 D0) (fun v => ls.length - v.1.toNat)
        ⟨rfl, 0, rfl, Nat.zero_le _, h7, h8, ⟨[], by simp⟩, ⟨[], by simp⟩, rfl⟩ ?_
      rintro ⟨i', mv', L, D, mp2, ⟨⟩⟩ ⟨g1, i, g5, g6, g7, g8, ⟨A, g9⟩, ⟨A', g10⟩, g11⟩
      dsimp only at g1 g5 g6 g7 g8 g9 g10 g11
      subst g1 g5
      dsimp only
      have hLf := g7.ok.few
      have hDl := g7.len
      refine Br.dec (fun hli => ?_) fun hli => ?_
      · have hi : i < ls.length := by omega
        have hkL : k < L.length := by rw [g9, List.length_append]; omega
        have hLk : L[k] = L0[k] := by simp only [g9]; exact List.getElem_append_left hk
        have hkD2 : k < D.length := by rw [hDl]; exact hkL
        have hDk : D[k] = D0[k] := by simp only [g10]; exact List.getElem_append_left hkD
        have hlet := hmem _ (List.getElem_mem hi)
        obtain ⟨nl, nr⟩ := next_ok hV hx hlet
        dsimp only at nl nr
        have hlo := letter_ok hV hlet
        dsimp only at hlo
        rw [List.drop_eq_getElem_cons hi] at g11
        simp only [bfsIn] at g11
        have hyb := hbyte _ nr
        refine ⟨⟨by omega, by omega⟩, m_letterOf g' ls[i], by rw [Int.toNat_natCast, Nat.zero_add, List.getElem?_eq_getElem (by omega), hmsi i hi], ⟨by omega, by omega⟩, L0[k], by rw [Int.toNat_natCast, Nat.zero_add, List.getElem?_eq_getElem hkL, hLk],
          _, if_pos ⟨by show short L0[k]; unfold short; omega, by show inRow (m_letterOf g' ls[i]).length L0[k]; intro y hy; have := hx y hy; omega⟩, ?_⟩
        dsimp only
        rw [show m_picked (m_letterOf g' ls[i]) L0[k] = m_compose L0[k] (m_letterOf g' ls[i]) from rfl, whole_row]
        generalize hyv : m_compose L0[k] (m_letterOf g' ls[i]) = yv at *
        refine ⟨_, if_pos (by show short yv; unfold short; rw [nl]; omega), ?_⟩
        dsimp only
        rw [g8 _ hyb]
        refine ⟨fun hin => ?_, fun hin => ⟨rfl, rfl, rfl, rfl, rfl, rfl, rfl, rfl, ?_⟩⟩
        · have hin : yv ∉ L := by simpa using hin
          rw [if_neg hin] at g11
          refine ⟨fun hfull => ?_, fun hfull => ⟨rfl, rfl, by show L.length + 1 ≤ 4294967296; omega, ⟨by omega, by omega⟩, D0[k], by rw [Int.toNat_natCast, Nat.zero_add, List.getElem?_eq_getElem hkD2, hDk], rfl, rfl, by show D.length + 1 ≤ 4294967296; omega, rfl, rfl, rfl, rfl, rfl, rfl, rfl, rfl, ?_⟩⟩
          · have hfull : L.length = 3000 := by
              have : (L.length : Int) = 3000 := by simpa using hfull
              omega
            rw [if_pos hfull] at g11
            have := hgo _ _ _ g11.symm
            rw [if_neg (by decide)] at this
            have := hfin _ _ _ this
            rw [if_neg (by decide)] at this
            exact this
          · have hfull : L.length ≠ 3000 := by
              have : (L.length : Int) ≠ 3000 := by simpa using hfull
              omega
            rw [if_neg hfull] at g11
            rw [wrap_id (n := D0[k] + 1) (by omega) (by omega), wrap_nat (by omega)]
            refine ⟨⟨rfl, i + 1, rfl, hi, g7.add hin (by rw [nl, hxl]) (by omega) nr ⟨by omega, by omega⟩, g8.add hyb, ⟨A ++ [yv], by rw [g9, List.append_assoc]; rfl⟩, ⟨A' ++ [D0[k] + 1], by rw [g10, List.append_assoc]; rfl⟩, g11⟩, by omega⟩
        · have hin : yv ∈ L := by simpa using hin
          rw [if_pos hin] at g11
          rw [wrap_nat (by omega)]
          exact ⟨⟨rfl, i + 1, rfl, hi, g7, g8, ⟨A, g9⟩, ⟨A', g10⟩, g11⟩, by omega⟩
      · have : i = ls.length := by omega
        subst this
        rw [List.drop_length, bfsIn] at g11
        have := hgo _ _ _ g11.symm
        rw [if_pos rfl] at this
        rw [wrap_nat (by omega)]
        refine ⟨rfl, rfl, rfl, rfl, rfl, rfl, ⟨rfl, k + 1, rfl, by rw [g9, List.length_append]; omega, g7, g8, ?_⟩, by omega⟩
        rw [show 3001 - (k + 1) = f by omega]
        exact this.symm
    · have hk : k = L0.length := by omega
      rw [whole_row L0, whole_row D0]
      obtain ⟨f, hf⟩ : ∃ f, 3001 - k = f + 1 := ⟨3000 - k, by omega⟩
      rw [hf, bfsGo, if_neg (by omega)] at h9
      have := hfin _ _ _ h9.symm
      rw [if_pos rfl] at this
      exact this
theorem sound_patterns : MSound Try.prog 141 s_patterns :=
  MSound.mkM (tabMOK [weakBase + 10]) (envConsM sound_cloneM (envCons sound_stateKey (envCons sound_letters (envCons sound_letterOf (envConsM sound_pickedM envNil))))) mixed Try.func141 (by kernel_rfl) (by kernel_rfl) fun x h => p_patterns x.1 x.2.1 x.2.2.1 x.2.2.2.1 h
theorem build_none {p : PP} {t : List Int} (h : ¬ m_patOK p t = true) : m_build p t = ([], [], [], ()) := if_neg h
theorem p_reachPat (n : Int) (str : ByteArray) (g : List (List Int)) (t : List Int) (h : shortP (n, str, g, ()) ∧ short t) :
    fnMW tabT (look [(140, s_trackedSet), (141, s_patterns)]) s_reachPat Try.f97 (n, str, g, t, ()) (fun (z : (List (List Int) × List Int × Bool × Unit) × Unit) => z = (((m_build (n, str, g, ()) t).2.1, (m_build (n, str, g, ()) t).2.2.1, m_patOK (n, str, g, ()) t, ()), ())) := by
  refine Eq.mp (w_reachPat n str g t _) ⟨_, if_pos h, ⟨fun hn => ?_, fun hn => ?_⟩⟩
  · have hn : ¬ m_tracked (n, str, g, ()) t = true := bnot_true hn
    have e : ¬ m_patOK (n, str, g, ()) t = true := fun hh => hn (patOK_iff.1 hh).1
    rw [build_none e, Bool.eq_false_iff.2 e]
    rfl
  · have hn : m_tracked (n, str, g, ()) t = true := bnot_false hn
    refine ⟨_, if_pos hn, ?_⟩
    rw [whole_row, whole_row]
theorem sound_reachPat : MSound Try.prog 97 s_reachPat :=
  MSound.mkM tabTOK (envCons sound_implTracked (envConsM sound_patterns envNil)) mixed Try.func97 (by kernel_rfl) (by kernel_rfl) fun x h => p_reachPat x.1 x.2.1 x.2.2.1 x.2.2.2.1 h
theorem p_implBuild (n : Int) (str : ByteArray) (g : List (List Int)) (t : List Int) (h : shortP (n, str, g, ()) ∧ short t) :
    fnMW tabT (look [(97, s_reachPat), (76, s_cloneM)]) s_implBuild Try.f43 (n, str, g, t, ()) (fun (z : (List Int × List (List Int) × List Int × Bool × Unit) × Unit) => z = (((m_build (n, str, g, ()) t).1, (m_build (n, str, g, ()) t).2.1, (m_build (n, str, g, ()) t).2.2.1, m_patOK (n, str, g, ()) t, ()), ())) := by
  refine Eq.mp (w_implBuild n str g t _) ⟨_, if_pos h, ⟨fun hn => ?_, fun hn => ?_⟩⟩
  · have e : ¬ m_patOK (n, str, g, ()) t = true := bnot_true hn
    rw [build_none e, Bool.eq_false_iff.2 e]
    rfl
  · have e : m_patOK (n, str, g, ()) t = true := bnot_false hn
    refine ⟨_, if_pos h.2, ?_⟩
    rw [whole_row, whole_row, whole_row, e]
    have e2 : (m_build (n, str, g, ()) t).1 = t := by unfold m_build; rw [if_pos e]
    rw [e2]
theorem sound_implBuild : MSound Try.prog 43 s_implBuild :=
  MSound.mkM tabTOK (envConsM sound_reachPat (envConsM sound_cloneM envNil)) mixed Try.func43 (by kernel_rfl) (by kernel_rfl) fun x h => p_implBuild x.1 x.2.1 x.2.2.1 x.2.2.2.1 h
theorem p_implValidT (p : PP) (t : TT) (h : shortP p ∧ shortT t) : fnW tab (look [(43, s_implBuild), (99, s_eqTable)]) s_validT Try.f45 (p, t, ()) (fun (z : Bool) => z = m_validT p t) := by
  refine Eq.mp (w_implValidT p t _) ⟨_, if_pos ⟨h.1, h.2.1⟩, ⟨fun hn => ?_, fun hn => ?_⟩⟩
  · have e : m_patOK p t.1 = true := hn
    rw [whole_row, whole_row, whole_row]
    refine ⟨_, if_pos build_short, ?_⟩
    unfold m_validT
    rw [e]; rfl
  · have e : m_patOK p t.1 = false := hn
    unfold m_validT
    rw [e]; rfl
theorem sound_implValidT : Sound Try.prog 45 s_validT :=
  Sound.mkS tabOK (envConsM sound_implBuild (envCons sound_implSameTable envNil)) mixed Try.func45 (by kernel_rfl) (by kernel_rfl) fun x h => p_implValidT x.1 x.2.1 h
theorem p_specValidT (p : PP) (t : TT) (h : shortP p ∧ shortT t) : fnW tab (look [(42, s_specBuild), (98, s_eqTable)]) s_validT Try.f44 (p, t, ()) (fun (z : Bool) => z = m_validT p t) := by
  refine Eq.mp (w_specValidT p t _) ⟨_, if_pos ⟨h.1, h.2.1⟩, ⟨fun hn => ?_, fun hn => ?_⟩⟩
  · have e : m_patOK p t.1 = true := hn
    refine ⟨_, if_pos build_short, ?_⟩
    unfold m_validT
    rw [e]; rfl
  · have e : m_patOK p t.1 = false := hn
    unfold m_validT
    rw [e]; rfl
theorem sound_specValidT : Sound Try.prog 44 s_validT :=
  Sound.mkS tabOK (envCons sound_specBuild (envCons sound_specSameTable envNil)) mixed Try.func44 (by kernel_rfl) (by kernel_rfl) fun x h => p_specValidT x.1 x.2.1 h
theorem p_ts1 (t : TT) (p : PP) (h : shortT t ∧ shortP p) : fnW tab (look [(45, s_validT)]) s_ts1 Try.f101 (t, p, ()) (fun (z : Bool) => z = !m_validT p t) := by
  exact Eq.mp (w_ts1 t p _) ⟨_, if_pos ⟨h.2, h.1⟩, rfl⟩
theorem sound_ts1 : Sound Try.prog 101 s_ts1 :=
  Sound.mkS tabOK (envCons sound_implValidT envNil) mixed Try.func101 (by kernel_rfl) (by kernel_rfl) fun x h => p_ts1 x.1 x.2.1 h
theorem p_ixTS (ts : List TT) (c : PP × Unit) (h : shortTS ts ∧ shortP c.1) : fnW tab (look [(101, s_ts1)]) s_ixTS Try.f143 (ts, c, ()) (fun (z : Int) => z = m_indexT (fun t => !m_validT c.1 t) ts 0) := by
  obtain ⟨⟨h1, h2⟩, h3⟩ := h
  refine Eq.mp (w_ixTS ts c _) ?_
  refine loop_range ts.length (fun v => v.1) (fun j _ => m_indexT (fun t => !m_validT c.1 t) (ts.drop j) j = m_indexT (fun t => !m_validT c.1 t) ts 0) rfl (by simp) ?_
  rintro j ⟨i, ⟨⟩⟩ K hj hi hR hK
  dsimp only at hi ⊢
  subst hi
  refine Br.dec (fun hl => ?_) fun hl => ?_
  · have hl : j < ts.length := by omega
    rw [List.drop_eq_getElem_cons hl] at hR
    simp only [m_indexT] at hR
    refine ⟨_, idx_nat hl, _, if_pos ⟨h2 _ (List.getElem_mem hl), h3⟩, ⟨fun he => ?_, fun he => ?_⟩⟩
    · have he : (!m_validT c.1 ts[j]) = true := he
      rw [if_pos he] at hR
      exact hR
    · have he : (!m_validT c.1 ts[j]) = false := he
      rw [if_neg (by rw [he]; decide)] at hR
      rw [wrap_nat (by omega)]
      exact hK hl _ rfl (by push_cast; exact hR)
  · have : j = ts.length := by omega
    subst this
    rw [List.drop_length] at hR
    exact hR
theorem sound_ixTS : Sound Try.prog 143 s_ixTS :=
  Sound.mkS tabOK (envCons sound_ts1 envNil) mixed Try.func143 (by kernel_rfl) (by kernel_rfl) fun x h => p_ixTS x.1 x.2.1 h
theorem indexT_any (q : TT → Bool) : ∀ (ts : List TT) (k : Int), 0 ≤ k → decide (m_indexT q ts k ≥ 0) = ts.any q
  | [], k, _ => by simp [m_indexT]
  | t :: ts, k, hk => by
    have ih := indexT_any q ts (k + 1) (by omega)
    rw [List.any_cons]
    by_cases e : q t = true
    · have e2 : m_indexT q (t :: ts) k = k := if_pos e
      rw [e]
      exact decide_eq_true (by rw [e2]; exact hk)
    · have e2 : m_indexT q (t :: ts) k = m_indexT q ts (k + 1) := if_neg e
      rw [Bool.eq_false_iff.2 e, Bool.false_or, ← ih]
      exact decide_eq_decide.2 (by rw [e2])
theorem p_ctTS (ts : List TT) (c : PP × Unit) (h : shortTS ts ∧ shortP c.1) : fnW tab (look [(143, s_ixTS)]) s_ctTS Try.f100 (ts, c, ()) (fun (z : Bool) => z = List.any ts (fun t => !m_validT c.1 t)) := by
  exact Eq.mp (w_ctTS ts c _) ⟨_, if_pos h, indexT_any _ ts 0 (Int.le_refl 0)⟩
theorem sound_ctTS : Sound Try.prog 100 s_ctTS :=
  Sound.mkS tabOK (envCons sound_ixTS envNil) mixed Try.func100 (by kernel_rfl) (by kernel_rfl) fun x h => p_ctTS x.1 x.2.1 h
theorem any_not_all (q : TT → Bool) (ts : List TT) : (!List.any ts fun t => !q t) = List.all ts q := by
  induction ts with
  | nil => rfl
  | cons t ts ih => simp only [List.any_cons, List.all_cons, ← ih]; cases q t <;> simp
theorem p_implTableSet (p : PP) (ts : List TT) (h : shortP p ∧ shortTS ts) : fnW tab (look [(60, s_validP), (100, s_ctTS)]) s_tableSet Try.f49 (p, ts, ()) (fun (z : Bool) => z = m_tableSet p ts) := by
  refine Eq.mp (w_implTableSet p ts _) ⟨_, if_pos h.1, ⟨fun hv => Br.dec (fun hl => ⟨_, if_pos ⟨h.2, h.1⟩, ?_⟩) fun hl => ?_, fun hv => ?_⟩⟩
  · have hv : m_validP p = true := hv
    have hl : ts.length ≤ 4 := by omega
    show (!List.any ts fun t => !m_validT p t) = _
    rw [any_not_all]
    unfold m_tableSet
    rw [hv, decide_eq_true hl]; rfl
  · unfold m_tableSet
    rw [decide_eq_false (by omega), Bool.and_false]; rfl
  · have hv : m_validP p = false := hv
    unfold m_tableSet
    rw [hv]; rfl
theorem sound_implTableSet : Sound Try.prog 49 s_tableSet :=
  Sound.mkS tabOK (envCons sound_implValidP (envCons sound_ctTS envNil)) mixed Try.func49 (by kernel_rfl) (by kernel_rfl) fun x h => p_implTableSet x.1 x.2.1 h
theorem p_specTableSet (p : PP) (ts : List TT) (h : shortP p ∧ shortTS ts) : fnW tab (look [(56, s_validP), (44, s_validT)]) s_tableSet Try.f47 (p, ts, ()) (fun (z : Bool) => z = m_tableSet p ts) := by
  refine Eq.mp (w_specTableSet p ts _) ⟨_, if_pos h.1, ⟨fun hv => ?_, fun hv => Br.dec (fun hl => ?_) fun hl => ?_⟩⟩
  · have hv : m_validP p = false := Bool.eq_false_iff.2 (bnot_true hv)
    unfold m_tableSet
    rw [hv]; rfl
  · unfold m_tableSet
    rw [decide_eq_false (by omega), Bool.and_false]; rfl
  · have hv : m_validP p = true := bnot_false hv
    have hl : ts.length ≤ 4 := by omega
    have e : m_tableSet p ts = List.all ts (m_validT p) := by
      unfold m_tableSet
      rw [hv, decide_eq_true hl]; rfl
    rw [e]
    refine loop_range ts.length (fun v => v.1) (fun j v => v.2.1 = p.1 ∧ v.2.2.1 = p.2.1 ∧ v.2.2.2.1 = p.2.2.1 ∧ List.all (ts.drop j) (m_validT p) = List.all ts (m_validT p)) rfl ⟨rfl, rfl, rfl, by simp⟩ ?_
    rintro j ⟨i, n1, n2, n3, ⟨⟩⟩ K hj hi ⟨h1, h2, h3, hR⟩ hK
    dsimp only at hi h1 h2 h3 hR ⊢
    subst hi h1 h2 h3
    refine Br.dec (fun hl => ?_) fun hl => ?_
    · have hl : j < ts.length := by omega
      rw [List.drop_eq_getElem_cons hl, List.all_cons] at hR
      refine ⟨_, idx_nat hl, _, if_pos ⟨h.1, h.2.2 _ (List.getElem_mem hl)⟩, ⟨fun he => ?_, fun he => ?_⟩⟩
      · have he : m_validT p ts[j] = false := Bool.eq_false_iff.2 (bnot_true he)
        rw [he, Bool.false_and] at hR
        exact hR
      · have he : m_validT p ts[j] = true := bnot_false he
        rw [he, Bool.true_and] at hR
        rw [wrap_nat (by omega)]
        exact hK hl _ rfl ⟨rfl, rfl, rfl, hR⟩
    · have : j = ts.length := by omega
      subst this
      rw [List.drop_length] at hR
      exact hR
theorem sound_specTableSet : Sound Try.prog 47 s_tableSet :=
  Sound.mkS tabOK (envCons sound_specValidP (envCons sound_specValidT envNil)) mixed Try.func47 (by kernel_rfl) (by kernel_rfl) fun x h => p_specTableSet x.1 x.2.1 h
theorem p_szTS (ts : List TT) (k : Int) (h : shortTS ts ∧ roomy k) : fnW tab (look [(23, s_szTable)]) s_szTS Try.f46 (ts, k, ()) (fun (z : Int) => z = m_szTS ts k) := by
  obtain ⟨⟨h1, h2⟩, h3, h4⟩ := h
  refine Eq.mp (w_szTS ts k _) ?_
  rw [wrap_id (by omega) (by omega)]
  refine Br.dec (fun hn => ?_) fun hn => ?_
  · exact (if_pos hn).symm
  · have e : m_szTS ts k = szTSGo ts (k - ts.length) := if_neg hn
    rw [e]
    refine loop_range ts.length (fun v => v.2.1) (fun j v => roomy v.1 ∧ szTSGo (ts.drop j) v.1 = szTSGo ts (k - ts.length)) rfl ⟨⟨by omega, by omega⟩, by simp⟩ ?_
    rintro j ⟨r, i, ⟨⟩⟩ K hj hi ⟨hr, hR⟩ hK
    dsimp only at hi hr hR ⊢
    subst hi
    refine Br.dec (fun hl => ?_) fun hl => ?_
    · have hl : j < ts.length := by omega
      rw [List.drop_eq_getElem_cons hl] at hR
      simp only [szTSGo] at hR
      refine ⟨_, idx_nat hl, _, if_pos ⟨h2 _ (List.getElem_mem hl), hr⟩, Br.dec (fun hm => ?_) fun hm => ?_⟩
      · have hm : m_szTable ts[j] r < 0 := hm
        rw [if_pos hm] at hR
        exact hR
      · have hm : ¬ m_szTable ts[j] r < 0 := hm
        rw [if_neg hm] at hR
        rw [wrap_nat (by omega)]
        exact hK hl _ rfl ⟨m_szTable_room hr hm, hR⟩
    · have : j = ts.length := by omega
      subst this
      rw [List.drop_length] at hR
      exact hR
theorem sound_szTS : Sound Try.prog 46 s_szTS :=
  Sound.mkS tabOK (envCons sound_szTable envNil) mixed Try.func46 (by kernel_rfl) (by kernel_rfl) fun x h => p_szTS x.1 x.2.1 h
theorem p_toTS (ts : List TT) (h : shortTS ts) : fnW tab (look [(25, s_toTable)]) s_toTS Try.f48 (ts, ()) (fun (z : List TT) => z = ts) := by
  obtain ⟨h, h4⟩ := h
  refine Eq.mp (w_toTS ts _) ?_
  refine ⟨⟨by omega, by show (ts.length : Int) < (4294967296 : Int) + 1; omega⟩, rfl, rfl, rfl, ?_⟩
  refine loop_range ts.length (fun v => v.1) (fun j v => v.2.1.length = ts.length ∧ v.2.1.take j = ts.take j) rfl ⟨by simp, by simp⟩ ?_
  rintro j ⟨i, ys, ⟨⟩⟩ K hj hi ⟨h1, h2⟩ hK
  dsimp only at hi h1 h2 ⊢
  subst hi
  refine Br.dec (fun hl => ?_) fun hl => ?_
  · have hl : j < ts.length := by omega
    refine ⟨_, idx_nat hl, _, if_pos (h4 _ (List.getElem_mem hl)), ⟨by omega, by omega⟩, by rw [Int.toNat_natCast]; omega, rfl, by rw [List.length_set], ?_⟩
    rw [wrap_nat (by omega), Int.toNat_natCast, Nat.zero_add]
    exact hK hl _ rfl ⟨by rw [List.length_set]; exact h1, take_set_succ hl h1 h2⟩
  · have : j = ts.length := by omega
    subst this
    rw [List.take_length, ← h1, List.take_length] at h2
    rw [List.drop_zero, List.take_length]
    exact h2
theorem sound_toTS : Sound Try.prog 48 s_toTS :=
  Sound.mkS tabOK (envCons sound_toTable envNil) mixed Try.func48 (by kernel_rfl) (by kernel_rfl) fun x h => p_toTS x.1 h
theorem m_eqT_iff {a b : TT} : m_eqT a b = true ↔ a = b := by
  obtain ⟨a1, a2, a3, ⟨⟩⟩ := a
  obtain ⟨b1, b2, b3, ⟨⟩⟩ := b
  simp [m_eqT]
theorem p_eqTS (a b : List TT) (h : shortTS a) : fnW tab (look [(28, s_eqTable)]) s_eqTS Try.f50 (a, b, ()) (fun (z : Bool) => z = decide (a = b)) := by
  obtain ⟨h1, h2⟩ := h
  refine Eq.mp (w_eqTS a b _) ⟨fun hl => ?_, fun hl => ?_⟩
  · have hl : a.length ≠ b.length := by
      have : (a.length : Int) ≠ b.length := by simpa using hl
      omega
    exact (decide_eq_false fun e => hl (by rw [e])).symm
  · have hl : a.length = b.length := by
      have : (a.length : Int) = b.length := by simpa using hl
      omega
    refine loop_range a.length (fun v => v.1) (fun j _ => (a = b ↔ a.drop j = b.drop j)) rfl (by simp) ?_
    rintro j ⟨i, ⟨⟩⟩ K hj hi hR hK
    dsimp only at hi ⊢
    subst hi
    refine Br.dec (fun hla => ?_) fun hla => ?_
    · have hla : j < a.length := by omega
      have hlb : j < b.length := by omega
      rw [List.drop_eq_getElem_cons hla, List.drop_eq_getElem_cons hlb] at hR
      refine ⟨_, idx_nat hla, _, idx_nat hlb, _, if_pos (h2 _ (List.getElem_mem hla)), ⟨fun he => ?_, fun he => ?_⟩⟩
      · have he : ¬ m_eqT a[j] b[j] = true := bnot_true he
        refine (decide_eq_false fun e => he (m_eqT_iff.2 ?_)).symm
        have := hR.1 e
        simp only [List.cons.injEq] at this
        exact this.1
      · have he : m_eqT a[j] b[j] = true := bnot_false he
        rw [m_eqT_iff.1 he] at hR
        rw [wrap_nat (by omega)]
        exact hK hla _ rfl (hR.trans ⟨fun e => (List.cons.inj e).2, fun e => by rw [e]⟩)
    · have : j = a.length := by omega
      subst this
      rw [List.drop_length, hl, List.drop_length] at hR
      exact (decide_eq_true (hR.2 rfl)).symm
theorem sound_eqTS : Sound Try.prog 50 s_eqTS :=
  Sound.mkS tabOK (envCons sound_eqTable envNil) mixed Try.func50 (by kernel_rfl) (by kernel_rfl) fun x h => p_eqTS x.1 x.2.1 h
theorem p_lawTableSet (p : PP) (ts : List TT) (h : shortP p ∧ shortTS ts) : fnW tab (look [(14, s_szP), (46, s_szTS), (47, s_tableSet), (49, s_tableSet), (16, s_toP), (48, s_toTS), (19, s_eqP), (50, s_eqTS)]) s_lawPTS Try.f11 (p, ts, ()) (fun (z : Bool) => z = true) := by
  obtain ⟨h0, h1⟩ := h
  refine Eq.mp (w_lawTableSet p ts _) ⟨_, if_pos ⟨h0, roomy_1m⟩, Br.dec (fun _ => rfl) fun hn => ⟨_, if_pos ⟨h1, (szP_room roomy_1m hn).2⟩, Br.dec (fun _ => rfl) fun _ => ?_⟩⟩
  refine ⟨_, if_pos h0, _, if_pos h1, _, if_pos ⟨h0, h1⟩, _, if_pos h0, _, if_pos h1, _, if_pos ⟨h0, h1⟩, ⟨fun he => bools_same he, fun _ => ?_⟩⟩
  refine ⟨_, if_pos h0, _, if_pos h0, ⟨fun he => not_self (m_eqP_self p) he, fun _ => ?_⟩⟩
  exact ⟨_, if_pos h1, _, if_pos h1, ⟨fun he => not_self (decide_eq_true rfl) he, fun _ => rfl⟩⟩
theorem sound_lawTableSet : Sound Try.prog 11 s_lawPTS :=
  Sound.mkS tabOK (envCons sound_szP (envCons sound_szTS (envCons sound_specTableSet (envCons sound_implTableSet (envCons sound_toP (envCons sound_toTS (envCons sound_eqP (envCons sound_eqTS envNil)))))))) mixed Try.func11 (by kernel_rfl) (by kernel_rfl) fun x h => p_lawTableSet x.1 x.2.1 h
end Go.Proofs.Ytfghmbpogmcboaa
