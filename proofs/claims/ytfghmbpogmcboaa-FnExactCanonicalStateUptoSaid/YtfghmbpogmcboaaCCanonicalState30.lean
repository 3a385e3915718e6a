/-
  Part 31 of the proof that the statement FnExactCanonicalState holds.
-/
import Derived.Test.YtfghmbpogmcboaaCCanonicalState29
namespace Go.Proofs.Ytfghmbpogmcboaa
open Go.RowKit

abbrev rLL : CK := .row tL 26
/-- The next permutation in order, if there is one. -/
def lastGt (v : Int) : List Int → Nat
  | [] => 0
  | x :: r => if x > v then lastGt v r + 1 else 0
def m_pivot (v : Int) (t : List Int) : Option (List Int) := if lastGt v t = 0 then none else some (gets t ((lastGt v t - 1 : Nat) : Int) :: (t.set (lastGt v t - 1) v).reverse)
def m_next : List Int → Option (List Int)
  | [] => none
  | v :: t => match m_next t with
    | some t' => some (v :: t')
    | none => m_pivot v t
/-- A row of which a part is turned round, i places from either end. -/
def revAt (xs : List Int) (o n i k : Nat) : Option Int := if o ≤ k ∧ k < o + n ∧ (k < o + i ∨ o + n ≤ k + i) then xs[o + n - 1 - (k - o)]? else xs[k]?
def m_rev (xs : List Int) (o n : Nat) : List Int := List.take o xs ++ (List.take n (List.drop o xs)).reverse ++ List.drop (o + n) xs
noncomputable abbrev s_reverse : MSpec := mkM [none] [(true, .part tI 2)] false [] [] (fun x => short x.1.1 ∧ x.1.2.1 + x.1.2.2 ≤ List.length x.1.1) (fun x => ((), (m_rev x.1.1 x.1.2.1 x.1.2.2, ())))
noncomputable abbrev s_nextPerm : MSpec := mkM [none] [(true, rL)] false [none] [.dat .bool] (fun x => 1 ≤ List.length x.1 ∧ List.length x.1 ≤ 20 ∧ List.Nodup (x.1 : List Int)) (fun x => (((m_next x.1).isSome, ()), ((m_next x.1).getD x.1, ())))
noncomputable abbrev s_identityM : MSpec := mkM [none] [(false, .dat tI)] false [none] [rL] (fun x => 0 ≤ x.1 ∧ x.1 ≤ 20) (fun x => ((upto x.1.toNat, ()), ()))
/-- The arrangements of k of the numbers of a list, in lexicographic order of the list. -/
def lex : Nat → List Int → List (List Int)
  | 0, _ => [[]]
  | k + 1, R => R.flatMap fun v => (lex k (R.erase v)).map (v :: ·)
def restOf (n : Nat) (l : List Int) : List Int := (upto n).filter fun v => !l.contains v
noncomputable def m_syms (p : PP) : List (List Int) := (lex p.1.toNat (upto p.1.toNat)).filter (m_isSym p)
def extsOf (n : Nat) (l : List Int) : List (List Int) := (lex (n - l.length) (restOf n l)).map (l ++ ·)
noncomputable def m_ext (p : PP) (l : List Int) (out : List (List Int)) : List (List Int) := out ++ (extsOf p.1.toNat l).filter (m_isSym p)
noncomputable abbrev s_symListI : MSpec := mkM [some 3] [(false, .dat tI), (false, .dat .str), (false, .dat tLL)] false [none] [xLL] (fun x => m_validP (x.1, x.2.1, x.2.2.1, ()) = true ∧ x.1 ≤ 7) (fun x => ((m_syms (x.1, x.2.1, x.2.2.1, ()), ()), ()))
noncomputable abbrev s_extN (m : Nat) : MSpec := mkM [some 3, none, none] [(false, .dat tI), (false, .dat .str), (false, .dat tLL), (false, .dat tL), (false, rLL)] false [none] [rLL]
  (fun x => (m_validP (x.1, x.2.1, x.2.2.1, ()) = true ∧ x.1 ≤ 7 ∧ List.Nodup (x.2.2.2.1 : List Int) ∧ inRow x.1.toNat x.2.2.2.1 ∧ List.length x.2.2.2.1 ≤ x.1.toNat ∧ List.length x.2.2.2.2.1 + (extsOf x.1.toNat x.2.2.2.1).length ≤ 6000) ∧ x.1.toNat - List.length x.2.2.2.1 < m)
  (fun x => ((m_ext (x.1, x.2.1, x.2.2.1, ()) x.2.2.2.1 x.2.2.2.2.1, ()), ()))
noncomputable abbrev s_copyIntsM : MSpec := mkM [none] [(false, .dat tL)] false [none] [rL] (fun x => short x.1) (fun x => ((x.1, ()), ()))
theorem w_copyIntsM (xs : List Int) (P : ((List Int × Unit) × Unit) → Prop) : ((0 : Nat) = (0 : Nat) ∧ (0 : Nat) = ([] : List Int).length ∧ (0 : Nat) + xs.length ≤ maxRow ∧ P ((List.take ([] ++ xs).length (List.drop (0 : Nat) ([] ++ xs)), ()), ())) = fnMW tabT (look []) s_copyIntsM Try.f70 (xs, ()) P := by kernel_rfl
theorem w_reverse (a : List Int × Nat × Nat) (P : (Unit × List Int × Unit) → Prop) : (a.2.fst = a.snd.1 ∧
  a.2.snd = a.snd.2 ∧
    WLoop
      (fun (v2 : Int × Int × List Int × PUnit) (k3 : Int × Int × List Int × PUnit → Prop) =>
        Br (decide (v2.fst < v2.2.fst))
          (((0 : Int) ≤ v2.2.fst ∧ v2.2.fst < (↑a.snd.2 : Int)) ∧
            ∃ (y4 : Int),
              v2.snd.2.fst[a.snd.1 + v2.2.fst.toNat]? = some y4 ∧
                ((0 : Int) ≤ v2.fst ∧ v2.fst < (↑a.snd.2 : Int)) ∧
                  ∃ (y5 : Int),
                    v2.snd.2.fst[a.snd.1 + v2.fst.toNat]? = some y5 ∧
                      ((0 : Int) ≤ v2.fst ∧ v2.fst < (↑a.snd.2 : Int)) ∧
                        a.snd.1 + v2.fst.toNat < v2.snd.2.fst.length ∧
                          ((0 : Int) ≤ v2.2.fst ∧ v2.2.fst < (↑a.snd.2 : Int)) ∧
                            a.snd.1 + v2.2.fst.toNat < (v2.snd.2.fst.set (a.snd.1 + v2.fst.toNat) y4).length ∧
                              a.snd.1 = a.snd.1 ∧
                                a.snd.2 = a.snd.2 ∧
                                  k3
                                    (IntKind.i64.wrap (v2.fst + (1 : Int)), IntKind.i64.wrap (v2.2.fst - (1 : Int)), (v2.snd.2.fst.set (a.snd.1 + v2.fst.toNat) y4).set (a.snd.1 + v2.2.fst.toNat) y5,
                                      ()))
          (P ((), v2.snd.2.fst, ())))
      ((0 : Int), IntKind.i64.wrap ((↑a.2.snd : Int) - (1 : Int)), a.fst, PUnit.unit)) = fnMW tabR (look []) s_reverse Try.f158 (a, ()) P := by kernel_rfl
theorem w_nextPerm (xs : List Int) (P : ((Bool × Unit) × List Int × Unit) → Prop) : ((0 : Nat) = (0 : Nat) ∧
  xs.length = xs.length ∧
    WLoop
      (fun (v2 : Int × List Int × PUnit) (k3 : Int × List Int × PUnit → Prop) =>
        Br (decide (v2.fst ≥ (0 : Int)))
          (((0 : Int) ≤ v2.fst ∧ v2.fst < (↑v2.2.fst.length : Int)) ∧
            ∃ (y4 : Int),
              v2.2.fst[(0 : Nat) + v2.fst.toNat]? = some y4 ∧
                ((0 : Int) ≤ IntKind.i64.wrap (v2.fst + (1 : Int)) ∧ IntKind.i64.wrap (v2.fst + (1 : Int)) < (↑v2.2.fst.length : Int)) ∧
                  ∃ (y5 : Int),
                    v2.2.fst[(0 : Nat) + (IntKind.i64.wrap (v2.fst + (1 : Int))).toNat]? = some y5 ∧
                      Br (decide (y4 > y5)) ((0 : Nat) = (0 : Nat) ∧ v2.2.fst.length = v2.2.fst.length ∧ k3 (IntKind.i64.wrap (v2.fst - (1 : Int)), v2.2.fst, ()))
                        (Br (decide (v2.fst < (0 : Int))) (P ((false, ()), v2.2.fst, ()))
                          ((0 : Nat) = (0 : Nat) ∧
                            v2.2.fst.length = v2.2.fst.length ∧
                              WLoop
                                (fun (v6 : Int × List Int × PUnit) (k7 : Int × List Int × PUnit → Prop) =>
                                  ((0 : Int) ≤ v6.fst ∧ v6.fst < (↑v6.2.fst.length : Int)) ∧
                                    ∃ (y8 : Int),
                                      v6.2.fst[(0 : Nat) + v6.fst.toNat]? = some y8 ∧
                                        ((0 : Int) ≤ v2.fst ∧ v2.fst < (↑v6.2.fst.length : Int)) ∧
                                          ∃ (y9 : Int),
                                            v6.2.fst[(0 : Nat) + v2.fst.toNat]? = some y9 ∧
                                              Br (decide (y8 < y9)) ((0 : Nat) = (0 : Nat) ∧ v6.2.fst.length = v6.2.fst.length ∧ k7 (IntKind.i64.wrap (v6.fst - (1 : Int)), v6.2.fst, ()))
                                                (((0 : Int) ≤ v6.fst ∧ v6.fst < (↑v6.2.fst.length : Int)) ∧
                                                  ∃ (y10 : Int),
                                                    v6.2.fst[(0 : Nat) + v6.fst.toNat]? = some y10 ∧
                                                      ((0 : Int) ≤ v2.fst ∧ v2.fst < (↑v6.2.fst.length : Int)) ∧
                                                        ∃ (y11 : Int),
                                                          v6.2.fst[(0 : Nat) + v2.fst.toNat]? = some y11 ∧
                                                            ((0 : Int) ≤ v2.fst ∧ v2.fst < (↑v6.2.fst.length : Int)) ∧
                                                              (0 : Nat) + v2.fst.toNat < v6.2.fst.length ∧
                                                                ((0 : Int) ≤ v6.fst ∧ v6.fst < (↑v6.2.fst.length : Int)) ∧
                                                                  (0 : Nat) + v6.fst.toNat < (v6.2.fst.set ((0 : Nat) + v2.fst.toNat) y10).length ∧
                                                                    ((0 : Int) ≤ IntKind.i64.wrap (v2.fst + (1 : Int)) ∧
                                                                        IntKind.i64.wrap (v2.fst + (1 : Int)) ≤ (↑v6.2.fst.length : Int) ∧ (↑v6.2.fst.length : Int) ≤ (↑v6.2.fst.length : Int)) ∧
                                                                      ∃ (y12 : PUnit × List Int × PUnit),
                                                                        s_reverse.fn
                                                                              (((v6.2.fst.set ((0 : Nat) + v2.fst.toNat) y10).set ((0 : Nat) + v6.fst.toNat) y11,
                                                                                  (0 : Nat) + (IntKind.i64.wrap (v2.fst + (1 : Int))).toNat,
                                                                                  (↑v6.2.fst.length : Int).toNat - (IntKind.i64.wrap (v2.fst + (1 : Int))).toNat),
                                                                                ()) =
                                                                            some y12 ∧
                                                                          y12.2.fst.length = ((v6.2.fst.set ((0 : Nat) + v2.fst.toNat) y10).set ((0 : Nat) + v6.fst.toNat) y11).length ∧
                                                                            P ((true, ()), y12.2.fst, ())))
                                (IntKind.i64.wrap ((↑v2.2.fst.length : Int) - (1 : Int)), v2.2.fst, PUnit.unit))))
          (Br (decide (v2.fst < (0 : Int))) (P ((false, ()), v2.2.fst, ()))
            ((0 : Nat) = (0 : Nat) ∧
              v2.2.fst.length = v2.2.fst.length ∧
                WLoop
                  (fun (v4 : Int × List Int × PUnit) (k5 : Int × List Int × PUnit → Prop) =>
                    ((0 : Int) ≤ v4.fst ∧ v4.fst < (↑v4.2.fst.length : Int)) ∧
                      ∃ (y6 : Int),
                        v4.2.fst[(0 : Nat) + v4.fst.toNat]? = some y6 ∧
                          ((0 : Int) ≤ v2.fst ∧ v2.fst < (↑v4.2.fst.length : Int)) ∧
                            ∃ (y7 : Int),
                              v4.2.fst[(0 : Nat) + v2.fst.toNat]? = some y7 ∧
                                Br (decide (y6 < y7)) ((0 : Nat) = (0 : Nat) ∧ v4.2.fst.length = v4.2.fst.length ∧ k5 (IntKind.i64.wrap (v4.fst - (1 : Int)), v4.2.fst, ()))
                                  (((0 : Int) ≤ v4.fst ∧ v4.fst < (↑v4.2.fst.length : Int)) ∧
                                    ∃ (y8 : Int),
                                      v4.2.fst[(0 : Nat) + v4.fst.toNat]? = some y8 ∧
                                        ((0 : Int) ≤ v2.fst ∧ v2.fst < (↑v4.2.fst.length : Int)) ∧
                                          ∃ (y9 : Int),
                                            v4.2.fst[(0 : Nat) + v2.fst.toNat]? = some y9 ∧
                                              ((0 : Int) ≤ v2.fst ∧ v2.fst < (↑v4.2.fst.length : Int)) ∧
                                                (0 : Nat) + v2.fst.toNat < v4.2.fst.length ∧
                                                  ((0 : Int) ≤ v4.fst ∧ v4.fst < (↑v4.2.fst.length : Int)) ∧
                                                    (0 : Nat) + v4.fst.toNat < (v4.2.fst.set ((0 : Nat) + v2.fst.toNat) y8).length ∧
                                                      ((0 : Int) ≤ IntKind.i64.wrap (v2.fst + (1 : Int)) ∧
                                                          IntKind.i64.wrap (v2.fst + (1 : Int)) ≤ (↑v4.2.fst.length : Int) ∧ (↑v4.2.fst.length : Int) ≤ (↑v4.2.fst.length : Int)) ∧
                                                        ∃ (y10 : PUnit × List Int × PUnit),
                                                          s_reverse.fn
                                                                (((v4.2.fst.set ((0 : Nat) + v2.fst.toNat) y8).set ((0 : Nat) + v4.fst.toNat) y9,
                                                                    (0 : Nat) + (IntKind.i64.wrap (v2.fst + (1 : Int))).toNat,
                                                                    (↑v4.2.fst.length : Int).toNat - (IntKind.i64.wrap (v2.fst + (1 : Int))).toNat),
                                                                  ()) =
                                                              some y10 ∧
                                                            y10.2.fst.length = ((v4.2.fst.set ((0 : Nat) + v2.fst.toNat) y8).set ((0 : Nat) + v4.fst.toNat) y9).length ∧ P ((true, ()), y10.2.fst, ())))
                  (IntKind.i64.wrap ((↑v2.2.fst.length : Int) - (1 : Int)), v2.2.fst, PUnit.unit))))
      (IntKind.i64.wrap ((↑xs.length : Int) - (2 : Int)), xs, PUnit.unit)) = fnMW tabT (look [(158, s_reverse)]) s_nextPerm Try.f133 (xs, ()) P := by kernel_rfl
theorem w_identityM (n : Int) (P : ((List Int × Unit) × Unit) → Prop) : (((0 : Int) ≤ n ∧ n < (↑maxRow : Int) + (1 : Int)) ∧
  n = n ∧
    (0 : Nat) = (0 : Nat) ∧
      (List.replicate n.toNat (Int.ofNat (nat_lit 0))).length = (List.replicate n.toNat (Int.ofNat (nat_lit 0))).length ∧
        WLoop
          (fun (v2 : Int × List Int × PUnit) (k3 : Int × List Int × PUnit → Prop) =>
            Br (decide (v2.fst < (↑(List.replicate n.toNat (Int.ofNat (nat_lit 0))).length : Int)))
              (((0 : Int) ≤ v2.fst ∧ v2.fst < (↑v2.2.fst.length : Int)) ∧
                (0 : Nat) + v2.fst.toNat < v2.2.fst.length ∧
                  (0 : Nat) = (0 : Nat) ∧
                    v2.2.fst.length = (v2.2.fst.set ((0 : Nat) + v2.fst.toNat) v2.fst).length ∧ k3 (IntKind.i64.wrap (v2.fst + (1 : Int)), v2.2.fst.set ((0 : Nat) + v2.fst.toNat) v2.fst, ()))
              (P ((List.take v2.2.fst.length (List.drop ((0 : Nat)) v2.2.fst), ()), ())))
          ((0 : Int), List.replicate n.toNat (Int.ofNat (nat_lit 0)), PUnit.unit)) = fnMW tabT (look []) s_identityM Try.f132 (n, ()) P := by kernel_rfl
theorem w_symListI (n : Int) (str : ByteArray) (g : List (List Int)) (P : ((List (List Int) × Unit) × Unit) → Prop) : (∃ (y4 : (List Int × PUnit) × PUnit),
  s_identityM.fn (n, ()) = some y4 ∧
    (0 : Nat) = (0 : Nat) ∧
      (0 : Nat) = ([] : List Int).length ∧
        (0 : Nat) = (0 : Nat) ∧
          y4.1.fst.length = y4.1.fst.length ∧
            WLoop
              (fun (v5 : Int × ByteArray × List (List Int) × List (List Int) × List Int × PUnit) (k6 : Int × ByteArray × List (List Int) × List (List Int) × List Int × PUnit → Prop) =>
                ∃ (y7 : Bool),
                  s_isSymP.fn ((v5.fst, v5.2.fst, v5.snd.2.fst, ()), List.take v5.snd.2.snd.2.fst.length (List.drop ((0 : Nat)) v5.snd.2.snd.2.fst), ()) = some y7 ∧
                    Br y7
                      (∃ (y8 : (List Int × PUnit) × PUnit),
                        s_cloneM.fn (List.take v5.snd.2.snd.2.fst.length (List.drop ((0 : Nat)) v5.snd.2.snd.2.fst), ()) = some y8 ∧
                          (0 : Nat) = (0 : Nat) ∧
                            v5.2.snd.2.fst.length = v5.2.snd.2.fst.length ∧
                              v5.2.snd.2.fst.length + (List.take (1 : Nat) (List.drop (0 : Nat) [List.take y8.1.fst.length (List.drop (0 : Nat) y8.1.fst)])).length ≤ maxRow ∧
                                (0 : Nat) = (0 : Nat) ∧
                                  v5.snd.2.snd.2.fst.length = v5.snd.2.snd.2.fst.length ∧
                                    ∃ (y9 : (Bool × PUnit) × List Int × PUnit),
                                      s_nextPerm.fn (v5.snd.2.snd.2.fst, ()) = some y9 ∧
                                        (y9.2.fst.length = v5.snd.2.snd.2.fst.length ∧ v5.snd.2.snd.2.fst.length = v5.snd.2.snd.2.fst.length) ∧
                                          Br (!y9.1.fst)
                                            (P
                                              ((List.take (v5.2.snd.2.fst ++ List.take (1 : Nat) (List.drop (0 : Nat) [List.take y8.1.fst.length (List.drop (0 : Nat) y8.1.fst)])).length
                                                    (List.drop (0 : Nat) (v5.2.snd.2.fst ++ List.take (1 : Nat) (List.drop (0 : Nat) [List.take y8.1.fst.length (List.drop (0 : Nat) y8.1.fst)]))),
                                                  ()),
                                                ()))
                                            ((0 : Nat) = (0 : Nat) ∧
                                              (v5.2.snd.2.fst ++ List.take (1 : Nat) (List.drop (0 : Nat) [List.take y8.1.fst.length (List.drop (0 : Nat) y8.1.fst)])).length =
                                                  (v5.2.snd.2.fst ++ List.take (1 : Nat) (List.drop (0 : Nat) [List.take y8.1.fst.length (List.drop (0 : Nat) y8.1.fst)])).length ∧
                                                (0 : Nat) = (0 : Nat) ∧
                                                  v5.snd.2.snd.2.fst.length = y9.2.fst.length ∧
                                                    k6
                                                      (v5.fst, v5.2.fst, v5.snd.2.fst,
                                                        v5.2.snd.2.fst ++ List.take (1 : Nat) (List.drop (0 : Nat) [List.take y8.1.fst.length (List.drop (0 : Nat) y8.1.fst)]), y9.2.fst, ())))
                      ((0 : Nat) = (0 : Nat) ∧
                        v5.snd.2.snd.2.fst.length = v5.snd.2.snd.2.fst.length ∧
                          ∃ (y8 : (Bool × PUnit) × List Int × PUnit),
                            s_nextPerm.fn (v5.snd.2.snd.2.fst, ()) = some y8 ∧
                              (y8.2.fst.length = v5.snd.2.snd.2.fst.length ∧ v5.snd.2.snd.2.fst.length = v5.snd.2.snd.2.fst.length) ∧
                                Br (!y8.1.fst) (P ((List.take v5.2.snd.2.fst.length (List.drop ((0 : Nat)) v5.2.snd.2.fst), ()), ()))
                                  ((0 : Nat) = (0 : Nat) ∧
                                    v5.2.snd.2.fst.length = v5.2.snd.2.fst.length ∧
                                      (0 : Nat) = (0 : Nat) ∧ v5.snd.2.snd.2.fst.length = y8.2.fst.length ∧ k6 (v5.fst, v5.2.fst, v5.snd.2.fst, v5.2.snd.2.fst, y8.2.fst, ()))))
              (n, str, g, [], y4.1.fst, PUnit.unit)) = fnMW tabT (look [(132, s_identityM), (127, s_isSymP), (76, s_cloneM), (133, s_nextPerm)]) s_symListI Try.f87 (n, str, g, ()) P := by kernel_rfl
theorem w_extN {m : Nat} (n : Int) (str : ByteArray) (g : List (List Int)) (l : List Int) (out : List (List Int)) (P : ((List (List Int) × Unit) × Unit) → Prop) : (Br ((↑l.length : Int) == n)
  (∃ (y7 : Bool),
    s_isSymP.fn ((n, str, g, ()), l, ()) = some y7 ∧
      Br y7
        (∃ (y8 : (List Int × PUnit) × PUnit),
          s_copyIntsM.fn (l, ()) = some y8 ∧
            (0 : Nat) = (0 : Nat) ∧
              out.length = out.length ∧
                out.length + (List.take (1 : Nat) (List.drop (0 : Nat) [List.take y8.1.fst.length (List.drop (0 : Nat) y8.1.fst)])).length ≤ maxRow ∧
                  P
                    ((List.take (out ++ List.take (1 : Nat) (List.drop (0 : Nat) [List.take y8.1.fst.length (List.drop (0 : Nat) y8.1.fst)])).length
                          (List.drop (0 : Nat) (out ++ List.take (1 : Nat) (List.drop (0 : Nat) [List.take y8.1.fst.length (List.drop (0 : Nat) y8.1.fst)]))),
                        ()),
                      ()))
        (P ((List.take out.length (List.drop (0 : Nat) out), ()), ())))
  ((0 : Nat) = (0 : Nat) ∧
    out.length = out.length ∧
      WLoop
        (fun (v7 : Int × Int × ByteArray × List (List Int) × List (List Int) × PUnit) (k8 : Int × Int × ByteArray × List (List Int) × List (List Int) × PUnit → Prop) =>
          Br (decide (v7.fst < v7.2.fst))
            (∃ (y9 : Bool),
              s_containsInt.fn (l, v7.fst, ()) = some y9 ∧
                Br (!y9)
                  (((∃ (y10 : (List Int × PUnit) × PUnit),
                        s_copyIntsM.fn (l, ()) = some y10 ∧
                          (0 : Nat) = (0 : Nat) ∧
                            y10.1.fst.length = y10.1.fst.length ∧
                              y10.1.fst.length + (List.take (1 : Nat) (List.drop (0 : Nat) [v7.fst])).length ≤ maxRow ∧
                                (0 : Nat) = (0 : Nat) ∧
                                  v7.snd.2.snd.2.fst.length = v7.snd.2.snd.2.fst.length ∧
                                    ∃ (y11 : (List (List Int) × PUnit) × PUnit),
                                      (s_extN m).fn
                                            (v7.2.fst, v7.snd.2.fst, v7.2.snd.2.fst,
                                              List.take (y10.1.fst ++ List.take (1 : Nat) (List.drop (0 : Nat) [v7.fst])).length
                                                (List.drop (0 : Nat) (y10.1.fst ++ List.take (1 : Nat) (List.drop (0 : Nat) [v7.fst]))),
                                              v7.snd.2.snd.2.fst, ()) =
                                          some y11 ∧
                                        (0 : Nat) = (0 : Nat) ∧
                                          y11.1.fst.length = y11.1.fst.length ∧ k8 (IntKind.i64.wrap (v7.fst + (1 : Int)), v7.2.fst, v7.snd.2.fst, v7.2.snd.2.fst, y11.1.fst, ())) ∧
                      ∃ (y10 : (List Int × PUnit) × PUnit),
                        s_copyIntsM.fn (l, ()) = some y10 ∧
                          (0 : Nat) = (0 : Nat) ∧
                            y10.1.fst.length = y10.1.fst.length ∧
                              y10.1.fst.length + (List.take (1 : Nat) (List.drop (0 : Nat) [v7.fst])).length ≤ maxRow ∧
                                (0 : Nat) = (0 : Nat) ∧
                                  v7.snd.2.snd.2.fst.length = v7.snd.2.snd.2.fst.length ∧
                                    ∃ (y11 : (List (List Int) × PUnit) × PUnit),
                                      (s_extN m).fn
                                            (v7.2.fst, v7.snd.2.fst, v7.2.snd.2.fst,
                                              List.take (y10.1.fst ++ List.take (1 : Nat) (List.drop (0 : Nat) [v7.fst])).length
                                                (List.drop (0 : Nat) (y10.1.fst ++ List.take (1 : Nat) (List.drop (0 : Nat) [v7.fst]))),
                                              v7.snd.2.snd.2.fst, ()) =
                                          some y11 ∧
                                        (0 : Nat) = (0 : Nat) ∧
                                          y11.1.fst.length = y11.1.fst.length ∧ k8 (IntKind.i64.wrap (v7.fst + (1 : Int)), v7.2.fst, v7.snd.2.fst, v7.2.snd.2.fst, y11.1.fst, ())) ∧
                    (∃ (y10 : (List Int × PUnit) × PUnit),
                        s_copyIntsM.fn (l, ()) = some y10 ∧
                          ((0 : Nat) = (0 : Nat) ∧
                              y10.1.fst.length = y10.1.fst.length ∧
                                y10.1.fst.length + (List.take (1 : Nat) (List.drop (0 : Nat) [v7.fst])).length ≤ maxRow ∧
                                  (0 : Nat) = (0 : Nat) ∧
                                    v7.snd.2.snd.2.fst.length = v7.snd.2.snd.2.fst.length ∧
                                      ∃ (y11 : (List (List Int) × PUnit) × PUnit),
                                        (s_extN m).fn
                                              (v7.2.fst, v7.snd.2.fst, v7.2.snd.2.fst,
                                                List.take (y10.1.fst ++ List.take (1 : Nat) (List.drop (0 : Nat) [v7.fst])).length
                                                  (List.drop (0 : Nat) (y10.1.fst ++ List.take (1 : Nat) (List.drop (0 : Nat) [v7.fst]))),
                                                v7.snd.2.snd.2.fst, ()) =
                                            some y11 ∧
                                          (0 : Nat) = (0 : Nat) ∧
                                            y11.1.fst.length = y11.1.fst.length ∧ k8 (IntKind.i64.wrap (v7.fst + (1 : Int)), v7.2.fst, v7.snd.2.fst, v7.2.snd.2.fst, y11.1.fst, ())) ∧
                            ((0 : Nat) = (0 : Nat) ∧
                                y10.1.fst.length = y10.1.fst.length ∧
                                  y10.1.fst.length + (List.take (1 : Nat) (List.drop (0 : Nat) [v7.fst])).length ≤ maxRow ∧
                                    (0 : Nat) = (0 : Nat) ∧
                                      v7.snd.2.snd.2.fst.length = v7.snd.2.snd.2.fst.length ∧
                                        ∃ (y11 : (List (List Int) × PUnit) × PUnit),
                                          (s_extN m).fn
                                                (v7.2.fst, v7.snd.2.fst, v7.2.snd.2.fst,
                                                  List.take (y10.1.fst ++ List.take (1 : Nat) (List.drop (0 : Nat) [v7.fst])).length
                                                    (List.drop (0 : Nat) (y10.1.fst ++ List.take (1 : Nat) (List.drop (0 : Nat) [v7.fst]))),
                                                  v7.snd.2.snd.2.fst, ()) =
                                              some y11 ∧
                                            (0 : Nat) = (0 : Nat) ∧
                                              y11.1.fst.length = y11.1.fst.length ∧ k8 (IntKind.i64.wrap (v7.fst + (1 : Int)), v7.2.fst, v7.snd.2.fst, v7.2.snd.2.fst, y11.1.fst, ())) ∧
                              (0 : Nat) = (0 : Nat) ∧
                                y10.1.fst.length = y10.1.fst.length ∧
                                  y10.1.fst.length + (List.take (1 : Nat) (List.drop (0 : Nat) [v7.fst])).length ≤ maxRow ∧
                                    (0 : Nat) = (0 : Nat) ∧
                                      v7.snd.2.snd.2.fst.length = v7.snd.2.snd.2.fst.length ∧
                                        ∃ (y11 : (List (List Int) × PUnit) × PUnit),
                                          (s_extN m).fn
                                                (v7.2.fst, v7.snd.2.fst, v7.2.snd.2.fst,
                                                  List.take (y10.1.fst ++ List.take (1 : Nat) (List.drop (0 : Nat) [v7.fst])).length
                                                    (List.drop (0 : Nat) (y10.1.fst ++ List.take (1 : Nat) (List.drop (0 : Nat) [v7.fst]))),
                                                  v7.snd.2.snd.2.fst, ()) =
                                              some y11 ∧
                                            (0 : Nat) = (0 : Nat) ∧
                                              y11.1.fst.length = y11.1.fst.length ∧ k8 (IntKind.i64.wrap (v7.fst + (1 : Int)), v7.2.fst, v7.snd.2.fst, v7.2.snd.2.fst, y11.1.fst, ())) ∧
                      (∃ (y10 : (List Int × PUnit) × PUnit),
                          s_copyIntsM.fn (l, ()) = some y10 ∧
                            (0 : Nat) = (0 : Nat) ∧
                              y10.1.fst.length = y10.1.fst.length ∧
                                y10.1.fst.length + (List.take (1 : Nat) (List.drop (0 : Nat) [v7.fst])).length ≤ maxRow ∧
                                  (0 : Nat) = (0 : Nat) ∧
                                    v7.snd.2.snd.2.fst.length = v7.snd.2.snd.2.fst.length ∧
                                      ∃ (y11 : (List (List Int) × PUnit) × PUnit),
                                        (s_extN m).fn
                                              (v7.2.fst, v7.snd.2.fst, v7.2.snd.2.fst,
                                                List.take (y10.1.fst ++ List.take (1 : Nat) (List.drop (0 : Nat) [v7.fst])).length
                                                  (List.drop (0 : Nat) (y10.1.fst ++ List.take (1 : Nat) (List.drop (0 : Nat) [v7.fst]))),
                                                v7.snd.2.snd.2.fst, ()) =
                                            some y11 ∧
                                          (0 : Nat) = (0 : Nat) ∧
                                            y11.1.fst.length = y11.1.fst.length ∧ k8 (IntKind.i64.wrap (v7.fst + (1 : Int)), v7.2.fst, v7.snd.2.fst, v7.2.snd.2.fst, y11.1.fst, ())) ∧
                        ∃ (y10 : (List Int × PUnit) × PUnit),
                          s_copyIntsM.fn (l, ()) = some y10 ∧
                            ((0 : Nat) = (0 : Nat) ∧
                                y10.1.fst.length = y10.1.fst.length ∧
                                  y10.1.fst.length + (List.take (1 : Nat) (List.drop (0 : Nat) [v7.fst])).length ≤ maxRow ∧
                                    (0 : Nat) = (0 : Nat) ∧
                                      v7.snd.2.snd.2.fst.length = v7.snd.2.snd.2.fst.length ∧
                                        ∃ (y11 : (List (List Int) × PUnit) × PUnit),
                                          (s_extN m).fn
                                                (v7.2.fst, v7.snd.2.fst, v7.2.snd.2.fst,
                                                  List.take (y10.1.fst ++ List.take (1 : Nat) (List.drop (0 : Nat) [v7.fst])).length
                                                    (List.drop (0 : Nat) (y10.1.fst ++ List.take (1 : Nat) (List.drop (0 : Nat) [v7.fst]))),
                                                  v7.snd.2.snd.2.fst, ()) =
                                              some y11 ∧
                                            (0 : Nat) = (0 : Nat) ∧
                                              y11.1.fst.length = y11.1.fst.length ∧ k8 (IntKind.i64.wrap (v7.fst + (1 : Int)), v7.2.fst, v7.snd.2.fst, v7.2.snd.2.fst, y11.1.fst, ())) ∧
                              (0 : Nat) = (0 : Nat) ∧
                                y10.1.fst.length = y10.1.fst.length ∧
                                  y10.1.fst.length + (List.take (1 : Nat) (List.drop (0 : Nat) [v7.fst])).length ≤ maxRow ∧
                                    (0 : Nat) = (0 : Nat) ∧
                                      v7.snd.2.snd.2.fst.length = v7.snd.2.snd.2.fst.length ∧
                                        ∃ (y11 : (List (List Int) × PUnit) × PUnit),
                                          (s_extN m).fn
                                                (v7.2.fst, v7.snd.2.fst, v7.2.snd.2.fst,
                                                  List.take (y10.1.fst ++ List.take (1 : Nat) (List.drop (0 : Nat) [v7.fst])).length
                                                    (List.drop (0 : Nat) (y10.1.fst ++ List.take (1 : Nat) (List.drop (0 : Nat) [v7.fst]))),
                                                  v7.snd.2.snd.2.fst, ()) =
                                              some y11 ∧
                                            (0 : Nat) = (0 : Nat) ∧
                                              y11.1.fst.length = y11.1.fst.length ∧ k8 (IntKind.i64.wrap (v7.fst + (1 : Int)), v7.2.fst, v7.snd.2.fst, v7.2.snd.2.fst, y11.1.fst, ()))
                  ((0 : Nat) = (0 : Nat) ∧
                    v7.snd.2.snd.2.fst.length = v7.snd.2.snd.2.fst.length ∧ k8 (IntKind.i64.wrap (v7.fst + (1 : Int)), v7.2.fst, v7.snd.2.fst, v7.2.snd.2.fst, v7.snd.2.snd.2.fst, ())))
            (P ((List.take v7.snd.2.snd.2.fst.length (List.drop ((0 : Nat)) v7.snd.2.snd.2.fst), ()), ())))
        ((0 : Int), n, str, g, out, PUnit.unit))) = fnMW tabT (look [(120, s_isSymP), (70, s_copyIntsM), (131, s_containsInt), (85, ASpec.m (s_extN m))]) (s_extN (m+1)) Try.f85 (n, str, g, l, out, ()) P := by kernel_rfl
theorem m_rev_get {xs : List Int} {o n : Nat} (h : o + n ≤ xs.length) (k : Nat) : (m_rev xs o n)[k]? = if o ≤ k ∧ k < o + n then xs[o + n - 1 - (k - o)]? else xs[k]? := by
  unfold m_rev
  have l1 : (List.take o xs).length = o := by rw [List.length_take]; omega
  have l2 : (List.take n (List.drop o xs)).reverse.length = n := by rw [List.length_reverse, List.length_take, List.length_drop]; omega
  rw [List.append_assoc]
  by_cases h1 : k < o
  · rw [List.getElem?_append_left (by omega), if_neg (by omega), List.getElem?_take_of_lt h1]
  · rw [List.getElem?_append_right (by omega), l1]
    by_cases h2 : k < o + n
    · rw [List.getElem?_append_left (by omega), if_pos ⟨by omega, h2⟩, List.getElem?_reverse (by rw [List.length_take, List.length_drop]; omega)]
      rw [List.length_take, List.length_drop, List.getElem?_take_of_lt (by omega), List.getElem?_drop]
      congr 1
      omega
    · rw [List.getElem?_append_right (by omega), l2, if_neg (by omega), List.getElem?_drop]
      congr 1
      omega
theorem p_reverse (a : List Int × Nat × Nat) (h : short a.1 ∧ a.2.1 + a.2.2 ≤ a.1.length) : fnMW tabR (look []) s_reverse Try.f158 (a, ()) (fun (z : Unit × List Int × Unit) => z = ((), (m_rev a.1 a.2.1 a.2.2, ()))) := by
  obtain ⟨xs, o, n⟩ := a
  obtain ⟨hs, hn⟩ := h
  dsimp only at hs hn
  unfold short at hs
  refine Eq.mp (w_reverse (xs, o, n) _) ⟨rfl, rfl, ?_⟩
  dsimp only
  refine WLoop.mk (fun v => ∃ i : Nat, v.1 = i ∧ v.2.1 = (n : Int) - 1 - i ∧ 2 * i ≤ n ∧ v.2.2.1.length = xs.length ∧ ∀ k, v.2.2.1[k]? = revAt xs o n i k) (fun v => n - v.1.toNat)
    ⟨0, rfl, by rw [wrap_id (by omega) (by omega)]; simp, by omega, rfl, fun k => by unfold revAt; rw [if_neg (by omega)]⟩ ?_
  rintro ⟨i', j', ys, ⟨⟩⟩ ⟨i, h1, h2, h3, h4, h5⟩
  dsimp only at h1 h2 h4 h5 ⊢
  subst h1 h2
  refine Br.dec (fun hl => ?_) fun hl => ?_
  · have hij : i < n - 1 - i := by omega
    have hj : ((n : Int) - 1 - i).toNat = n - 1 - i := by omega
    have g1 : ys[o + (n - 1 - i)]? = xs[o + (n - 1 - i)]? := by rw [h5]; unfold revAt; rw [if_neg (by omega)]
    have g2 : ys[o + i]? = xs[o + i]? := by rw [h5]; unfold revAt; rw [if_neg (by omega)]
    have k1 : o + (n - 1 - i) < xs.length := by omega
    have k2 : o + i < xs.length := by omega
    rw [hj, Int.toNat_natCast]
    refine ⟨⟨by omega, by omega⟩, _, g1.trans (List.getElem?_eq_getElem k1), ⟨by omega, by omega⟩, _, g2.trans (List.getElem?_eq_getElem k2), ⟨by omega, by omega⟩, by omega, ⟨by omega, by omega⟩, by rw [List.length_set]; omega, rfl, rfl, ?_⟩
    rw [wrap_id (by omega) (by omega), wrap_id (by omega) (by omega)]
    refine ⟨⟨i + 1, by push_cast; omega, by push_cast; omega, by omega, by rw [List.length_set, List.length_set]; exact h4, fun k => ?_⟩, by omega⟩
    by_cases e1 : k = o + (n - 1 - i)
    · subst e1
      rw [List.getElem?_set_self (by rw [List.length_set]; omega)]
      unfold revAt
      rw [if_pos (by omega), ← List.getElem?_eq_getElem k2]
      congr 1; omega
    · rw [List.getElem?_set_ne (Ne.symm e1)]
      by_cases e2 : k = o + i
      · subst e2
        rw [List.getElem?_set_self (by omega)]
        unfold revAt
        rw [if_pos (by omega), ← List.getElem?_eq_getElem k1]
        congr 1; omega
      · rw [List.getElem?_set_ne (Ne.symm e2), h5]
        unfold revAt
        by_cases e3 : o ≤ k ∧ k < o + n ∧ (k < o + i ∨ o + n ≤ k + i)
        · rw [if_pos e3, if_pos (by omega)]
        · rw [if_neg e3, if_neg (by omega)]
  · have : ys = m_rev xs o n := by
      refine List.ext_getElem? fun k => ?_
      rw [h5, m_rev_get hn]
      unfold revAt
      by_cases e : o ≤ k ∧ k < o + n
      · rw [if_pos e]
        split
        · rfl
        · have : k = o + n - 1 - (k - o) := by omega
          rw [← this]
      · rw [if_neg e, if_neg (by omega)]
    rw [this]
theorem sound_reverse : MSound Try.prog 158 s_reverse :=
  MSound.mkM tabROK envNil mixed Try.func158 (by kernel_rfl) (by kernel_rfl) fun x h => p_reverse x.1 h
abbrev Dec' (l : List Int) : Prop := List.Pairwise (fun a b => b < a) l
theorem next_none : ∀ (t : List Int), Dec' t → m_next t = none
  | [], _ => rfl
  | [v], _ => rfl
  | v :: y :: r, h => by
    obtain ⟨h1, h2⟩ := List.pairwise_cons.1 h
    have hy := h1 y (by simp)
    rw [m_next, next_none (y :: r) h2]
    show m_pivot v (y :: r) = none
    unfold m_pivot lastGt
    rw [if_neg (show ¬ y > v by omega), if_pos rfl]
theorem next_pre {s s' : List Int} (h : m_next s = some s') : ∀ pre : List Int, m_next (pre ++ s) = some (pre ++ s')
  | [] => h
  | v :: p => by rw [List.cons_append, m_next, next_pre h p]; rfl
theorem lastGt_iff (v : Int) : ∀ (t : List Int), Dec' t → ∀ k (hk : k < t.length), k < lastGt v t ↔ v < t[k]
  | [], _, k, hk => absurd hk (Nat.not_lt_zero _)
  | x :: r, h, k, hk => by
    obtain ⟨h1, h2⟩ := List.pairwise_cons.1 h
    unfold lastGt
    by_cases hx : x > v
    · rw [if_pos hx]
      rcases k with _ | k
      · simpa using hx
      · have := lastGt_iff v r h2 k (by simpa using hk)
        simp only [List.getElem_cons_succ]
        rw [← this]; omega
    · rw [if_neg hx]
      refine ⟨fun h => absurd h (Nat.not_lt_zero _), fun h3 => ?_⟩
      rcases k with _ | k
      · exact absurd h3 (by simpa using hx)
      · simp only [List.getElem_cons_succ] at h3
        have := h1 _ (List.getElem_mem (by simpa using hk : k < r.length))
        omega
theorem lastGt_le (v : Int) : ∀ t : List Int, lastGt v t ≤ t.length
  | [] => Nat.le_refl _
  | x :: r => by unfold lastGt; split <;> simp [lastGt_le v r]
theorem lastGt_eq {v : Int} {t : List Int} (h : Dec' t) {j : Nat} (hj : j < t.length) (h1 : v < t[j]) (h2 : ∀ k (hk : k < t.length), j < k → t[k] < v) : lastGt v t = j + 1 := by
  have h3 := (lastGt_iff v t h j hj).2 h1
  have h4 := lastGt_le v t
  by_cases e : j + 1 < t.length
  · have h5 := h2 (j + 1) e (by omega)
    have h6 := lastGt_iff v t h (j + 1) e
    have : ¬ (j + 1 < lastGt v t) := fun hh => by have := h6.1 hh; omega
    omega
  · omega
theorem next_at {pre t : List Int} {v : Int} (h : Dec' t) {j : Nat} (hj : j < t.length) (h1 : v < t[j]) (h2 : ∀ k (hk : k < t.length), j < k → t[k] < v) :
    m_next (pre ++ v :: t) = some (pre ++ t[j] :: (t.set j v).reverse) := by
  refine next_pre ?_ pre
  rw [m_next, next_none t h]
  show m_pivot v t = _
  unfold m_pivot
  rw [lastGt_eq h hj h1 h2, if_neg (by omega), Nat.add_sub_cancel, gets_nat hj]
theorem rev_tail {pre t : List Int} {y : Int} : m_rev (pre ++ y :: t) (pre.length + 1) t.length = pre ++ y :: t.reverse := by
  unfold m_rev
  have e1 : List.take (pre.length + 1) (pre ++ y :: t) = pre ++ [y] := by
    rw [List.take_append, List.take_of_length_le (by omega)]; simp
  have e2 : List.drop (pre.length + 1) (pre ++ y :: t) = t := by
    rw [List.drop_append, List.drop_eq_nil_of_le (by omega)]; simp
  have e3 : List.drop (pre.length + 1 + t.length) (pre ++ y :: t) = [] := List.drop_eq_nil_of_le (by simp; omega)
  rw [e1, e2, e3, List.take_length]
  simp
theorem set_mid {α : Type} (pre : List α) (v a : α) (t : List α) : (pre ++ v :: t).set pre.length a = pre ++ a :: t := by
  rw [List.set_append, if_neg (by omega)]; simp
theorem set_past {α : Type} (pre : List α) (v a : α) (t : List α) (j : Nat) : (pre ++ v :: t).set (pre.length + 1 + j) a = pre ++ v :: t.set j a := by
  rw [List.set_append, if_neg (by omega), show pre.length + 1 + j - pre.length = j + 1 by omega]; rfl
theorem split_at' {α : Type} {xs : List α} {i : Nat} (h : i < xs.length) : ∃ pre v t, xs = pre ++ v :: t ∧ pre.length = i := by
  refine ⟨xs.take i, xs[i], xs.drop (i + 1), ?_, by rw [List.length_take]; omega⟩
  rw [← List.drop_eq_getElem_cons h, List.take_append_drop]
theorem dec_next {xs : List Int} (h : Dec' xs) : m_next xs = none := next_none xs h
/-- What the second loop and the swap come to. -/
theorem swap_next {pre t : List Int} {v : Int} (h : Dec' t) {j : Nat} (hj : j < t.length) (h1 : v < t[j]) (h2 : ∀ k (hk : k < t.length), j < k → t[k] < v) :
    m_rev (((pre ++ v :: t).set pre.length t[j]).set (pre.length + 1 + j) v) (pre.length + 1) t.length = (m_next (pre ++ v :: t)).getD [] ∧ (m_next (pre ++ v :: t)).isSome = true := by
  rw [next_at h hj h1 h2, set_mid, set_past]
  have := @rev_tail pre (t.set j v) t[j]
  rw [List.length_set] at this
  exact ⟨this, rfl⟩
theorem p_nextPerm (xs : List Int) (h : 1 ≤ xs.length ∧ xs.length ≤ 20 ∧ xs.Nodup) : fnMW tabT (look [(158, s_reverse)]) s_nextPerm Try.f133 (xs, ()) (fun (z : (Bool × Unit) × List Int × Unit) => z = (((m_next xs).isSome, ()), ((m_next xs).getD xs, ()))) := by
  obtain ⟨hl1, hl2, hnd⟩ := h
  have hne : ∀ i j (hi : i < xs.length) (hj : j < xs.length), i < j → xs[i] ≠ xs[j] := fun i j hi hj hij => List.pairwise_iff_getElem.1 hnd i j hi hj hij
  refine Eq.mp (w_nextPerm xs _) ⟨rfl, rfl, ?_⟩
  refine WLoop.mk (fun v => v.2.1 = xs ∧ ∃ i : Nat, i + 1 ≤ xs.length ∧ v.1 = (i : Int) - 1 ∧ Dec' (xs.drop i)) (fun v => (v.1 + 1).toNat)
    ⟨rfl, xs.length - 1, by omega, by rw [wrap_id (by omega) (by omega)]; omega, ?_⟩ ?_
  · rw [List.drop_eq_getElem_cons (by omega), List.drop_eq_nil_of_le (by omega)]
    exact List.pairwise_singleton _ _
  · rintro ⟨a, ys, ⟨⟩⟩ ⟨h1, i, h2, h3, h4⟩
    dsimp only at h1 h3 ⊢
    subst h1 h3
    refine Br.dec (fun hp => ?_) fun hp => ?_
    · obtain ⟨i, rfl⟩ : ∃ k, i = k + 1 := ⟨i - 1, by omega⟩
      have e0 : ((i + 1 : Nat) : Int) - 1 = (i : Int) := by omega
      rw [e0]
      have e1 : IntKind.i64.wrap ((i : Int) + 1) = ((i + 1 : Nat) : Int) := wrap_nat (by omega)
      rw [e1]
      simp only [Int.toNat_natCast, Nat.zero_add]
      refine ⟨⟨by omega, by omega⟩, _, List.getElem?_eq_getElem (by omega), ⟨by omega, by omega⟩, _, List.getElem?_eq_getElem (by omega), ?_⟩
      have hsp : ys.drop i = ys[i] :: ys.drop (i + 1) := List.drop_eq_getElem_cons (by omega)
      refine Br.dec (fun hg => ⟨trivial, trivial, ⟨⟨trivial, i, by omega, by rw [wrap_id (by omega) (by omega)], ?_⟩, by rw [wrap_id (by omega) (by omega)]; omega⟩⟩) fun hg => ?_
      · rw [hsp]
        refine List.pairwise_cons.2 ⟨fun b hb => ?_, h4⟩
        have hsp2 : ys.drop (i + 1) = ys[i + 1] :: ys.drop (i + 1 + 1) := List.drop_eq_getElem_cons (by omega)
        rw [hsp2] at hb h4
        rcases List.mem_cons.1 hb with rfl | hb
        · exact hg
        · exact Int.lt_trans ((List.pairwise_cons.1 h4).1 b hb) hg
      · refine Br.dec (fun hn => by omega) fun _ => ⟨trivial, trivial, ?_⟩
        have hlt : ys[i] < ys[i + 1] := by
          have := hne i (i + 1) (by omega) (by omega) (by omega)
          omega
        obtain ⟨pre, v, t, hx, hpl⟩ := split_at' (show i < ys.length by omega)
        have hlen : ys.length = pre.length + 1 + t.length := by rw [hx]; simp; omega
        have hv : ys[i] = v := by simp [hx, ← hpl]
        have ht : ∀ k (hk : k < t.length), ys[i + 1 + k]'(by omega) = t[k] := fun k hk => by
          subst hpl
          simp only [hx]
          rw [List.getElem_append_right (by omega)]
          simp only [show pre.length + 1 + k - pre.length = k + 1 by omega, List.getElem_cons_succ]
        have hd : Dec' t := by
          have : ys.drop (i + 1) = t := by rw [hx, ← hpl, List.drop_append, List.drop_eq_nil_of_le (by omega)]; simp
          rw [← this]; exact h4
        refine WLoop.mk (fun w => w.2.1 = ys ∧ ∃ k : Nat, k < t.length ∧ w.1 = ((i + 1 + k : Nat) : Int) ∧ ∀ k' (hk : k' < t.length), k < k' → t[k'] < v) (fun w => w.1.toNat)
          ⟨rfl, t.length - 1, by omega, by rw [wrap_id (by omega) (by omega)]; omega, fun k' hk hh => by omega⟩ ?_
        rintro ⟨b, zs, ⟨⟩⟩ ⟨g1, k, g2, g3, g4⟩
        dsimp only at g1 g3 ⊢
        subst g1 g3
        simp only [Int.toNat_natCast]
        refine ⟨⟨by omega, by omega⟩, _, List.getElem?_eq_getElem (by omega), ⟨by omega, by omega⟩, _, List.getElem?_eq_getElem (by omega), ?_⟩
        rw [ht k g2, hv]
        refine Br.dec (fun hg => ?_) fun hg => ?_
        · have hk0 : 0 < k := by
            refine Nat.pos_of_ne_zero fun e => ?_
            subst e
            have := ht 0 g2
            simp only [Nat.add_zero] at this
            omega
          refine ⟨trivial, trivial, ⟨⟨trivial, k - 1, by omega, by rw [wrap_id (by omega) (by omega)]; omega, fun k' hk hh => ?_⟩, by rw [wrap_id (by omega) (by omega)]; omega⟩⟩
          by_cases e : k' = k
          · subst e; exact hg
          · exact g4 k' hk (by omega)
        · have hgt : v < t[k] := by
            have := hne i (i + 1 + k) (by omega) (by omega) (by omega)
            rw [hv, ht k g2] at this
            omega
          have hsw := @swap_next pre t v hd k g2 hgt g4
          have hrm : List.length (m_rev ((zs.set i zs[i + 1 + k]).set (i + 1 + k) zs[i]) (i + 1) (zs.length - (i + 1))) = ((zs.set i zs[i + 1 + k]).set (i + 1 + k) zs[i]).length := by
            unfold m_rev
            simp only [List.length_append, List.length_reverse, List.length_take, List.length_drop, List.length_set]
            omega
          have et : zs.length - (i + 1) = t.length := by omega
          refine ⟨⟨by omega, by omega⟩, _, List.getElem?_eq_getElem (by omega), ⟨by omega, by omega⟩, _, List.getElem?_eq_getElem (by omega), ⟨by omega, by omega⟩, by omega, ⟨by omega, by omega⟩, by rw [List.length_set]; omega, ⟨by omega, by omega, by omega⟩, _, if_pos (And.intro (show short ((zs.set i zs[i + 1 + k]).set (i + 1 + k) zs[i]) by unfold short; rw [List.length_set, List.length_set]; omega) (show i + 1 + (zs.length - (i + 1)) ≤ ((zs.set i zs[i + 1 + k]).set (i + 1 + k) zs[i]).length by rw [List.length_set, List.length_set]; omega)), hrm, ?_⟩
          · show ((true, ()), m_rev ((zs.set i zs[i + 1 + k]).set (i + 1 + k) zs[i]) (i + 1) (zs.length - (i + 1)), ()) = _
            rw [et, ht k g2, hv]
            have e3 : m_rev ((zs.set i t[k]).set (i + 1 + k) v) (i + 1) t.length = (m_next zs).getD [] ∧ (m_next zs).isSome = true := by
              have := hsw
              rw [← hx, hpl] at this
              exact this
            rw [e3.1, e3.2]
            cases hm : m_next zs with
            | none => rw [hm] at e3; exact absurd e3.2 (by decide)
            | some y => rfl
    · have : i = 0 := by omega
      subst this
      refine Br.dec (fun _ => ?_) fun hn => by omega
      rw [List.drop_zero] at h4
      rw [dec_next h4]
      rfl
theorem sound_nextPerm : MSound Try.prog 133 s_nextPerm :=
  MSound.mkM tabTOK (envConsM sound_reverse envNil) mixed Try.func133 (by kernel_rfl) (by kernel_rfl) fun x h => p_nextPerm x.1 h
theorem p_identityM (n : Int) (h : 0 ≤ n ∧ n ≤ 20) : fnMW tabT (look []) s_identityM Try.f132 (n, ()) (fun (z : (List Int × Unit) × Unit) => z = ((upto n.toNat, ()), ())) := by
  refine Eq.mp (w_identityM n _) ⟨⟨by omega, by show n < (4294967296 : Int) + 1; omega⟩, rfl, rfl, rfl, ?_⟩
  refine loop_range n.toNat (fun v => v.1) (fun j v => v.2.1.length = n.toNat ∧ v.2.1.take j = upto j) rfl ⟨by simp, by simp [upto]⟩ ?_
  rintro j ⟨i, ys, ⟨⟩⟩ K hj hi ⟨h1, h2⟩ hK
  dsimp only at hi h1 h2 ⊢
  subst hi
  rw [List.length_replicate]
  simp only [Int.toNat_natCast, Nat.zero_add]
  refine Br.dec (fun hl => ⟨⟨by omega, by omega⟩, by omega, trivial, by rw [List.length_set], ?_⟩) fun hl => ?_
  · rw [wrap_nat (by omega)]
    refine hK (by omega) _ rfl ⟨by rw [List.length_set]; exact h1, ?_⟩
    rw [List.take_add_one, List.take_set_of_le (by omega), h2, List.getElem?_set_self (by omega), upto_succ]
    rfl
  · have : j = ys.length := by omega
    subst this
    rw [List.take_length] at h2
    rw [List.drop_zero, List.take_length, h2, h1]
theorem sound_identityM : MSound Try.prog 132 s_identityM :=
  MSound.mkM tabTOK envNil mixed Try.func132 (by kernel_rfl) (by kernel_rfl) fun x h => p_identityM x.1 h
theorem p_copyIntsM (xs : List Int) (h : short xs) : fnMW tabT (look []) s_copyIntsM Try.f70 (xs, ()) (fun (z : (List Int × Unit) × Unit) => z = ((xs, ()), ())) := by
  unfold short at h
  refine Eq.mp (w_copyIntsM xs _) ⟨rfl, rfl, by show 0 + xs.length ≤ 4294967296; omega, ?_⟩
  simp only [whole_row, List.nil_append]
theorem sound_copyIntsM : MSound Try.prog 70 s_copyIntsM :=
  MSound.mkM tabTOK envNil mixed Try.func70 (by kernel_rfl) (by kernel_rfl) fun x h => p_copyIntsM x.1 h
/-- From a on, each the next of the one before it, up to b. -/
inductive Run : List Int → List (List Int) → List Int → Prop where
  | one (a : List Int) : Run a [a] a
  | more {a c b : List Int} {L : List (List Int)} : m_next a = some c → Run c L b → Run a (a :: L) b
theorem Run.glue {a b c d : List Int} {L M : List (List Int)} (h : Run a L b) (hn : m_next b = some c) (h2 : Run c M d) : Run a (L ++ M) d := by
  induction h with
  | one a => exact .more hn h2
  | more h3 _ ih => exact .more h3 (ih hn)
theorem Run.cons {a b : List Int} {L : List (List Int)} (h : Run a L b) (v : Int) : Run (v :: a) (L.map (v :: ·)) (v :: b) := by
  induction h with
  | one a => exact .one _
  | more h3 _ ih => exact .more (next_pre h3 [v]) ih
abbrev Inc (l : List Int) : Prop := List.Pairwise (fun a b => a < b) l
theorem lex_run : ∀ (k : Nat) (R : List Int), Inc R → R.length = k → Run R (lex k R) R.reverse
  | 0, R, _, hl => by
    have : R = [] := List.length_eq_zero_iff.1 hl
    subst this
    exact .one []
  | k + 1, R, hR, hl => by
    have key : ∀ (B A : List Int) (v : Int), R = A ++ v :: B → Run (v :: (A ++ B)) ((v :: B).flatMap fun u => (lex k (R.erase u)).map (u :: ·)) R.reverse := by
      intro B
      induction B with
      | nil =>
        intro A v hA
        have he : R.erase v = A := by
          rw [hA, List.erase_append_right _ (fun hm => by
            have := (List.pairwise_append.1 (hA ▸ hR)).2.2 v hm v (by simp)
            omega)]
          simp
        have h1 := lex_run k A ((List.pairwise_append.1 (hA ▸ hR)).1) (by rw [hA] at hl; simp at hl; omega)
        simp only [List.flatMap_cons, List.flatMap_nil, List.append_nil]
        rw [he, hA]
        have h2 := h1.cons v
        simpa using h2
      | cons v' B ih =>
        intro A v hA
        have hp := List.pairwise_append.1 (hA ▸ hR)
        have hp2 := List.pairwise_cons.1 hp.2.1
        have hp3 := List.pairwise_cons.1 hp2.2
        have he : R.erase v = A ++ v' :: B := by
          rw [hA, List.erase_append_right _ (fun hm => by
            have := hp.2.2 v hm v (by simp)
            omega)]
          simp
        have hinc : Inc (A ++ v' :: B) := List.pairwise_append.2 ⟨hp.1, hp2.2, fun a ha b hb => hp.2.2 a ha b (List.mem_cons_of_mem _ hb)⟩
        have h1 := (lex_run k (A ++ v' :: B) hinc (by rw [hA] at hl; simp at hl ⊢; omega)).cons v
        have h2 := ih (A ++ [v]) v' (by rw [hA]; simp)
        rw [List.flatMap_cons, he]
        refine h1.glue ?_ h2
        have hrev : (A ++ v' :: B).reverse = B.reverse ++ v' :: A.reverse := by simp
        have hdec : Dec' (B.reverse ++ v' :: A.reverse) := by
          rw [← hrev]
          exact List.pairwise_reverse.2 hinc
        rw [hrev]
        have hj : B.reverse.length < (B.reverse ++ v' :: A.reverse).length := by simp
        have hg : (B.reverse ++ v' :: A.reverse)[B.reverse.length] = v' := by simp
        have := @next_at [] (B.reverse ++ v' :: A.reverse) v hdec B.reverse.length hj (by rw [hg]; exact hp2.1 v' (by simp)) (fun q hq hlt => by
          rw [List.getElem_append_right (by omega)]
          obtain ⟨q', hq'⟩ : ∃ q', q - B.reverse.length = q' + 1 := ⟨q - B.reverse.length - 1, by omega⟩
          have hq2 : q' < A.reverse.length := by simp at hq hq' ⊢; omega
          have hm : A.reverse[q'] ∈ A := List.mem_reverse.1 (List.getElem_mem _)
          have e : (v' :: A.reverse)[q - B.reverse.length]'(by rw [hq']; simpa using hq2) = A.reverse[q'] := by simp only [hq', List.getElem_cons_succ]
          rw [e]
          exact hp.2.2 _ hm v (by simp))
        rw [List.nil_append] at this
        rw [this, hg, set_mid]
        simp only [List.nil_append, List.reverse_append, List.reverse_cons, List.reverse_reverse, List.append_assoc, List.cons_append]
    cases R with
    | nil => simp at hl
    | cons v B =>
      have := key B [] v rfl
      rw [lex]
      exact this
theorem lex_perm : ∀ (k : Nat) (R x : List Int), R.length = k → x ∈ lex k R → x.Perm R
  | 0, R, x, hl, hx => by
    have : R = [] := List.length_eq_zero_iff.1 hl
    subst this
    rw [lex, List.mem_singleton] at hx
    subst hx
    exact .nil
  | k + 1, R, x, hl, hx => by
    rw [lex, List.mem_flatMap] at hx
    obtain ⟨v, hv, hx⟩ := hx
    obtain ⟨y, hy, rfl⟩ := List.mem_map.1 hx
    have h1 := lex_perm k (R.erase v) y (by rw [List.length_erase_of_mem hv]; omega) hy
    exact (h1.cons v).trans (List.perm_cons_erase hv).symm
def factl : Nat → Nat
  | 0 => 1
  | k + 1 => (k + 1) * factl k
theorem flat_len {α β : Type} {n : Nat} (f : α → List β) : ∀ (l : List α), (∀ a ∈ l, (f a).length = n) → (l.flatMap f).length = l.length * n
  | [], _ => by simp
  | a :: r, h => by
    rw [List.flatMap_cons, List.length_append, flat_len f r (fun b hb => h b (List.mem_cons_of_mem _ hb)), h a (by simp), List.length_cons, Nat.succ_mul]
    omega
theorem lex_len : ∀ (k : Nat) (R : List Int), R.length = k → (lex k R).length = factl k
  | 0, _, _ => rfl
  | k + 1, R, hl => by
    rw [lex, flat_len (n := factl k) _ _ (fun v hv => by rw [List.length_map]; exact lex_len k _ (by rw [List.length_erase_of_mem hv]; omega)), hl]
    rfl
theorem factl_le : ∀ k, k ≤ 7 → factl k ≤ 5040 := by decide
theorem upto_inc (n : Nat) : Inc (upto n) := by
  unfold upto
  refine List.pairwise_map.2 (List.Pairwise.imp ?_ List.pairwise_lt_range)
  intro a b h
  exact Int.ofNat_lt.2 h
theorem lexU_len {n : Nat} (h : n ≤ 7) : (lex n (upto n)).length ≤ 5040 := by rw [lex_len n _ (upto_len n)]; exact factl_le n h
theorem perm_genOK {n : Int} {x : List Int} (h1 : 1 ≤ n) (h2 : n ≤ 20) (h : x.Perm (upto n.toNat)) : m_genOK n x = true := by
  have hl : x.length = n.toNat := by rw [h.length_eq, upto_len]
  refine dec_iff.2 ⟨by omega, dec_iff.2 ⟨by omega, by omega, fun j hj _ => ?_⟩⟩
  have hm := mem_upto.1 (h.mem_iff.1 (List.getElem_mem hj))
  refine ⟨hm.1, by omega, fun hc => ?_⟩
  have hnd : x.Nodup := h.nodup_iff.2 (upto_nodup _)
  rw [← List.take_append_drop j x, List.drop_eq_getElem_cons hj] at hnd
  exact (List.pairwise_append.1 hnd).2.2 _ hc _ (List.mem_cons_self ..) rfl
/-- A list run through from one to the next. -/
theorem Run.head {a b : List Int} {L : List (List Int)} (h : Run a L b) : ∃ M, L = a :: M := by
  cases h with
  | one => exact ⟨_, rfl⟩
  | more _ _ => exact ⟨_, rfl⟩
theorem Run.at {a b : List Int} {L : List (List Int)} (h : Run a L b) : ∀ j (hj : j < L.length), (∀ h2 : j + 1 < L.length, m_next L[j] = some L[j + 1]) ∧ (j + 1 = L.length → L[j] = b) := by
  induction h with
  | one a =>
    intro j hj
    simp only [List.length_singleton] at hj
    have : j = 0 := by omega
    subst this
    exact ⟨fun h2 => by simp at h2, fun _ => rfl⟩
  | more h3 h4 ih =>
    intro j hj
    rcases j with _ | j
    · obtain ⟨M, hM⟩ := h4.head
      refine ⟨fun h2 => ?_, fun h2 => ?_⟩
      · simp only [List.getElem_cons_zero, List.getElem_cons_succ]
        subst hM
        exact h3
      · subst hM; simp at h2
    · have := ih j (by simpa using hj)
      refine ⟨fun h2 => ?_, fun h2 => ?_⟩
      · simp only [List.getElem_cons_succ]
        exact this.1 (by simpa using h2)
      · simp only [List.getElem_cons_succ]
        exact this.2 (by simpa using h2)
theorem Run.distinct {a b : List Int} {L : List (List Int)} (h : Run a L b) (hb : m_next b = none) : ∀ k i j (hi : i < L.length) (hj : j < L.length), L.length - j = k → i < j → L[i] ≠ L[j] := by
  intro k
  induction k with
  | zero => intro i j hi hj hk; omega
  | succ k ih =>
    intro i j hi hj hk hij he
    by_cases e : j + 1 < L.length
    · have h1 := (h.at i hi).1 (by omega)
      have h2 := (h.at j hj).1 e
      rw [he, h2] at h1
      exact ih (i + 1) (j + 1) (by omega) e (by omega) (by omega) (Option.some.inj h1).symm
    · have h1 := (h.at i hi).1 (by omega)
      have h2 := (h.at j hj).2 (by omega)
      rw [he, h2, hb] at h1
      cases h1
theorem Run.idx {a b : List Int} {L : List (List Int)} (h : Run a L b) (hb : m_next b = none) {j : Nat} (hj : j < L.length) : L.idxOf L[j] = j := by
  have h1 : L.idxOf L[j] < L.length := List.idxOf_lt_length_of_mem (List.getElem_mem _)
  have h2 : L[L.idxOf L[j]] = L[j] := List.getElem_idxOf h1
  rcases Nat.lt_trichotomy (L.idxOf L[j]) j with h3 | h3 | h3
  · exact absurd h2 (h.distinct hb _ _ _ h1 hj rfl h3)
  · exact h3
  · exact absurd h2.symm (h.distinct hb _ _ _ hj h1 rfl h3)
theorem upto_run (n : Nat) : Run (upto n) (lex n (upto n)) (upto n).reverse := lex_run n _ (upto_inc n) (upto_len n)
theorem last_none (n : Nat) : m_next (upto n).reverse = none := next_none _ (List.pairwise_reverse.2 (upto_inc n))
theorem filter_take {α : Type} (f : α → Bool) (L : List α) {j : Nat} (h : j < L.length) : (L.take (j + 1)).filter f = (L.take j).filter f ++ if f L[j] = true then [L[j]] else [] := by
  rw [List.take_add_one, List.getElem?_eq_getElem h, List.filter_append]
  congr 1
  simp only [Option.toList]
  by_cases e : f L[j] = true
  · rw [if_pos e, List.filter_cons_of_pos e]; rfl
  · rw [if_neg e, List.filter_cons_of_neg e]; rfl
theorem p_symListI (n : Int) (str : ByteArray) (g : List (List Int)) (h : m_validP (n, str, g, ()) = true ∧ n ≤ 7) : fnMW tabT (look [(132, s_identityM), (127, s_isSymP), (76, s_cloneM), (133, s_nextPerm)]) s_symListI Try.f87 (n, str, g, ()) (fun (z : (List (List Int) × Unit) × Unit) => z = ((m_syms (n, str, g, ()), ()), ())) := by
  obtain ⟨hv, h7⟩ := h
  have hvl := validP_len hv
  dsimp only at hvl
  refine Eq.mp (w_symListI n str g _) ⟨_, if_pos ⟨by show 0 ≤ n; omega, by show n ≤ 20; omega⟩, rfl, rfl, rfl, rfl, ?_⟩
  show WLoop _ (n, str, g, [], upto n.toNat, PUnit.unit)
  generalize hL : lex n.toNat (upto n.toNat) = L
  have hrun := upto_run n.toNat
  have hperm : ∀ x ∈ L, x.Perm (upto n.toNat) := fun x hx => lex_perm _ _ x (upto_len _) (hL ▸ hx)
  have hlen := lexU_len (n := n.toNat) (by omega)
  rw [hL] at hrun hlen
  have hat := hrun.at
  have hfin : ∀ j (hj : j < L.length) (o : Option (List Int)), m_next L[j] = o → (o = none ∧ j + 1 = L.length) ∨ (∃ h2 : j + 1 < L.length, o = some L[j + 1]) := fun j hj o ho => by
    by_cases e : j + 1 < L.length
    · exact .inr ⟨e, by rw [← ho]; exact (hat j hj).1 e⟩
    · refine .inl ⟨?_, by omega⟩
      rw [← ho, (hat j hj).2 (by omega)]
      exact last_none _
  have hsy : m_syms (n, str, g, ()) = L.filter (m_isSym (n, str, g, ())) := by unfold m_syms; rw [hL]
  have hix : ∀ j (hj : j < L.length), L.idxOf L[j] = j := fun j hj => hrun.idx (last_none _) hj
  obtain ⟨M, hM⟩ := hrun.head
  have h0 : 0 < L.length := by rw [hM]; simp
  have hgen : ∀ j (hj : j < L.length), m_genOK n L[j] = true := fun j hj => perm_genOK hvl.1 (by omega) (hperm _ (List.getElem_mem _))
  have hlen2 : ∀ j (hj : j < L.length), L[j].length = n.toNat := fun j hj => by rw [(hperm _ (List.getElem_mem _)).length_eq, upto_len]
  have hnd : ∀ j (hj : j < L.length), L[j].Nodup := fun j hj => (hperm _ (List.getElem_mem _)).nodup_iff.2 (upto_nodup _)
  have hfl : ∀ j, ((L.take j).filter (m_isSym (n, str, g, ()))).length ≤ 5040 := fun j => Nat.le_trans (List.length_filter_le _ _) (by rw [List.length_take]; omega)
  refine WLoop.mk (fun v => v.1 = n ∧ v.2.1 = str ∧ v.2.2.1 = g ∧ ∃ j, ∃ h : j < L.length, v.2.2.2.1 = (L.take j).filter (m_isSym (n, str, g, ())) ∧ v.2.2.2.2.1 = L[j])
    (fun v => L.length - L.idxOf v.2.2.2.2.1) ⟨rfl, rfl, rfl, 0, h0, by simp, by simp [hM]⟩ ?_
  rintro ⟨n', str', g', out, q, ⟨⟩⟩ ⟨h1, h2, h3, j, hj, h4, h5⟩
  dsimp only at h1 h2 h3 h4 h5
  subst h1 h2 h3 h4 h5
  dsimp only
  have hshort : short L[j] := by unfold short; rw [hlen2]; omega
  rw [whole_row L[j]]
  have hft := filter_take (m_isSym (n', str', g', ())) L hj
  have step : ∀ out', out' = (L.take (j + 1)).filter (m_isSym (n', str', g', ())) →
      ∃ (y9 : (Bool × PUnit) × List Int × PUnit), s_nextPerm.fn (L[j], ()) = some y9 ∧ (y9.2.fst.length = L[j].length ∧ L[j].length = L[j].length) ∧
        Br (!y9.1.fst) (((List.take out'.length (List.drop 0 out'), ()), ()) = ((m_syms (n', str', g', ()), ()), ()))
          ((0 : Nat) = (0 : Nat) ∧ out'.length = out'.length ∧ (0 : Nat) = (0 : Nat) ∧ L[j].length = y9.2.fst.length ∧
            ((n' = n' ∧ str' = str' ∧ g' = g' ∧ ∃ j1, ∃ _ : j1 < L.length, out' = (L.take j1).filter (m_isSym (n', str', g', ())) ∧ y9.2.fst = L[j1]) ∧ L.length - L.idxOf y9.2.fst < L.length - L.idxOf L[j])) := by
    intro out' ho
    refine ⟨_, if_pos ⟨by show 1 ≤ L[j].length; rw [hlen2]; omega, by show L[j].length ≤ 20; rw [hlen2]; omega, hnd j hj⟩, ?_⟩
    rw [whole_row]
    rcases hfin j hj _ rfl with ⟨e1, e2⟩ | ⟨e1, e2⟩
    · simp only [e1, Option.isSome, Option.getD, Bool.not_false]
      refine ⟨⟨trivial, trivial⟩, ⟨fun _ => ?_, fun he => (by cases he)⟩⟩
      rw [ho, hsy, e2, List.take_length]
    · simp only [e2, Option.isSome, Option.getD, Bool.not_true]
      have hll : L[j + 1].length = L[j].length := by rw [hlen2, hlen2]
      exact ⟨⟨hll, trivial⟩, ⟨fun he => (by cases he), fun _ => ⟨trivial, trivial, trivial, hll.symm, ⟨trivial, trivial, trivial, j + 1, e1, ho, rfl⟩, by rw [hix, hix]; omega⟩⟩⟩
  refine ⟨_, if_pos ⟨hv, hgen j hj⟩, ⟨fun hs => ?_, fun hs => ?_⟩⟩
  · have hs : m_isSym (n', str', g', ()) L[j] = true := hs
    rw [if_pos hs] at hft
    refine ⟨_, if_pos hshort, rfl, rfl, ?_, rfl, rfl, ?_⟩
    · show _ + 1 ≤ 4294967296
      have := hfl j
      omega
    · exact step _ (show _ ++ List.take 1 (List.drop 0 [List.take L[j].length (List.drop 0 L[j])]) = _ by rw [whole_row L[j]]; exact hft.symm)
  · have hs : m_isSym (n', str', g', ()) L[j] = false := hs
    rw [if_neg (by rw [hs]; decide), List.append_nil] at hft
    exact ⟨rfl, rfl, step _ hft.symm⟩
theorem sound_symListI : MSound Try.prog 87 s_symListI :=
  MSound.mkM tabTOK (envConsM sound_identityM (envCons sound_implIsSymP (envConsM sound_cloneM (envConsM sound_nextPerm envNil)))) mixed Try.func87 (by kernel_rfl) (by kernel_rfl) fun x h => p_symListI x.1 x.2.1 x.2.2.1 h
theorem row_genOK {n : Int} {x : List Int} (h1 : 1 ≤ n) (h2 : n ≤ 20) (hl : x.length = n.toNat) (hnd : x.Nodup) (hr : inRow n.toNat x) : m_genOK n x = true := by
  refine dec_iff.2 ⟨by omega, dec_iff.2 ⟨by omega, by omega, fun j hj _ => ?_⟩⟩
  have hm := hr _ (List.getElem_mem hj)
  refine ⟨hm.1, by omega, fun hc => ?_⟩
  rw [← List.take_append_drop j x, List.drop_eq_getElem_cons hj] at hnd
  exact (List.pairwise_append.1 hnd).2.2 _ hc _ (List.mem_cons_self ..) rfl
def exUpto (n : Nat) (l : List Int) (j : Nat) : List (List Int) := ((upto j).filter fun v => !l.contains v).flatMap fun v => (lex (n - l.length - 1) ((restOf n l).erase v)).map fun x => l ++ v :: x
theorem exts_all {n : Nat} {l : List Int} (h : l.length < n) : extsOf n l = exUpto n l n := by
  unfold extsOf exUpto
  obtain ⟨k, hk⟩ : ∃ k, n - l.length = k + 1 := ⟨n - l.length - 1, by omega⟩
  rw [hk, lex, List.map_flatMap, Nat.add_sub_cancel]
  simp only [List.map_map]
  rfl
theorem rest_snoc {n : Nat} {l : List Int} {v : Int} : restOf n (l ++ [v]) = (restOf n l).erase v := by
  unfold restOf
  have hn : ((upto n).filter fun u => !l.contains u).Nodup := (upto_nodup n).sublist List.filter_sublist
  rw [hn.erase_eq_filter, List.filter_filter]
  refine List.filter_congr fun u _ => ?_
  simp only [List.contains_append, List.contains_cons, List.contains_nil, Bool.or_false, Bool.not_or]
  rw [Bool.and_comm]
  rfl
theorem exts_snoc {n : Nat} {l : List Int} {v : Int} : extsOf n (l ++ [v]) = (lex (n - l.length - 1) ((restOf n l).erase v)).map fun x => l ++ v :: x := by
  unfold extsOf
  rw [rest_snoc, List.length_append, List.length_singleton, ← Nat.sub_sub]
  congr 1
  funext x
  simp
theorem exUpto_succ (n : Nat) (l : List Int) (j : Nat) : exUpto n l (j + 1) = exUpto n l j ++ if l.contains (j : Int) = true then [] else extsOf n (l ++ [(j : Int)]) := by
  unfold exUpto
  rw [upto_succ, List.filter_append, List.flatMap_append]
  congr 1
  by_cases e : l.contains (j : Int) = true
  · rw [if_pos e, List.filter_cons_of_neg (by rw [e]; decide)]; rfl
  · rw [if_neg e, List.filter_cons_of_pos (by rw [Bool.eq_false_iff.2 e]; rfl), exts_snoc]; simp
theorem exUpto_le (n : Nat) (l : List Int) {j m : Nat} (h : j ≤ m) : (exUpto n l j).length ≤ (exUpto n l m).length := by
  induction m with
  | zero => have : j = 0 := by omega
            subst this; exact Nat.le_refl _
  | succ m ih =>
    rcases Nat.lt_or_ge j (m + 1) with h1 | h1
    · have := ih (by omega)
      rw [exUpto_succ, List.length_append]; omega
    · have : j = m + 1 := by omega
      subst this; exact Nat.le_refl _
theorem m_contains_eq {xs : List Int} {x : Int} : m_containsInt xs x = xs.contains x := by
  rw [Bool.eq_iff_iff]
  simp [m_containsInt]
theorem p_extN {m : Nat} (n : Int) (str : ByteArray) (g : List (List Int)) (l : List Int) (out : List (List Int))
    (h : (m_validP (n, str, g, ()) = true ∧ n ≤ 7 ∧ l.Nodup ∧ inRow n.toNat l ∧ l.length ≤ n.toNat ∧ out.length + (extsOf n.toNat l).length ≤ 6000) ∧ n.toNat - l.length < m + 1) :
    fnMW tabT (look [(120, s_isSymP), (70, s_copyIntsM), (131, s_containsInt), (85, ASpec.m (s_extN m))]) (s_extN (m+1)) Try.f85 (n, str, g, l, out, ()) (fun (z : (List (List Int) × Unit) × Unit) => z = ((m_ext (n, str, g, ()) l out, ()), ())) := by
  obtain ⟨⟨hv, h7, hnd, hrow, hll, hroom⟩, hm⟩ := h
  have hvl := validP_len hv
  dsimp only at hvl
  refine Eq.mp (w_extN n str g l out _) ?_
  have hsl : short l := by unfold short; omega
  refine ⟨fun he => ?_, fun he => ?_⟩
  · have he : (l.length : Int) = n := by simpa using he
    have hex : extsOf n.toNat l = [l] := by
      unfold extsOf
      rw [show n.toNat - l.length = 0 by omega, lex]
      simp
    rw [hex] at hroom
    simp only [List.length_singleton] at hroom
    have hg : m_genOK n l = true := row_genOK hvl.1 (by omega) (by omega) hnd hrow
    refine ⟨_, if_pos ⟨hv, hg⟩, ⟨fun hs => ?_, fun hs => ?_⟩⟩
    · have hs : m_isSym (n, str, g, ()) l = true := hs
      refine ⟨_, if_pos hsl, rfl, rfl, ?_, ?_⟩
      · show out.length + 1 ≤ 4294967296
        omega
      · rw [whole_row]
        show ((out ++ List.take 1 (List.drop 0 [List.take l.length (List.drop 0 l)]), ()), ()) = _
        rw [whole_row]
        unfold m_ext
        rw [hex, List.filter_cons_of_pos hs]
        rfl
    · have hs : m_isSym (n, str, g, ()) l = false := hs
      rw [whole_row]
      unfold m_ext
      rw [hex, List.filter_cons_of_neg (by rw [hs]; decide)]
      simp
  · have he : (l.length : Int) ≠ n := by simpa using he
    have hlt : l.length < n.toNat := by omega
    rw [exts_all hlt] at hroom
    refine ⟨rfl, rfl, ?_⟩
    refine loop_range n.toNat (fun v => v.1) (fun j v => v.2.1 = n ∧ v.2.2.1 = str ∧ v.2.2.2.1 = g ∧ v.2.2.2.2.1 = out ++ (exUpto n.toNat l j).filter (m_isSym (n, str, g, ()))) rfl ⟨rfl, rfl, rfl, by simp [exUpto, upto]⟩ ?_
    rintro j ⟨i, n', str', g', out', ⟨⟩⟩ K hj hi ⟨h1, h2, h3, h4⟩ hK
    dsimp only at hi h1 h2 h3 h4
    subst hi h1 h2 h3
    dsimp only
    refine Br.dec (fun hl => ?_) fun hl => ?_
    · have hl : j < n'.toNat := by omega
      have hsu := exUpto_succ n'.toNat l j
      have hle := exUpto_le n'.toNat l (show j + 1 ≤ n'.toNat by omega)
      have hfo := List.length_filter_le (m_isSym (n', str', g', ())) (exUpto n'.toNat l j)
      refine ⟨_, if_pos hsl, ⟨fun hc => ?_, fun hc => ?_⟩⟩
      · simp only [and_self]
        have hc : l.contains (j : Int) = false := by
          have hc : (!m_containsInt l (j : Int)) = true := hc
          exact m_contains_eq ▸ (by simpa using hc)
        rw [if_neg (by rw [hc]; decide)] at hsu
        have hnm : (j : Int) ∉ l := fun hm' => by rw [List.contains_iff_mem.2 hm'] at hc; cases hc
        rw [hsu, List.length_append] at hle
        refine ⟨_, if_pos hsl, trivial, trivial, by show l.length + 1 ≤ 4294967296; omega, trivial, trivial, ?_⟩
        dsimp only
        rw [whole_row]
        have hpre : (m_validP (n', str', g', ()) = true ∧ n' ≤ 7 ∧ (l ++ [(j : Int)]).Nodup ∧ inRow n'.toNat (l ++ [(j : Int)]) ∧ (l ++ [(j : Int)]).length ≤ n'.toNat ∧ out'.length + (extsOf n'.toNat (l ++ [(j : Int)])).length ≤ 6000) ∧ n'.toNat - (l ++ [(j : Int)]).length < m := by
          refine ⟨⟨hv, h7, ?_, ?_, ?_, ?_⟩, ?_⟩
          · show (l ++ [(j : Int)]).Nodup
            exact List.nodup_append.2 ⟨hnd, by simp, fun a ha b hb => by
              simp only [List.mem_singleton] at hb
              subst hb
              exact fun e => hnm (e ▸ ha)⟩
          · show inRow n'.toNat (l ++ [(j : Int)])
            intro y hy
            rcases List.mem_append.1 hy with hy | hy
            · exact hrow y hy
            · simp only [List.mem_singleton] at hy
              subst hy
              omega
          · show (l ++ [(j : Int)]).length ≤ n'.toNat
            rw [List.length_append, List.length_singleton]; omega
          · show out'.length + (extsOf n'.toNat (l ++ [(j : Int)])).length ≤ 6000
            rw [h4, List.length_append]
            omega
          · show n'.toNat - (l ++ [(j : Int)]).length < m
            rw [List.length_append, List.length_singleton]; omega
        refine ⟨_, if_pos hpre, trivial, trivial, ?_⟩
        rw [wrap_nat (by omega)]
        refine hK hl _ rfl ⟨rfl, rfl, rfl, ?_⟩
        show m_ext (n', str', g', ()) (l ++ [(j : Int)]) out' = _
        unfold m_ext
        rw [h4, hsu, List.filter_append, List.append_assoc]
      · have hc : l.contains (j : Int) = true := by
          have hc : (!m_containsInt l (j : Int)) = false := hc
          exact m_contains_eq ▸ (by simpa using hc)
        rw [if_pos hc, List.append_nil] at hsu
        refine ⟨rfl, rfl, ?_⟩
        rw [wrap_nat (by omega)]
        refine hK hl _ rfl ⟨rfl, rfl, rfl, ?_⟩
        rw [hsu]
        exact h4
    · have : j = n'.toNat := by omega
      subst this
      rw [whole_row, h4]
      unfold m_ext
      rw [exts_all hlt]
theorem step_extN {m : Nat} (ih_extN : MSound Try.prog 85 (s_extN m)) : MSound Try.prog 85 (s_extN (m+1)) :=
  MSound.mkM tabTOK (envCons sound_specIsSymP (envConsM sound_copyIntsM (envCons sound_containsInt (envConsM ih_extN envNil)))) mixed Try.func85 (by kernel_rfl) (by kernel_rfl) fun x h => p_extN x.1 x.2.1 x.2.2.1 x.2.2.2.1 x.2.2.2.2.1 h
noncomputable abbrev s_ext : MSpec := mkM [some 3, none, none] [(false, .dat tI), (false, .dat .str), (false, .dat tLL), (false, .dat tL), (false, rLL)] false [none] [rLL]
  (fun x => m_validP (x.1, x.2.1, x.2.2.1, ()) = true ∧ x.1 ≤ 7 ∧ List.Nodup (x.2.2.2.1 : List Int) ∧ inRow x.1.toNat x.2.2.2.1 ∧ List.length x.2.2.2.1 ≤ x.1.toNat ∧ List.length x.2.2.2.2.1 + (extsOf x.1.toNat x.2.2.2.1).length ≤ 6000)
  (fun x => ((m_ext (x.1, x.2.1, x.2.2.1, ()) x.2.2.2.1 x.2.2.2.2.1, ()), ()))
theorem sound_extN0 : MSound Try.prog 85 (s_extN 0) :=
  MSound.mkM tabTOK envNil mixed Try.func85 (by kernel_rfl) (by kernel_rfl) fun _ h => absurd h.2 (Nat.not_lt_zero _)
theorem sound_extNs : ∀ m, MSound Try.prog 85 (s_extN m)
  | 0 => sound_extN0
  | m + 1 => step_extN (sound_extNs m)
theorem sound_ext : MSound Try.prog 85 s_ext := MSound.ofLt (fun x => x.1.toNat - List.length x.2.2.2.1) sound_extNs
end Go.Proofs.Ytfghmbpogmcboaa

namespace Go.Proofs.Ytfghmbpogmcboaa
open Go.RowKit

def m_compare : List Int → List Int → Int
  | [], [] => 0
  | [], _ :: _ => -1
  | _ :: _, [] => 1
  | x :: a, y :: b => if x < y then -1 else if x > y then 1 else m_compare a b
def m_lt (a b : List Int) : Bool := decide (m_compare a b < 0)
def m_canon (list : List (List Int)) (s : List Int) : List Int := list.foldl (fun least q => if m_lt (m_conj s q) least = true then m_conj s q else least) s
def canonOK (list : List (List Int)) (s : List Int) : Prop := list.length ≤ 6000 ∧ s.length ≤ 20 ∧ inRow s.length s ∧ ∀ q ∈ list, s.length = q.length ∧ m_isPerm q = true
noncomputable def m_small (p : PP) : Bool := m_validP p && decide (p.1 ≤ 7)
noncomputable def m_symsS (p : PP) : List (List Int) := if m_small p = true then m_syms p else []
noncomputable def m_canonS (p : PP) (s : List Int) : List Int := if m_small p = true ∧ m_genOK p.1 s = true then m_canon (m_syms p) s else []
noncomputable abbrev s_cloneOQ : Spec := mkS (.pair (.oslice tI) .unit) tL false true (fun x => short (x.1.getD [])) (fun x => x.1.getD [])
noncomputable abbrev s_cloneQ : Spec := mkS (.pair tL .unit) tL false true (fun x => short x.1) (fun x => x.1)
noncomputable abbrev s_isNaN : Spec := mkS (.pair tI .unit) .bool false true (fun _ => True) (fun _ => false)
noncomputable abbrev s_cmp : Spec := mkS (.pair tI (.pair tI .unit)) tI false true (fun _ => True) (fun x => if x.1 < x.2.1 then -1 else if x.1 > x.2.1 then 1 else 0)
noncomputable abbrev s_compare : Spec := mkS (.pair tL (.pair tL .unit)) tI false true (fun x => short x.1 ∧ short x.2.1) (fun x => m_compare x.1 x.2.1)
noncomputable abbrev s_precedes : Spec := mkS (.pair tL (.pair tL .unit)) .bool false true (fun x => short x.1 ∧ List.length x.1 = List.length x.2.1) (fun x => m_lt x.1 x.2.1)
noncomputable abbrev s_canonQ : Spec := mkS (.pair tLL (.pair tL .unit)) tL false true (fun x => canonOK x.1 x.2.1) (fun x => m_canon x.1 x.2.1)
noncomputable abbrev s_canonM : MSpec := mkM [none, none] [(false, .dat tLL), (false, .dat tL)] false [none] [rL] (fun x => canonOK x.1 x.2.1) (fun x => ((m_canon x.1 x.2.1, ()), ()))
noncomputable abbrev s_small : Spec := mkS (.pair tPuzzle .unit) .bool false true (fun x => shortP x.1) (fun x => m_small x.1)
noncomputable abbrev s_specSyms : Spec := mkS (.pair tPuzzle .unit) tLL false false (fun x => shortP x.1) (fun x => m_symsS x.1)
noncomputable abbrev s_implCanon : MSpec := mkM [some 3, none] [(false, .dat tI), (false, .dat .str), (false, .dat tLL), (false, .dat tL)] false [none] [rL] (fun x => shortP (x.1, x.2.1, x.2.2.1, ()) ∧ short x.2.2.2.1) (fun x => ((m_canonS (x.1, x.2.1, x.2.2.1, ()) x.2.2.2.1, ()), ()))
noncomputable abbrev s_specCanon : Spec := mkS (.pair tPuzzle (.pair tL .unit)) tL false true (fun x => shortP x.1 ∧ short x.2.1) (fun x => m_canonS x.1 x.2.1)
noncomputable abbrev s_lawPLx : Spec := mkS (.pair tPuzzle (.pair tL .unit)) .bool false true (fun x => shortP x.1 ∧ short x.2.1) (fun _ => true)
theorem w_cloneOQ (xs : Option (List Int)) (P : List Int → Prop) : (Br xs.isNone (P (List.take (0 : Nat) (List.drop (0 : Nat) [])))
  ((0 : Nat) = (0 : Nat) ∧ (0 : Nat) = ([] : List Int).length ∧ (0 : Nat) + (xs.getD []).length ≤ maxRow ∧ P (List.take ([] ++ xs.getD []).length (List.drop (0 : Nat) ([] ++ xs.getD []))))) = fnW tab (look []) s_cloneOQ Try.f76 (xs, ()) P := by kernel_rfl
theorem w_isNaN (x : Int) (P : Bool → Prop) : (P (x != x)) = fnW tab (look []) s_isNaN Try.f168 (x, ()) P := by kernel_rfl
theorem w_cmp (x y : Int) (P : Int → Prop) : (∃ (y3 : Bool),
  s_isNaN.fn (x, ()) = some y3 ∧
    ∃ (y4 : Bool),
      s_isNaN.fn (y, ()) = some y4 ∧ Br y3 (Br y4 (P (0 : Int)) (P (-1 : Int))) (Br y4 (P (1 : Int)) (Br (decide (x < y)) (P (-1 : Int)) (Br (decide (x > y)) (P (1 : Int)) (P (0 : Int)))))) = fnW tab (look [(168, s_isNaN)]) s_cmp Try.f159 (x, y, ()) P := by kernel_rfl
theorem w_compare (a b : List Int) (P : Int → Prop) : (WLoop
  (fun (v3 : Int × PUnit) (k4 : Int × PUnit → Prop) =>
    Br (decide (v3.fst < (↑a.length : Int)))
      (∃ (y5 : Int),
        idx a v3.fst = some y5 ∧
          Br (decide (v3.fst ≥ (↑b.length : Int))) (P (1 : Int))
            (∃ (y6 : Int), idx b v3.fst = some y6 ∧ ∃ (y7 : Int), s_cmp.fn (y5, y6, ()) = some y7 ∧ Br (y7 != (0 : Int)) (P y7) (k4 (IntKind.i64.wrap (v3.fst + (1 : Int)), ()))))
      (Br (decide ((↑a.length : Int) < (↑b.length : Int))) (P (-1 : Int)) (P (0 : Int))))
  ((0 : Int), PUnit.unit)) = fnW tab (look [(159, s_cmp)]) s_compare Try.f138 (a, b, ()) P := by kernel_rfl
theorem w_precedes (a b : List Int) (P : Bool → Prop) : (WLoop
  (fun (v3 : Int × PUnit) (k4 : Int × PUnit → Prop) =>
    Br (decide (v3.fst < (↑a.length : Int)))
      (∃ (y5 : Int),
        idx a v3.fst = some y5 ∧
          ∃ (y6 : Int),
            idx b v3.fst = some y6 ∧
              Br (y5 != y6) (∃ (y7 : Int), idx a v3.fst = some y7 ∧ ∃ (y8 : Int), idx b v3.fst = some y8 ∧ P (decide (y7 < y8))) (k4 (IntKind.i64.wrap (v3.fst + (1 : Int)), ())))
      (P false))
  ((0 : Int), PUnit.unit)) = fnW tab (look []) s_precedes Try.f135 (a, b, ()) P := by kernel_rfl
theorem w_canonQ (l : List (List Int)) (s : List Int) (P : List Int → Prop) : (∃ (y3 : List Int),
  s_cloneQ.fn (s, ()) = some y3 ∧
    WLoop
      (fun (v4 : List Int × Int × PUnit) (k5 : List Int × Int × PUnit → Prop) =>
        Br (decide (v4.2.fst < (↑l.length : Int)))
          (∃ (y6 : List Int),
            idx l v4.2.fst = some y6 ∧
              ∃ (y7 : List Int),
                s_conjugate.fn (s, y6, ()) = some y7 ∧
                  ∃ (y8 : Int),
                    s_compare.fn (y7, v4.fst, ()) = some y8 ∧
                      Br (decide (y8 < (0 : Int))) (k5 (y7, IntKind.i64.wrap (v4.2.fst + (1 : Int)), ())) (k5 (v4.fst, IntKind.i64.wrap (v4.2.fst + (1 : Int)), ())))
          (P v4.fst))
      (y3, (0 : Int), PUnit.unit)) = fnW tab (look [(76, s_cloneQ), (129, s_conjugate), (138, s_compare)]) s_canonQ Try.f94 (l, s, ()) P := by kernel_rfl
theorem w_canonM (l : List (List Int)) (s : List Int) (P : ((List Int × Unit) × Unit) → Prop) : (∃ (y3 : (List Int × PUnit) × PUnit),
  s_cloneM.fn (s, ()) = some y3 ∧
    (0 : Nat) = (0 : Nat) ∧
      y3.1.fst.length = y3.1.fst.length ∧
        WLoop
          (fun (v4 : Int × List Int × PUnit) (k5 : Int × List Int × PUnit → Prop) =>
            Br (decide (v4.fst < (↑l.length : Int)))
              (∃ (y6 : List Int),
                idx l v4.fst = some y6 ∧
                  ∃ (y7 : (List Int × PUnit) × PUnit),
                    s_conjugateM.fn (s, y6, ()) = some y7 ∧
                      ∃ (y8 : Int),
                        s_compare.fn (List.take y7.1.fst.length (List.drop (0 : Nat) y7.1.fst), List.take v4.2.fst.length (List.drop ((0 : Nat)) v4.2.fst), ()) = some y8 ∧
                          Br (decide (y8 < (0 : Int))) ((0 : Nat) = (0 : Nat) ∧ y7.1.fst.length = y7.1.fst.length ∧ k5 (IntKind.i64.wrap (v4.fst + (1 : Int)), y7.1.fst, ()))
                            ((0 : Nat) = (0 : Nat) ∧ v4.2.fst.length = v4.2.fst.length ∧ k5 (IntKind.i64.wrap (v4.fst + (1 : Int)), v4.2.fst, ())))
              (P ((List.take v4.2.fst.length (List.drop ((0 : Nat)) v4.2.fst), ()), ())))
          ((0 : Int), y3.1.fst, PUnit.unit)) = fnMW tabN (look [(76, s_cloneM), (129, s_conjugateM), (138, s_compare)]) s_canonM Try.f94 (l, s, ()) P := by kernel_rfl
theorem w_canonSpec (l : List (List Int)) (s : List Int) (P : List Int → Prop) : (∃ (y3 : List Int),
  s_copyInts.fn (s, ()) = some y3 ∧
    WLoop
      (fun (v4 : List Int × Int × PUnit) (k5 : List Int × Int × PUnit → Prop) =>
        Br (decide (v4.2.fst < (↑l.length : Int)))
          (∃ (y6 : List Int),
            idx l v4.2.fst = some y6 ∧
              ∃ (y7 : List Int),
                s_imageUnder.fn (y6, s, ()) = some y7 ∧
                  ∃ (y8 : Bool), s_precedes.fn (y7, v4.fst, ()) = some y8 ∧ Br y8 (k5 (y7, IntKind.i64.wrap (v4.2.fst + (1 : Int)), ())) (k5 (v4.fst, IntKind.i64.wrap (v4.2.fst + (1 : Int)), ())))
          (P v4.fst))
      (y3, (0 : Int), PUnit.unit)) = fnW tab (look [(70, s_copyInts), (123, s_imageUnder), (135, s_precedes)]) s_canonQ Try.f91 (l, s, ()) P := by kernel_rfl
theorem w_implSmall (p : Int × ByteArray × List (List Int) × Unit) (P : Bool → Prop) : (∃ (y2 : Bool), s_validP.fn ((p.fst, p.2.fst, p.snd.2.fst, ()), ()) = some y2 ∧ Br y2 (P (decide (p.fst ≤ (7 : Int)))) (P false)) = fnW tab (look [(60, s_validP)]) s_small Try.f86 (p, ()) P := by kernel_rfl
theorem w_specSmall (p : Int × ByteArray × List (List Int) × Unit) (P : Bool → Prop) : (∃ (y2 : Bool), s_validP.fn ((p.fst, p.2.fst, p.snd.2.fst, ()), ()) = some y2 ∧ Br y2 (P (decide (p.fst ≤ (7 : Int)))) (P false)) = fnW tab (look [(56, s_validP)]) s_small Try.f88 (p, ()) P := by kernel_rfl
theorem w_specSyms (p : Int × ByteArray × List (List Int) × Unit) (P : List (List Int) → Prop) : (∃ (y2 : Bool),
  s_validP.fn ((p.fst, p.2.fst, p.snd.2.fst, ()), ()) = some y2 ∧
    Br (!y2) (P (List.take (0 : Nat) (List.drop (0 : Nat) [])))
      (Br (decide (p.fst > (7 : Int))) (P (List.take (0 : Nat) (List.drop (0 : Nat) [])))
        ((0 : Nat) = (0 : Nat) ∧
          (0 : Nat) = ([] : List Int).length ∧
            ∃ (y3 : (List (List Int) × PUnit) × PUnit),
              s_ext.fn (p.fst, p.2.fst, p.snd.2.fst, List.take (0 : Nat) (List.drop (0 : Nat) []), [], ()) = some y3 ∧ P (List.take y3.1.fst.length (List.drop (0 : Nat) y3.1.fst))))) = fnW tab (look [(56, s_validP), (85, s_ext)]) s_specSyms Try.f33 (p, ()) P := by kernel_rfl
theorem w_implCanon (n : Int) (str : ByteArray) (g : List (List Int)) (s : List Int) (P : ((List Int × Unit) × Unit) → Prop) : (∃ (y5 : Bool),
  s_small.fn ((n, str, g, ()), ()) = some y5 ∧
    Br (!y5) (P ((List.take (0 : Nat) (List.drop (0 : Nat) []), ()), ()))
      (∃ (y6 : Bool),
        s_isStateP.fn ((n, str, g, ()), s, ()) = some y6 ∧
          Br (!y6) (P ((List.take (0 : Nat) (List.drop (0 : Nat) []), ()), ()))
            (∃ (y7 : (List (List Int) × PUnit) × PUnit),
              s_symListI.fn (n, str, g, ()) = some y7 ∧
                ∃ (y8 : (List Int × PUnit) × PUnit),
                  s_canonM.fn (List.take y7.1.fst.length (List.drop (0 : Nat) y7.1.fst), s, ()) = some y8 ∧ P ((List.take y8.1.fst.length (List.drop (0 : Nat) y8.1.fst), ()), ())))) = fnMW tabT (look [(86, s_small), (92, s_isStateP), (87, s_symListI), (94, ASpec.b s_canonQ s_canonM)]) s_implCanon Try.f41 (n, str, g, s, ()) P := by kernel_rfl
theorem w_specCanon (p : Int × ByteArray × List (List Int) × Unit) (s : List Int) (P : List Int → Prop) : (∃ (y3 : Bool),
  s_small.fn ((p.fst, p.2.fst, p.snd.2.fst, ()), ()) = some y3 ∧
    Br (!y3) (P (List.take (0 : Nat) (List.drop (0 : Nat) [])))
      (∃ (y4 : Bool),
        s_isState.fn ((p.fst, p.2.fst, p.snd.2.fst, ()), s, ()) = some y4 ∧
          Br (!y4) (P (List.take (0 : Nat) (List.drop (0 : Nat) [])))
            (∃ (y5 : List (List Int)), s_specSyms.fn ((p.fst, p.2.fst, p.snd.2.fst, ()), ()) = some y5 ∧ ∃ (y6 : List Int), s_canonQ.fn (y5, s, ()) = some y6 ∧ P y6))) = fnW tab (look [(88, s_small), (89, s_isState), (33, s_specSyms), (91, s_canonQ)]) s_specCanon Try.f40 (p, s, ()) P := by kernel_rfl
theorem w_lawCanon (p : Int × ByteArray × List (List Int) × Unit) (s : List Int) (P : Bool → Prop) : (Br (decide ((↑s.length : Int) > (1048576 : Int))) (P true)
  (∃ (y3 : Int),
    s_szP.fn ((p.fst, p.2.fst, p.snd.2.fst, ()), (1048576 : Int), ()) = some y3 ∧
      Br (decide (y3 < (0 : Int))) (P true)
        (∃ (y4 : (Int × ByteArray × List (List Int) × PUnit) × PUnit),
          s_toPuzzlem.fn (p.fst, p.2.fst, p.snd.2.fst, ()) = some y4 ∧
            ∃ (y5 : (List Int × PUnit) × PUnit),
              s_toLm.fn (s, ()) = some y5 ∧
                ∃ (y6 : List Int),
                  s_specCanon.fn ((y4.1.fst, y4.fst.2.fst, List.take y4.1.snd.2.fst.length (List.drop (0 : Nat) y4.1.snd.2.fst), ()), List.take y5.1.fst.length (List.drop (0 : Nat) y5.1.fst), ()) =
                      some y6 ∧
                    ∃ (y7 : (Int × ByteArray × List (List Int) × PUnit) × PUnit),
                      s_toPuzzlem.fn (p.fst, p.2.fst, p.snd.2.fst, ()) = some y7 ∧
                        ∃ (y8 : (List Int × PUnit) × PUnit),
                          s_toLm.fn (s, ()) = some y8 ∧
                            ∃ (y9 : (List Int × PUnit) × PUnit),
                              s_implCanon.fn
                                    (y7.1.fst, y7.fst.2.fst, List.take y7.1.snd.2.fst.length (List.drop (0 : Nat) y7.1.snd.2.fst), List.take y8.1.fst.length (List.drop (0 : Nat) y8.1.fst), ()) =
                                  some y9 ∧
                                ∃ (y10 : Bool),
                                  s_equalInts.fn (List.take y9.1.fst.length (List.drop (0 : Nat) y9.1.fst), y6, ()) = some y10 ∧
                                    Br (!y10) (P false)
                                      (∃ (y11 : Int × ByteArray × List (List Int) × PUnit),
                                        s_toP.fn ((p.fst, p.2.fst, p.snd.2.fst, ()), ()) = some y11 ∧
                                          ∃ (y12 : Bool),
                                            s_eqP.fn ((y7.1.fst, y7.fst.2.fst, List.take y7.1.snd.2.fst.length (List.drop (0 : Nat) y7.1.snd.2.fst), ()), y11, ()) = some y12 ∧
                                              Br (!y12) (P false)
                                                (∃ (y13 : (List Int × PUnit) × PUnit),
                                                  s_toLm.fn (s, ()) = some y13 ∧
                                                    ∃ (y14 : Bool),
                                                      s_equalInts.fn (List.take y8.1.fst.length (List.drop (0 : Nat) y8.1.fst), List.take y13.1.fst.length (List.drop (0 : Nat) y13.1.fst), ()) =
                                                          some y14 ∧
                                                        Br (!y14) (P false)
                                                          ((0 : Nat) = (0 : Nat) ∧
                                                            y7.1.snd.2.fst.length = y7.1.snd.2.fst.length ∧
                                                              ∃ (y15 : (Int × PUnit) × List (List Int) × PUnit),
                                                                s_markPuzzle.fn (y7.1.fst, y7.fst.2.fst, y7.1.snd.2.fst, (1 : Int), ()) = some y15 ∧
                                                                  (y15.2.fst.length = y7.1.snd.2.fst.length ∧ y7.1.snd.2.fst.length = y7.1.snd.2.fst.length) ∧
                                                                    (0 : Nat) = (0 : Nat) ∧
                                                                      y8.1.fst.length = y8.1.fst.length ∧
                                                                        ∃ (y16 : (Int × PUnit) × List Int × PUnit),
                                                                          s_markL.fn (y8.1.fst, y15.1.fst, ()) = some y16 ∧
                                                                            (y16.2.fst.length = y8.1.fst.length ∧ y8.1.fst.length = y8.1.fst.length) ∧
                                                                              Br (decide (y16.1.fst < (0 : Int))) (P false)
                                                                                (∃ (y17 : Bool),
                                                                                  s_equalInts.fn (List.take y9.1.fst.length (List.drop (0 : Nat) y9.1.fst), y6, ()) = some y17 ∧
                                                                                    Br (!y17) (P false)
                                                                                      ((0 : Nat) = (0 : Nat) ∧
                                                                                        y9.1.fst.length = y9.1.fst.length ∧
                                                                                          ∃ (y18 : (Int × PUnit) × List Int × PUnit),
                                                                                            s_markL.fn (y9.1.fst, (1 : Int), ()) = some y18 ∧
                                                                                              (y18.2.fst.length = y9.1.fst.length ∧ y9.1.fst.length = y9.1.fst.length) ∧
                                                                                                ∃ (y19 : Int),
                                                                                                  s_heldL.fn (List.take y9.1.fst.length (List.drop (0 : Nat) y18.2.fst), (1 : Int), ()) = some y19 ∧
                                                                                                    Br (decide (y19 < (0 : Int))) (P false)
                                                                                                      (Br (y19 != y18.1.fst) (P false)
                                                                                                        (∃ (y20 : (Int × ByteArray × List (List Int) × PUnit) × PUnit),
                                                                                                          s_toPuzzlem.fn (p.fst, p.2.fst, p.snd.2.fst, ()) = some y20 ∧
                                                                                                            ∃ (y21 : (List Int × PUnit) × PUnit),
                                                                                                              s_toLm.fn (s, ()) = some y21 ∧
                                                                                                                ∃ (y22 : (List Int × PUnit) × PUnit),
                                                                                                                  s_implCanon.fn
                                                                                                                        (y20.1.fst, y20.fst.2.fst,
                                                                                                                          List.take y20.1.snd.2.fst.length (List.drop (0 : Nat) y20.1.snd.2.fst),
                                                                                                                          List.take y21.1.fst.length (List.drop (0 : Nat) y21.1.fst), ()) =
                                                                                                                      some y22 ∧
                                                                                                                    ∃ (y23 : Bool),
                                                                                                                      s_equalInts.fn
                                                                                                                            (List.take y22.1.fst.length (List.drop (0 : Nat) y22.1.fst), y6, ()) =
                                                                                                                          some y23 ∧
                                                                                                                        Br (!y23) (P false)
                                                                                                                          (∃ (y24 : Int),
                                                                                                                            s_heldL.fn
                                                                                                                                  (List.take y9.1.fst.length (List.drop (0 : Nat) y18.2.fst), (1 : Int),
                                                                                                                                    ()) =
                                                                                                                                some y24 ∧
                                                                                                                              Br (decide (y24 < (0 : Int))) (P false)
                                                                                                                                (Br (y24 != y18.1.fst) (P false) (P true))))))))))))) = fnW tab (look [(14, s_szP), (40, s_specCanon), (41, s_implCanon), (16, ASpec.b s_toP s_toPuzzlem), (26, ASpec.b s_toL s_toLm), (18, s_equalInts), (19, s_eqP), (20, s_markPuzzle), (21, s_markL), (22, s_heldL)]) s_lawPLx Try.f8 (p, s, ()) P := by kernel_rfl
theorem Sound.ofO {P : Program} {f : FuncId} {e : Ty} {r res : Ty} {multi fresh : Bool} {pre : (Ty.pair (.oslice e) r).den → Prop} {val : (Ty.pair (.oslice e) r).den → res.den} {pre' : (Ty.pair (.slice e) r).den → Prop} {val' : (Ty.pair (.slice e) r).den → res.den}
    (h : Sound P f (Go.Proofs.Ytfghmbpogmcboaa.mkS (.pair (.oslice e) r) res multi fresh pre val))
    (hp : ∀ (o : Option (List e.den)) (y : r.den), pre' (o.getD [], y) → pre (o, y) ∧ val (o, y) = val' (o.getD [], y)) : Sound P f (Go.Proofs.Ytfghmbpogmcboaa.mkS (.pair (.slice e) r) res multi fresh pre' val') := by
  refine ⟨h.enter, fun w S vs x y hS h2 h5 => ?_⟩
  obtain ⟨xs, rest⟩ := x
  cases vs with
  | nil => exact h2.elim
  | cons u us =>
    obtain ⟨h7, h8⟩ := h2
    obtain ⟨ox, h9, rfl⟩ := h7.told
    have hpre : pre' (ox.getD [], rest) := Classical.byContradiction fun hn => by
      have : (Go.Proofs.Ytfghmbpogmcboaa.mkS (.pair (.slice e) r) res multi fresh pre' val').fn (ox.getD [], rest) = none := if_neg hn
      rw [this] at h5; cases h5
    obtain ⟨k1, k2⟩ := hp ox rest hpre
    have hv : (Go.Proofs.Ytfghmbpogmcboaa.mkS (.pair (.slice e) r) res multi fresh pre' val').fn (ox.getD [], rest) = some (val' (ox.getD [], rest)) := if_pos hpre
    rw [hv] at h5
    have h5 := Option.some.inj h5
    exact h.calls w S (u :: us) (ox, rest) y hS ⟨h9, h8⟩ ((if_pos k1).trans (by rw [k2]; exact congrArg some h5))
theorem p_cloneOQ (xs : Option (List Int)) (h : short (xs.getD [])) : fnW tab (look []) s_cloneOQ Try.f76 (xs, ()) (fun (z : List Int) => z = xs.getD []) := by
  unfold short at h
  refine Eq.mp (w_cloneOQ xs _) ⟨fun hn => ?_, fun _ => ⟨rfl, rfl, by show 0 + (xs.getD []).length ≤ 4294967296; omega, ?_⟩⟩
  · cases xs with
    | none => rfl
    | some y => cases hn
  · simp only [whole_row, List.nil_append]
theorem sound_cloneOQ : Sound Try.prog 76 s_cloneOQ :=
  Sound.mkS tabOK envNil mixed Try.func76 (by kernel_rfl) (by kernel_rfl) fun x h => p_cloneOQ x.1 h
theorem sound_cloneQ : Sound Try.prog 76 s_cloneQ := Sound.ofO sound_cloneOQ fun _ _ h => ⟨h, rfl⟩
theorem p_isNaN (x : Int) (_ : True) : fnW tab (look []) s_isNaN Try.f168 (x, ()) (fun (z : Bool) => z = false) := by
  refine Eq.mp (w_isNaN x _) ?_
  simp
theorem sound_isNaN : Sound Try.prog 168 s_isNaN :=
  Sound.mkS tabOK envNil mixed Try.func168 (by kernel_rfl) (by kernel_rfl) fun x h => p_isNaN x.1 h
theorem p_cmp (x y : Int) (_ : True) : fnW tab (look [(168, s_isNaN)]) s_cmp Try.f159 (x, y, ()) (fun (z : Int) => z = if x < y then -1 else if x > y then 1 else 0) := by
  refine Eq.mp (w_cmp x y _) ⟨_, if_pos trivial, _, if_pos trivial, ⟨fun h => (by cases h), fun _ => ⟨fun h => (by cases h), fun _ => Br.dec (fun h => ?_) fun h => Br.dec (fun h2 => ?_) fun h2 => ?_⟩⟩⟩
  · rw [if_pos h]
  · rw [if_neg h, if_pos h2]
  · rw [if_neg h, if_neg h2]
theorem sound_cmp : Sound Try.prog 159 s_cmp :=
  Sound.mkS tabOK (envCons sound_isNaN envNil) mixed Try.func159 (by kernel_rfl) (by kernel_rfl) fun x h => p_cmp x.1 x.2.1 h
theorem p_compare (a b : List Int) (h : short a ∧ short b) : fnW tab (look [(159, s_cmp)]) s_compare Try.f138 (a, b, ()) (fun (z : Int) => z = m_compare a b) := by
  obtain ⟨ha, hb⟩ := h
  unfold short at ha hb
  refine Eq.mp (w_compare a b _) ?_
  refine loop_range a.length (fun v => v.1) (fun j _ => j ≤ b.length ∧ m_compare (a.drop j) (b.drop j) = m_compare a b) rfl ⟨Nat.zero_le _, by simp⟩ ?_
  rintro j ⟨i, ⟨⟩⟩ K hj hi ⟨hR1, hR2⟩ hK
  dsimp only at hi ⊢
  subst hi
  refine Br.dec (fun hl => ?_) fun hl => ?_
  · have hl : j < a.length := by omega
    rw [List.drop_eq_getElem_cons hl] at hR2
    refine ⟨_, idx_nat hl, Br.dec (fun hge => ?_) fun hge => ?_⟩
    · have : j = b.length := by omega
      rw [List.drop_eq_nil_of_le (by omega : b.length ≤ j)] at hR2
      rw [← hR2]
      rfl
    · have hlb : j < b.length := by omega
      rw [List.drop_eq_getElem_cons hlb] at hR2
      refine ⟨_, idx_nat hlb, _, if_pos trivial, ?_⟩
      dsimp only
      simp only [m_compare] at hR2
      by_cases h1 : a[j] < b[j]
      · rw [if_pos h1] at hR2 ⊢
        exact ⟨fun _ => hR2, fun h => by cases h⟩
      · rw [if_neg h1] at hR2 ⊢
        by_cases h2 : a[j] > b[j]
        · rw [if_pos h2] at hR2 ⊢
          exact ⟨fun _ => hR2, fun h => by cases h⟩
        · rw [if_neg h2] at hR2 ⊢
          refine ⟨fun h => (by cases h), fun _ => ?_⟩
          rw [wrap_nat (by omega)]
          exact hK hl _ rfl ⟨hlb, hR2⟩
  · have : j = a.length := by omega
    subst this
    rw [List.drop_length] at hR2
    refine Br.dec (fun h => ?_) fun h => ?_
    · rw [← hR2, List.drop_eq_getElem_cons (by omega)]
      rfl
    · rw [← hR2, List.drop_eq_nil_of_le (by omega)]
      rfl
theorem sound_compare : Sound Try.prog 138 s_compare :=
  Sound.mkS tabOK (envCons sound_cmp envNil) mixed Try.func138 (by kernel_rfl) (by kernel_rfl) fun x h => p_compare x.1 x.2.1 h
theorem p_precedes (a b : List Int) (h : short a ∧ a.length = b.length) : fnW tab (look []) s_precedes Try.f135 (a, b, ()) (fun (z : Bool) => z = m_lt a b) := by
  obtain ⟨ha, hb⟩ := h
  unfold short at ha
  refine Eq.mp (w_precedes a b _) ?_
  refine loop_range a.length (fun v => v.1) (fun j _ => m_compare (a.drop j) (b.drop j) = m_compare a b) rfl (by simp) ?_
  rintro j ⟨i, ⟨⟩⟩ K hj hi hR2 hK
  dsimp only at hi ⊢
  subst hi
  refine Br.dec (fun hl => ?_) fun hl => ?_
  · have hl : j < a.length := by omega
    have hlb : j < b.length := by omega
    rw [List.drop_eq_getElem_cons hl, List.drop_eq_getElem_cons hlb] at hR2
    simp only [m_compare] at hR2
    refine ⟨_, idx_nat hl, _, idx_nat hlb, ⟨fun hne => ?_, fun hne => ?_⟩⟩
    · refine ⟨_, idx_nat hl, _, idx_nat hlb, ?_⟩
      have hne : a[j] ≠ b[j] := by simpa using hne
      unfold m_lt
      rw [← hR2]
      by_cases h1 : a[j] < b[j]
      · rw [if_pos h1]; simp [h1]
      · rw [if_neg h1, if_pos (by omega)]; simp [h1]
    · have hne : a[j] = b[j] := by simpa using hne
      rw [if_neg (by omega), if_neg (by omega)] at hR2
      rw [wrap_nat (by omega)]
      exact hK hl _ rfl hR2
  · have : j = a.length := by omega
    subst this
    rw [List.drop_length, List.drop_eq_nil_of_le (by omega)] at hR2
    unfold m_lt
    rw [← hR2]
    rfl
theorem sound_precedes : Sound Try.prog 135 s_precedes :=
  Sound.mkS tabOK envNil mixed Try.func135 (by kernel_rfl) (by kernel_rfl) fun x h => p_precedes x.1 x.2.1 h
theorem canon_row {list : List (List Int)} {s : List Int} (h : canonOK list s) {q : List Int} (hq : q ∈ list) : (m_conj s q).length = s.length ∧ inRow s.length (m_conj s q) := by
  obtain ⟨_, h2, h3, h4⟩ := h
  obtain ⟨e, hp⟩ := h4 q hq
  have hpk := permOK hp
  refine ⟨by simp only [m_conj, compose_len, inv_len]; exact e.symm, ?_⟩
  unfold m_conj
  refine compose_row (n := s.length) (compose_row (n := q.length) ?_ ?_) ?_
  · rw [e]; exact inv_row hpk
  · rw [← e]; exact h3
  · rw [e]; exact hpk.row
theorem p_canonQ (l : List (List Int)) (s : List Int) (h : canonOK l s) : fnW tab (look [(76, s_cloneQ), (129, s_conjugate), (138, s_compare)]) s_canonQ Try.f94 (l, s, ()) (fun (z : List Int) => z = m_canon l s) := by
  have hs : short s := by unfold short; have := h.2.1; omega
  have hll := h.1
  refine Eq.mp (w_canonQ l s _) ⟨_, if_pos hs, ?_⟩
  refine loop_range l.length (fun v => v.2.1) (fun j v => v.1.length = s.length ∧ m_canon (l.take j) s = v.1) rfl ⟨rfl, by simp [m_canon]⟩ ?_
  rintro j ⟨ys, i, ⟨⟩⟩ K hj hi ⟨h1, h2⟩ hK
  dsimp only at hi h1 h2 ⊢
  subst hi
  refine Br.dec (fun hl => ?_) fun hl => ?_
  · have hl : j < l.length := by omega
    have hq : l[j] ∈ l := List.getElem_mem hl
    obtain ⟨e, hp⟩ := h.2.2.2 _ hq
    obtain ⟨c1, c2⟩ := canon_row h hq
    have hstep : m_canon (l.take (j + 1)) s = if m_lt (m_conj s l[j]) ys = true then m_conj s l[j] else ys := by
      rw [← h2]
      unfold m_canon
      rw [List.take_add_one, List.getElem?_eq_getElem hl, List.foldl_append]
      rfl
    refine ⟨_, idx_nat hl, _, if_pos ⟨e, h.2.2.1, hp⟩, _, if_pos ⟨by show short (m_conj s l[j]); unfold short; have := h.2.1; omega, by show short ys; unfold short; have := h.2.1; omega⟩, Br.dec (fun hc => ?_) fun hc => ?_⟩
    · have hc : m_compare (m_conj s l[j]) ys < 0 := hc
      rw [wrap_nat (by omega)]
      refine hK hl _ rfl ⟨c1, ?_⟩
      rw [hstep, if_pos (show m_lt (m_conj s l[j]) ys = true from decide_eq_true hc)]
    · have hc : ¬ m_compare (m_conj s l[j]) ys < 0 := hc
      rw [wrap_nat (by omega)]
      refine hK hl _ rfl ⟨h1, ?_⟩
      rw [hstep, if_neg (by unfold m_lt; simpa using hc)]
  · have : j = l.length := by omega
    subst this
    rw [List.take_length] at h2
    exact h2.symm
theorem sound_canonQ : Sound Try.prog 94 s_canonQ :=
  Sound.mkS tabOK (envCons sound_cloneQ (envCons sound_conjugate (envCons sound_compare envNil))) mixed Try.func94 (by kernel_rfl) (by kernel_rfl) fun x h => p_canonQ x.1 x.2.1 h
theorem p_canonSpec (l : List (List Int)) (s : List Int) (h : canonOK l s) : fnW tab (look [(70, s_copyInts), (123, s_imageUnder), (135, s_precedes)]) s_canonQ Try.f91 (l, s, ()) (fun (z : List Int) => z = m_canon l s) := by
  have hs : short s := by unfold short; have := h.2.1; omega
  have hll := h.1
  refine Eq.mp (w_canonSpec l s _) ⟨_, if_pos hs, ?_⟩
  refine loop_range l.length (fun v => v.2.1) (fun j v => v.1.length = s.length ∧ m_canon (l.take j) s = v.1) rfl ⟨rfl, by simp [m_canon]⟩ ?_
  rintro j ⟨ys, i, ⟨⟩⟩ K hj hi ⟨h1, h2⟩ hK
  dsimp only at hi h1 h2 ⊢
  subst hi
  refine Br.dec (fun hl => ?_) fun hl => ?_
  · have hl : j < l.length := by omega
    have hq : l[j] ∈ l := List.getElem_mem hl
    obtain ⟨e, hp⟩ := h.2.2.2 _ hq
    obtain ⟨c1, c2⟩ := canon_row h hq
    have hstep : m_canon (l.take (j + 1)) s = if m_lt (m_conj s l[j]) ys = true then m_conj s l[j] else ys := by
      rw [← h2]
      unfold m_canon
      rw [List.take_add_one, List.getElem?_eq_getElem hl, List.foldl_append]
      rfl
    have hpk := permOK hp
    have him : m_imageUnder l[j] s = m_conj s l[j] := (conj_image hpk e).symm
    refine ⟨_, idx_nat hl, _, if_pos ⟨h.2.1, e.symm, hpk.row, by show inRow l[j].length s; rw [← e]; exact h.2.2.1⟩, ?_⟩
    dsimp only
    rw [him]
    refine ⟨_, if_pos ⟨by show short (m_conj s l[j]); unfold short; have := h.2.1; omega, by show (m_conj s l[j]).length = ys.length; omega⟩, ⟨fun hc => ?_, fun hc => ?_⟩⟩
    · have hc : m_lt (m_conj s l[j]) ys = true := hc
      rw [wrap_nat (by omega)]
      refine hK hl _ rfl ⟨c1, ?_⟩
      rw [hstep, if_pos hc]
    · have hc : m_lt (m_conj s l[j]) ys = false := hc
      rw [wrap_nat (by omega)]
      refine hK hl _ rfl ⟨h1, ?_⟩
      rw [hstep, if_neg (by rw [hc]; decide)]
  · have : j = l.length := by omega
    subst this
    rw [List.take_length] at h2
    exact h2.symm
theorem sound_canonSpec : Sound Try.prog 91 s_canonQ :=
  Sound.mkS tabOK (envCons sound_copyInts (envCons sound_imageUnder (envCons sound_precedes envNil))) mixed Try.func91 (by kernel_rfl) (by kernel_rfl) fun x h => p_canonSpec x.1 x.2.1 h
theorem p_implSmall (p : PP) (h : shortP p) : fnW tab (look [(60, s_validP)]) s_small Try.f86 (p, ()) (fun (z : Bool) => z = m_small p) := by
  refine Eq.mp (w_implSmall p _) ⟨_, if_pos h, ⟨fun hv => ?_, fun hv => ?_⟩⟩
  · have hv : m_validP p = true := hv
    unfold m_small; rw [hv]; rfl
  · have hv : m_validP p = false := hv
    unfold m_small; rw [hv]; rfl
theorem sound_implSmall : Sound Try.prog 86 s_small :=
  Sound.mkS tabOK (envCons sound_implValidP envNil) mixed Try.func86 (by kernel_rfl) (by kernel_rfl) fun x h => p_implSmall x.1 h
theorem p_specSmall (p : PP) (h : shortP p) : fnW tab (look [(56, s_validP)]) s_small Try.f88 (p, ()) (fun (z : Bool) => z = m_small p) := by
  refine Eq.mp (w_specSmall p _) ⟨_, if_pos h, ⟨fun hv => ?_, fun hv => ?_⟩⟩
  · have hv : m_validP p = true := hv
    unfold m_small; rw [hv]; rfl
  · have hv : m_validP p = false := hv
    unfold m_small; rw [hv]; rfl
theorem sound_specSmall : Sound Try.prog 88 s_small :=
  Sound.mkS tabOK (envCons sound_specValidP envNil) mixed Try.func88 (by kernel_rfl) (by kernel_rfl) fun x h => p_specSmall x.1 h
theorem small_iff {p : PP} : m_small p = true ↔ m_validP p = true ∧ p.1 ≤ 7 := by
  unfold m_small
  rw [Bool.and_eq_true, decide_eq_true_iff]
theorem syms_perm {p : PP} {q : List Int} (h : q ∈ m_syms p) : q.Perm (upto p.1.toNat) := lex_perm _ _ q (upto_len _) (List.mem_filter.1 h).1
theorem syms_len {p : PP} (h : p.1 ≤ 7) : (m_syms p).length ≤ 5040 := Nat.le_trans (List.length_filter_le _ _) (lexU_len (by omega))
theorem syms_canon {p : PP} {s : List Int} (h : m_small p = true) (hs : m_genOK p.1 s = true) : canonOK (m_syms p) s := by
  obtain ⟨hv, h7⟩ := small_iff.1 h
  have hn := (valid hv).n
  obtain ⟨e, hp⟩ := dec_iff.1 hs
  have hpk := permOK hp
  refine ⟨by have := syms_len h7; omega, hpk.len, hpk.row, fun q hq => ?_⟩
  have hg := perm_genOK hn.1 hn.2 (syms_perm hq)
  obtain ⟨e2, hp2⟩ := dec_iff.1 hg
  exact ⟨by omega, hp2⟩
theorem exts_nil (n : Nat) : extsOf n [] = lex n (upto n) := by
  unfold extsOf restOf
  have : ((upto n).filter fun v => !([] : List Int).contains v) = upto n := List.filter_eq_self.2 fun a _ => rfl
  rw [this]
  simp
theorem p_specSyms (p : PP) (h : shortP p) : fnW tab (look [(56, s_validP), (85, s_ext)]) s_specSyms Try.f33 (p, ()) (fun (z : List (List Int)) => z = m_symsS p) := by
  refine Eq.mp (w_specSyms p _) ⟨_, if_pos h, ⟨fun hn => ?_, fun hn => ?_⟩⟩
  · have hn := bnot_true hn
    unfold m_symsS
    rw [if_neg fun hh => hn (small_iff.1 hh).1]
    rfl
  · have hn := bnot_false hn
    refine Br.dec (fun h7 => ?_) fun h7 => ⟨rfl, rfl, _, if_pos (And.intro hn (And.intro (show p.1 ≤ 7 from Int.not_lt.1 h7) (And.intro List.nodup_nil (And.intro (fun y hy => by cases hy) (And.intro (Nat.zero_le _) ?_))))), ?_⟩
    · unfold m_symsS
      rw [if_neg fun hh => by
        have h8 : p.1 > 7 := h7
        have := (small_iff.1 hh).2
        omega]
      rfl
    · show 0 + (extsOf p.1.toNat []).length ≤ 6000
      rw [exts_nil]
      have h8 : ¬ p.1 > 7 := h7
      have := lexU_len (n := p.1.toNat) (by omega)
      omega
    · rw [whole_row]
      unfold m_symsS
      rw [if_pos (small_iff.2 ⟨hn, Int.not_lt.1 h7⟩)]
      show m_ext p [] [] = _
      unfold m_ext m_syms
      rw [exts_nil]
      rfl
theorem sound_specSyms : Sound Try.prog 33 s_specSyms :=
  Sound.mkS tabOK (envCons sound_specValidP (envConsM sound_ext envNil)) mixed Try.func33 (by kernel_rfl) (by kernel_rfl) fun x h => p_specSyms x.1 h
theorem p_specCanon (p : PP) (s : List Int) (h : shortP p ∧ short s) : fnW tab (look [(88, s_small), (89, s_isState), (33, s_specSyms), (91, s_canonQ)]) s_specCanon Try.f40 (p, s, ()) (fun (z : List Int) => z = m_canonS p s) := by
  refine Eq.mp (w_specCanon p s _) ⟨_, if_pos h.1, ⟨fun hn => ?_, fun hn => ⟨_, if_pos h, ⟨fun hm => ?_, fun hm => ?_⟩⟩⟩⟩
  · have hn := bnot_true hn
    unfold m_canonS
    rw [if_neg fun hh => hn hh.1]
    rfl
  · have hn := bnot_false hn
    have hm := bnot_true hm
    unfold m_canonS
    rw [if_neg fun hh => hm (by show (m_validP p && m_genOK p.1 s) = true; rw [(small_iff.1 hn).1, hh.2]; rfl)]
    rfl
  · have hn : m_small p = true := bnot_false hn
    have hm : (m_validP p && m_genOK p.1 s) = true := bnot_false hm
    have hm := (Bool.and_eq_true_iff.1 hm).2
    have he : m_symsS p = m_syms p := if_pos hn
    refine ⟨_, if_pos h.1, ?_⟩
    show ∃ y6 : List Int, s_canonQ.fn (m_symsS p, s, ()) = some y6 ∧ y6 = m_canonS p s
    rw [he]
    refine ⟨_, if_pos (syms_canon hn hm), ?_⟩
    unfold m_canonS
    rw [if_pos ⟨hn, hm⟩]
theorem sound_specCanon : Sound Try.prog 40 s_specCanon :=
  Sound.mkS tabOK (envCons sound_specSmall (envCons sound_specIsState (envCons sound_specSyms (envCons sound_canonSpec envNil)))) mixed Try.func40 (by kernel_rfl) (by kernel_rfl) fun x h => p_specCanon x.1 x.2.1 h
theorem canon_short {list : List (List Int)} {s : List Int} (h : canonOK list s) : (m_canon list s).length = s.length := by
  have : ∀ (l : List (List Int)) (x : List Int), (∀ q ∈ l, q ∈ list) → x.length = s.length → (l.foldl (fun least q => if m_lt (m_conj s q) least = true then m_conj s q else least) x).length = s.length := by
    intro l
    induction l with
    | nil => intro x _ hx; exact hx
    | cons q l ih =>
      intro x hm hx
      rw [List.foldl_cons]
      refine ih _ (fun q' hq' => hm q' (List.mem_cons_of_mem _ hq')) ?_
      split
      · exact (canon_row h (hm q (by simp))).1
      · exact hx
  exact this list s (fun _ h => h) rfl
theorem p_canonM (l : List (List Int)) (s : List Int) (h : canonOK l s) : fnMW tabN (look [(76, s_cloneM), (129, s_conjugateM), (138, s_compare)]) s_canonM Try.f94 (l, s, ()) (fun (z : (List Int × Unit) × Unit) => z = ((m_canon l s, ()), ())) := by
  have hs : short s := by unfold short; have := h.2.1; omega
  have hll := h.1
  refine Eq.mp (w_canonM l s _) ⟨_, if_pos hs, rfl, rfl, ?_⟩
  refine loop_range l.length (fun v => v.1) (fun j v => v.2.1.length = s.length ∧ m_canon (l.take j) s = v.2.1) rfl ⟨rfl, by simp [m_canon]⟩ ?_
  rintro j ⟨i, ys, ⟨⟩⟩ K hj hi ⟨h1, h2⟩ hK
  dsimp only at hi h1 h2 ⊢
  subst hi
  rw [whole_row ys]
  refine Br.dec (fun hl => ?_) fun hl => ?_
  · have hl : j < l.length := by omega
    have hq : l[j] ∈ l := List.getElem_mem hl
    obtain ⟨e, hp⟩ := h.2.2.2 _ hq
    obtain ⟨c1, c2⟩ := canon_row h hq
    have hstep : m_canon (l.take (j + 1)) s = if m_lt (m_conj s l[j]) ys = true then m_conj s l[j] else ys := by
      rw [← h2]
      unfold m_canon
      rw [List.take_add_one, List.getElem?_eq_getElem hl, List.foldl_append]
      rfl
    refine ⟨_, idx_nat hl, _, if_pos ⟨e, h.2.2.1, hp⟩, ?_⟩
    dsimp only
    rw [whole_row]
    refine ⟨_, if_pos ⟨by show short (m_conj s l[j]); unfold short; have := h.2.1; omega, by show short ys; unfold short; have := h.2.1; omega⟩, Br.dec (fun hc => ⟨rfl, rfl, ?_⟩) fun hc => ⟨rfl, rfl, ?_⟩⟩
    · have hc : m_compare (m_conj s l[j]) ys < 0 := hc
      rw [wrap_nat (by omega)]
      refine hK hl _ rfl ⟨c1, ?_⟩
      rw [hstep, if_pos (show m_lt (m_conj s l[j]) ys = true from decide_eq_true hc)]
    · have hc : ¬ m_compare (m_conj s l[j]) ys < 0 := hc
      rw [wrap_nat (by omega)]
      refine hK hl _ rfl ⟨h1, ?_⟩
      rw [hstep, if_neg (by unfold m_lt; simpa using hc)]
  · have : j = l.length := by omega
    subst this
    rw [List.take_length] at h2
    rw [h2]
theorem sound_canonM : MSound Try.prog 94 s_canonM :=
  MSound.mkM tabNOK (envConsM sound_cloneM (envConsM sound_conjugateM (envCons sound_compare envNil))) mixed Try.func94 (by kernel_rfl) (by kernel_rfl) fun x h => p_canonM x.1 x.2.1 h
theorem p_implCanon (n : Int) (str : ByteArray) (g : List (List Int)) (s : List Int) (h : shortP (n, str, g, ()) ∧ short s) : fnMW tabT (look [(86, s_small), (92, s_isStateP), (87, s_symListI), (94, ASpec.b s_canonQ s_canonM)]) s_implCanon Try.f41 (n, str, g, s, ()) (fun (z : (List Int × Unit) × Unit) => z = ((m_canonS (n, str, g, ()) s, ()), ())) := by
  refine Eq.mp (w_implCanon n str g s _) ⟨_, if_pos h.1, ⟨fun hn => ?_, fun hn => ⟨_, if_pos h.2, ⟨fun hm => ?_, fun hm => ?_⟩⟩⟩⟩
  · have hn := bnot_true hn
    unfold m_canonS
    rw [if_neg fun hh => hn hh.1]
    rfl
  · have hm := bnot_true hm
    unfold m_canonS
    rw [if_neg fun hh => hm hh.2]
    rfl
  · have hn : m_small (n, str, g, ()) = true := bnot_false hn
    have hm : m_genOK n s = true := bnot_false hm
    refine ⟨_, if_pos (small_iff.1 hn), ?_⟩
    dsimp only
    rw [whole_row]
    refine ⟨_, if_pos (syms_canon hn hm), ?_⟩
    dsimp only
    rw [whole_row]
    unfold m_canonS
    rw [if_pos ⟨hn, hm⟩]
theorem sound_implCanon : MSound Try.prog 41 s_implCanon :=
  MSound.mkM tabTOK (envCons sound_implSmall (envCons sound_implIsStateP (envConsM sound_symListI (envConsB sound_canonQ sound_canonM envNil)))) mixed Try.func41 (by kernel_rfl) (by kernel_rfl) fun x h => p_implCanon x.1 x.2.1 x.2.2.1 x.2.2.2.1 h
theorem canonS_short {p : PP} {s : List Int} (h : short s) : short (m_canonS p s) := by
  unfold m_canonS
  split
  · rename_i hh
    have := canon_short (syms_canon hh.1 hh.2)
    unfold short at *; omega
  · simp [short]
theorem p_lawCanon (p : PP) (s : List Int) (h : shortP p ∧ short s) : fnW tab (look [(14, s_szP), (40, s_specCanon), (41, s_implCanon), (16, ASpec.b s_toP s_toPuzzlem), (26, ASpec.b s_toL s_toLm), (18, s_equalInts), (19, s_eqP), (20, s_markPuzzle), (21, s_markL), (22, s_heldL)]) s_lawPLx Try.f8 (p, s, ()) (fun (z : Bool) => z = true) := by
  have h0 : shortP (p.1, p.2.1, p.2.2.1, ()) := h.1
  have h1 : short s := h.2
  refine Eq.mp (w_lawCanon p s _) ?_
  refine Br.dec (fun _ => rfl) fun hl_s => ?_
  refine ⟨_, if_pos ⟨h0, roomy_1m⟩, Br.dec (fun _ => rfl) fun hs_p => ?_⟩
  have hz_p : (((m_total p.2.2.1 : Nat) : Nat) : Int) ≤ (1048576) - (m_szP (p.1, p.2.1, p.2.2.1, ()) (1048576)) ∧ roomy (m_szP (p.1, p.2.1, p.2.2.1, ()) (1048576)) := szP_room roomy_1m hs_p
  have hy_p := hz_p.1
  have hr_p : 0 ≤ m_szP (p.1, p.2.1, p.2.2.1, ()) (1048576) ∧ m_szP (p.1, p.2.1, p.2.2.1, ()) (1048576) ≤ 4294967296 := hz_p.2
  have l0 : low (1 + (m_total p.2.2.1 : Nat)) := ⟨by omega, by omega⟩
  have l1 : low (1 + (m_total p.2.2.1 : Nat) + (s.length : Nat)) := ⟨by omega, by omega⟩
  refine ⟨_, if_pos h0, _, if_pos h1, ?_⟩
  simp only [whole_row]
  refine ⟨_, if_pos ⟨h0, h1⟩, _, if_pos h0, _, if_pos h1, ?_⟩
  try dsimp only
  have hg0 : short (m_canonS (p.1, p.2.1, p.2.2.1, ()) s) := canonS_short h1
  generalize he0 : m_canonS (p.1, p.2.1, p.2.2.1, ()) s = g0 at hg0
  refine ⟨_, if_pos ⟨h0, h1⟩, ?_⟩
  simp only [he0]
  refine ⟨_, if_pos hg0, ⟨fun he => absurd (m_equalInts_self _) (bnot_true he), fun _ => ?_⟩⟩
  refine ⟨_, if_pos h0, _, if_pos h0, ⟨fun he => absurd (m_eqP_self _) (bnot_true he), fun _ => ?_⟩⟩
  refine ⟨_, if_pos h1, ?_⟩
  try dsimp only
  refine ⟨_, if_pos h1, ⟨fun he => absurd (m_equalInts_self _) (bnot_true he), fun _ => ?_⟩⟩
  refine ⟨trivial, trivial, _, if_pos ⟨h0.2, low_one, l0⟩, ⟨m_marksLL_len _ _, trivial⟩, trivial, trivial, _, if_pos ⟨h1, l0⟩, ⟨m_marks_len _ _, trivial⟩, Br.dec (fun hn => absurd l1.1 (Int.not_le.2 hn)) fun _ => ?_⟩
  refine ⟨_, if_pos hg0, ⟨fun he => absurd (m_equalInts_self _) (bnot_true he), fun _ => ?_⟩⟩
  refine ⟨trivial, trivial, _, if_pos ⟨hg0, low_one⟩, ⟨m_marks_len _ _, trivial⟩, ?_⟩
  simp only [whole_marks]
  have hm0 : ∀ k, short (m_marks k g0.length) := fun k => by unfold short at *; rw [m_marks_len]; exact hg0
  refine ⟨_, if_pos ⟨hm0 _, low_one⟩, ?_⟩
  simp only [m_heldL_marks]
  refine Br.dec (fun hn => by omega) fun _ => ⟨fun he => by simp at he, fun _ => ?_⟩
  refine ⟨_, if_pos h0, _, if_pos h1, ?_⟩
  try dsimp only
  refine ⟨_, if_pos ⟨h0, h1⟩, ?_⟩
  simp only [he0]
  refine ⟨_, if_pos hg0, ⟨fun he => absurd (m_equalInts_self _) (bnot_true he), fun _ => ?_⟩⟩
  refine ⟨_, if_pos ⟨hm0 _, low_one⟩, ?_⟩
  simp only [m_heldL_marks]
  exact Br.dec (fun hn => by omega) fun _ => ⟨fun he => by simp at he, fun _ => trivial⟩
theorem sound_lawCanon : Sound Try.prog 8 s_lawPLx :=
  Sound.mkS tabOK (envCons sound_szP (envCons sound_specCanon (envConsM sound_implCanon (envConsB sound_toP sound_toPuzzlem (envConsB sound_toL sound_toLm (envCons sound_eqL (envCons sound_eqP (envConsM sound_markPuzzle (envConsM sound_markL (envCons sound_heldL envNil)))))))))) mixed Try.func8 (by kernel_rfl) (by kernel_rfl) fun x h => p_lawCanon x.1 x.2.1 h
end Go.Proofs.Ytfghmbpogmcboaa
