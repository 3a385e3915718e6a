/-
  Contracts: symmetries; the laws IsSymmetry, LetterImage.
-/
import Derived.Test.YtingphpncocimaaF6
namespace Go.Proofs.Ytingphpncocimaa
open Go.RowKit

def gets (xs : List Int) (i : Int) : Int := xs.getD i.toNat 0
def m_compose (p q : List Int) : List Int := p.map (gets q)
def foldSet (f : Nat → Nat) (g : Nat → Int) (m : Nat) (init : List Int) : List Int := (List.range m).foldl (fun (out : List Int) (i : Nat) => out.set (f i) (g i)) init
def m_inverse (p : List Int) : List Int := foldSet (fun i => (gets p (i : Int)).toNat) (fun i => (i : Int)) p.length (List.replicate p.length 0)
def m_imageUnder (q s : List Int) : List Int := foldSet (fun i => (gets q (i : Int)).toNat) (fun i => gets q (gets s (i : Int))) s.length (List.replicate s.length 0)
def m_conj (p q : List Int) : List Int := m_compose (m_compose (m_inverse q) p) q
def inRow (n : Nat) (p : List Int) : Prop := ∀ y ∈ p, 0 ≤ y ∧ y < n
noncomputable abbrev s_compose : Spec := mkS (.pair tL (.pair tL .unit)) tL false true (fun x => List.length x.1 ≤ 20 ∧ inRow (List.length x.2.1) x.1) (fun x => m_compose x.1 x.2.1)
noncomputable abbrev s_inverse : Spec := mkS (.pair tL .unit) tL false true (fun x => List.length x.1 ≤ 20 ∧ inRow (List.length x.1) x.1) (fun x => m_inverse x.1)
noncomputable abbrev s_imageUnder : Spec := mkS (.pair tL (.pair tL .unit)) tL false true (fun x => List.length x.2.1 ≤ 20 ∧ List.length x.1 = List.length x.2.1 ∧ inRow (List.length x.1) x.1 ∧ inRow (List.length x.1) x.2.1) (fun x => m_imageUnder x.1 x.2.1)
noncomputable abbrev s_conjugate : Spec := mkS (.pair tL (.pair tL .unit)) tL false true (fun x => List.length x.1 = List.length x.2.1 ∧ inRow (List.length x.1) x.1 ∧ m_isPerm x.2.1 = true) (fun x => m_conj x.1 x.2.1)
noncomputable abbrev s_identity : Spec := mkS (.pair tI .unit) tL false true (fun x => 0 ≤ x.1 ∧ x.1 ≤ 20) (fun x => upto x.1.toNat)
noncomputable abbrev s_specInverse : Spec := mkS (.pair tL .unit) tL false true (fun x => m_isPerm x.1 = true) (fun x => m_inverse x.1)
def m_letterOf (g : List (List Int)) (l : Int) : List Int := if l > 0 then g.getD (l - 1).toNat [] else m_inverse (g.getD (-l - 1).toNat [])
def isLetter (n : Int) (l : Int) : Prop := l ≠ 0 ∧ -n ≤ l ∧ l ≤ n
noncomputable abbrev s_letterOf : Spec := mkS (.pair tLL (.pair tI .unit)) tL false false (fun x => isLetter (List.length x.1) x.2.1 ∧ List.length x.1 ≤ 8 ∧ ∀ p ∈ x.1, m_isPerm p = true) (fun x => m_letterOf x.1 x.2.1)
def m_letters (n : Nat) : List Int := (List.range n).flatMap fun (k : Nat) => [(k : Int) + 1, -((k : Int) + 1)]
noncomputable abbrev s_letters : Spec := mkS (.pair tI .unit) tL false true (fun x => 0 ≤ x.1 ∧ x.1 ≤ 8) (fun x => m_letters x.1.toNat)
def m_firstL (g : List (List Int)) (x : List Int) : List Int → Int
  | [] => 0
  | l :: r => if m_letterOf g l = x then l else m_firstL g x r
def m_go (x : List Int) : List (List Int) → Int → Int
  | [], _ => 0
  | m :: r, k => if m = x then k else if m_inverse m = x then -k else m_go x r (k + 1)
def m_letterWith (g : List (List Int)) (x : List Int) : Int := m_go x g 1
noncomputable abbrev s_letterWith : Spec := mkS (.pair tPuzzle (.pair tL .unit)) tI false true (fun x => m_validP x.1 = true ∧ short x.2.1) (fun x => m_letterWith x.1.2.2.1 x.2.1)
def m_imageL (p : PP) (q : List Int) (l : Int) : Int := m_letterWith p.2.2.1 (m_conj (m_letterOf p.2.2.1 l) q)
noncomputable abbrev s_imageL : Spec := mkS (.pair tPuzzle (.pair tL (.pair tI .unit))) tI false true (fun x => m_validP x.1 = true ∧ m_genOK x.1.1 x.2.1 = true ∧ isLetter (List.length x.1.2.2.1) x.2.2.1) (fun x => m_imageL x.1 x.2.1 x.2.2.1)
noncomputable abbrev s_applyL : Spec := mkS (.pair tPuzzle (.pair tL (.pair tI .unit))) tL false true (fun x => m_validP x.1 = true ∧ List.length x.2.1 ≤ 20 ∧ (∀ y ∈ x.2.1, 0 ≤ y ∧ y < x.1.1) ∧ isLetter (List.length x.1.2.2.1) x.2.2.1) (fun x => m_compose x.2.1 (m_letterOf x.1.2.2.1 x.2.2.1))
noncomputable def m_isSym (p : PP) (q : List Int) : Bool := dec (∀ k : Nat, k < p.2.2.1.length → m_imageL p q ((k : Int) + 1) ≠ 0)
noncomputable abbrev s_isSymP : Spec := mkS (.pair tPuzzle (.pair tL .unit)) .bool false true (fun x => m_validP x.1 = true ∧ m_genOK x.1.1 x.2.1 = true) (fun x => m_isSym x.1 x.2.1)
noncomputable def m_sym (p : PP) (q : List Int) : Bool := m_validP p && m_genOK p.1 q && m_isSym p q
noncomputable abbrev s_isSym : Spec := mkS (.pair tPuzzle (.pair tL .unit)) .bool false true (fun x => shortP x.1 ∧ short x.2.1) (fun x => m_sym x.1 x.2.1)
noncomputable abbrev s_isLetter : Spec := mkS (.pair tPuzzle (.pair tI .unit)) .bool false true (fun x => List.length x.1.2.2.1 ≤ 4294967296) (fun x => dec (isLetter (List.length x.1.2.2.1) x.2.1))
noncomputable def m_letterImage (p : PP) (q : List Int) (l : Int) : Int := if (m_sym p q && dec (isLetter (List.length p.2.2.1) l)) = true then m_imageL p q l else 0
noncomputable abbrev s_letterImage : Spec := mkS (.pair tPuzzle (.pair tL (.pair tI .unit))) tI false true (fun x => shortP x.1 ∧ short x.2.1) (fun x => m_letterImage x.1 x.2.1 x.2.2.1)
noncomputable abbrev s_lawPLI : Spec := mkS (.pair tPuzzle (.pair tL (.pair tI .unit))) .bool false true (fun x => shortP x.1 ∧ short x.2.1) (fun _ => true)
theorem w_implCompose (p q : List Int) (P : List Int → Prop) : (((0 : Int) ≤ (↑p.length : Int) ∧ (↑p.length : Int) < (↑maxRow : Int) + (1 : Int)) ∧
  (↑p.length : Int) = (↑p.length : Int) ∧
    (0 : Nat) = (0 : Nat) ∧
      (List.replicate (↑p.length : Int).toNat (Int.ofNat (nat_lit 0))).length = (List.replicate (↑p.length : Int).toNat (Int.ofNat (nat_lit 0))).length ∧
        WLoop
          (fun (v3 : Int × List Int × PUnit) (k4 : Int × List Int × PUnit → Prop) =>
            Br (decide (v3.fst < (↑p.length : Int)))
              (∃ (y5 : Int),
                idx p v3.fst = some y5 ∧
                  ∃ (y6 : Int),
                    idx q y5 = some y6 ∧
                      ((0 : Int) ≤ v3.fst ∧ v3.fst < (↑v3.2.fst.length : Int)) ∧
                        (0 : Nat) + v3.fst.toNat < v3.2.fst.length ∧
                          (0 : Nat) = (0 : Nat) ∧
                            v3.2.fst.length = (v3.2.fst.set ((0 : Nat) + v3.fst.toNat) y6).length ∧ k4 (IntKind.i64.wrap (v3.fst + (1 : Int)), v3.2.fst.set ((0 : Nat) + v3.fst.toNat) y6, ()))
              (P (List.take v3.2.fst.length (List.drop (0 : Nat) v3.2.fst))))
          ((0 : Int), List.replicate (↑p.length : Int).toNat (Int.ofNat (nat_lit 0)), PUnit.unit)) = fnW tab (look []) s_compose Try.f117 (p, q, ()) P := by kernel_rfl
theorem w_implInverse (p : List Int) (P : List Int → Prop) : (((0 : Int) ≤ (↑p.length : Int) ∧ (↑p.length : Int) < (↑maxRow : Int) + (1 : Int)) ∧
  (↑p.length : Int) = (↑p.length : Int) ∧
    (0 : Nat) = (0 : Nat) ∧
      (List.replicate (↑p.length : Int).toNat (Int.ofNat (nat_lit 0))).length = (List.replicate (↑p.length : Int).toNat (Int.ofNat (nat_lit 0))).length ∧
        WLoop
          (fun (v2 : Int × List Int × PUnit) (k3 : Int × List Int × PUnit → Prop) =>
            Br (decide (v2.fst < (↑p.length : Int)))
              (∃ (y4 : Int),
                idx p v2.fst = some y4 ∧
                  ((0 : Int) ≤ y4 ∧ y4 < (↑v2.2.fst.length : Int)) ∧
                    (0 : Nat) + y4.toNat < v2.2.fst.length ∧
                      (0 : Nat) = (0 : Nat) ∧
                        v2.2.fst.length = (v2.2.fst.set ((0 : Nat) + y4.toNat) v2.fst).length ∧ k3 (IntKind.i64.wrap (v2.fst + (1 : Int)), v2.2.fst.set ((0 : Nat) + y4.toNat) v2.fst, ()))
              (P (List.take v2.2.fst.length (List.drop (0 : Nat) v2.2.fst))))
          ((0 : Int), List.replicate (↑p.length : Int).toNat (Int.ofNat (nat_lit 0)), PUnit.unit)) = fnW tab (look []) s_inverse Try.f118 (p, ()) P := by kernel_rfl
theorem w_specInv (p : List Int) (P : List Int → Prop) : (((0 : Int) ≤ (↑p.length : Int) ∧ (↑p.length : Int) < (↑maxRow : Int) + (1 : Int)) ∧
  (↑p.length : Int) = (↑p.length : Int) ∧
    (0 : Nat) = (0 : Nat) ∧
      (List.replicate (↑p.length : Int).toNat (Int.ofNat (nat_lit 0))).length = (List.replicate (↑p.length : Int).toNat (Int.ofNat (nat_lit 0))).length ∧
        WLoop
          (fun (v2 : Int × List Int × PUnit) (k3 : Int × List Int × PUnit → Prop) =>
            Br (decide (v2.fst < (↑p.length : Int)))
              (∃ (y4 : Int),
                idx p v2.fst = some y4 ∧
                  ((0 : Int) ≤ y4 ∧ y4 < (↑v2.2.fst.length : Int)) ∧
                    (0 : Nat) + y4.toNat < v2.2.fst.length ∧
                      (0 : Nat) = (0 : Nat) ∧
                        v2.2.fst.length = (v2.2.fst.set ((0 : Nat) + y4.toNat) v2.fst).length ∧ k3 (IntKind.i64.wrap (v2.fst + (1 : Int)), v2.2.fst.set ((0 : Nat) + y4.toNat) v2.fst, ()))
              (P (List.take v2.2.fst.length (List.drop (0 : Nat) v2.2.fst))))
          ((0 : Int), List.replicate (↑p.length : Int).toNat (Int.ofNat (nat_lit 0)), PUnit.unit)) = fnW tab (look []) s_inverse Try.f125 (p, ()) P := by kernel_rfl
theorem w_specInverse (p : List Int) (P : List Int → Prop) : (∃ (y2 : Bool), s_isPerm.fn (p, ()) = some y2 ∧ Br (!y2) (P (List.take (0 : Nat) (List.drop (0 : Nat) []))) (∃ (y3 : List Int), s_inverse.fn (p, ()) = some y3 ∧ P y3)) = fnW tab (look [(119, s_isPerm), (125, s_inverse)]) s_specInverse Try.f124 (p, ()) P := by kernel_rfl
theorem w_imageUnder (q s : List Int) (P : List Int → Prop) : (((0 : Int) ≤ (↑s.length : Int) ∧ (↑s.length : Int) < (↑maxRow : Int) + (1 : Int)) ∧
  (↑s.length : Int) = (↑s.length : Int) ∧
    (0 : Nat) = (0 : Nat) ∧
      (List.replicate (↑s.length : Int).toNat (Int.ofNat (nat_lit 0))).length = (List.replicate (↑s.length : Int).toNat (Int.ofNat (nat_lit 0))).length ∧
        WLoop
          (fun (v3 : Int × List Int × PUnit) (k4 : Int × List Int × PUnit → Prop) =>
            Br (decide (v3.fst < (↑s.length : Int)))
              (∃ (y5 : Int),
                idx q v3.fst = some y5 ∧
                  ∃ (y6 : Int),
                    idx s v3.fst = some y6 ∧
                      ∃ (y7 : Int),
                        idx q y6 = some y7 ∧
                          ((0 : Int) ≤ y5 ∧ y5 < (↑v3.2.fst.length : Int)) ∧
                            (0 : Nat) + y5.toNat < v3.2.fst.length ∧
                              (0 : Nat) = (0 : Nat) ∧
                                v3.2.fst.length = (v3.2.fst.set ((0 : Nat) + y5.toNat) y7).length ∧ k4 (IntKind.i64.wrap (v3.fst + (1 : Int)), v3.2.fst.set ((0 : Nat) + y5.toNat) y7, ()))
              (P (List.take v3.2.fst.length (List.drop (0 : Nat) v3.2.fst))))
          ((0 : Int), List.replicate (↑s.length : Int).toNat (Int.ofNat (nat_lit 0)), PUnit.unit)) = fnW tab (look []) s_imageUnder Try.f97 (q, s, ()) P := by kernel_rfl
theorem w_conjugate (p q : List Int) (P : List Int → Prop) : (∃ (y3 : List Int), s_inverse.fn (q, ()) = some y3 ∧ ∃ (y4 : List Int), s_compose.fn (y3, p, ()) = some y4 ∧ ∃ (y5 : List Int), s_compose.fn (y4, q, ()) = some y5 ∧ P y5) = fnW tab (look [(118, s_inverse), (117, s_compose)]) s_conjugate Try.f99 (p, q, ()) P := by kernel_rfl
theorem w_identity (n : Int) (P : List Int → Prop) : ((0 : Nat) = (0 : Nat) ∧
  (0 : Nat) = ([] : List Int).length ∧
    WLoop
      (fun (v2 : Int × List Int × PUnit) (k3 : Int × List Int × PUnit → Prop) =>
        Br (decide (v2.fst < n))
          ((0 : Nat) = (0 : Nat) ∧
            v2.2.fst.length = v2.2.fst.length ∧
              v2.2.fst.length + (List.take (1 : Nat) (List.drop (0 : Nat) [v2.fst])).length ≤ maxRow ∧
                (0 : Nat) = (0 : Nat) ∧
                  (v2.2.fst ++ List.take (1 : Nat) (List.drop (0 : Nat) [v2.fst])).length = (v2.2.fst ++ List.take (1 : Nat) (List.drop (0 : Nat) [v2.fst])).length ∧
                    k3 (IntKind.i64.wrap (v2.fst + (1 : Int)), v2.2.fst ++ List.take (1 : Nat) (List.drop (0 : Nat) [v2.fst]), ()))
          (P (List.take v2.2.fst.length (List.drop (0 : Nat) v2.2.fst))))
      ((0 : Int), [], PUnit.unit)) = fnW tab (look []) s_identity Try.f114 (n, ()) P := by kernel_rfl
theorem w_letterOf (g : List (List Int)) (l : Int) (P : List Int → Prop) : (Br (decide (l > (0 : Int))) (∃ (y3 : List Int), idx g (IntKind.i64.wrap (l - (1 : Int))) = some y3 ∧ P y3)
  (∃ (y3 : List Int), idx g (IntKind.i64.wrap (IntKind.i64.wrap ((0 : Int) - l) - (1 : Int))) = some y3 ∧ ∃ (y4 : List Int), s_inverse.fn (y3, ()) = some y4 ∧ P y4)) = fnW tab (look [(118, s_inverse)]) s_letterOf Try.f115 (g, l, ()) P := by kernel_rfl
theorem w_letters (n : Int) (P : List Int → Prop) : ((0 : Nat) = (0 : Nat) ∧
  (0 : Nat) = ([] : List Int).length ∧
    WLoop
      (fun (v2 : Int × List Int × PUnit) (k3 : Int × List Int × PUnit → Prop) =>
        Br (decide (v2.fst < n))
          ((0 : Nat) = (0 : Nat) ∧
            v2.2.fst.length = v2.2.fst.length ∧
              v2.2.fst.length + (List.take (2 : Nat) (List.drop (0 : Nat) [IntKind.i64.wrap (v2.fst + (1 : Int)), IntKind.i64.wrap ((0 : Int) - IntKind.i64.wrap (v2.fst + (1 : Int)))])).length ≤
                  maxRow ∧
                (0 : Nat) = (0 : Nat) ∧
                  (v2.2.fst ++ List.take (2 : Nat) (List.drop (0 : Nat) [IntKind.i64.wrap (v2.fst + (1 : Int)), IntKind.i64.wrap ((0 : Int) - IntKind.i64.wrap (v2.fst + (1 : Int)))])).length =
                      (v2.2.fst ++ List.take (2 : Nat) (List.drop (0 : Nat) [IntKind.i64.wrap (v2.fst + (1 : Int)), IntKind.i64.wrap ((0 : Int) - IntKind.i64.wrap (v2.fst + (1 : Int)))])).length ∧
                    k3
                      (IntKind.i64.wrap (v2.fst + (1 : Int)),
                        v2.2.fst ++ List.take (2 : Nat) (List.drop (0 : Nat) [IntKind.i64.wrap (v2.fst + (1 : Int)), IntKind.i64.wrap ((0 : Int) - IntKind.i64.wrap (v2.fst + (1 : Int)))]), ()))
          (P (List.take v2.2.fst.length (List.drop (0 : Nat) v2.2.fst))))
      ((0 : Int), [], PUnit.unit)) = fnW tab (look []) s_letters Try.f83 (n, ()) P := by kernel_rfl
theorem w_imageL (p : Int × ByteArray × List (List Int) × Unit) (q : List Int) (l : Int) (P : Int → Prop) : (∃ (y4 : List Int),
  s_letterOf.fn (p.snd.2.fst, l, ()) = some y4 ∧
    ∃ (y5 : List Int),
      s_conjugate.fn (y4, q, ()) = some y5 ∧
        ∃ (y6 : List Int),
          s_letters.fn ((↑p.snd.2.fst.length : Int), ()) = some y6 ∧
            WLoop
              (fun (v7 : Int × Int × ByteArray × List (List Int) × PUnit) (k8 : Int × Int × ByteArray × List (List Int) × PUnit → Prop) =>
                Br (decide (v7.fst < (↑y6.length : Int)))
                  (∃ (y9 : Int),
                    idx y6 v7.fst = some y9 ∧
                      ∃ (y10 : List Int),
                        s_letterOf.fn (v7.2.snd.2.fst, y9, ()) = some y10 ∧
                          ∃ (y11 : Bool), s_equalInts.fn (y10, y5, ()) = some y11 ∧ Br y11 (P y9) (k8 (IntKind.i64.wrap (v7.fst + (1 : Int)), v7.2.fst, v7.snd.2.fst, v7.2.snd.2.fst, ())))
                  (P (0 : Int)))
              ((0 : Int), p.fst, p.2.fst, p.snd.2.fst, PUnit.unit)) = fnW tab (look [(99, s_conjugate), (115, s_letterOf), (83, s_letters), (57, s_equalInts)]) s_imageL Try.f96 (p, q, l, ()) P := by kernel_rfl
theorem w_letterWith (p : Int × ByteArray × List (List Int) × Unit) (x : List Int) (P : Int → Prop) : (WLoop
  (fun (v3 : Int × Int × ByteArray × List (List Int) × PUnit) (k4 : Int × Int × ByteArray × List (List Int) × PUnit → Prop) =>
    Br (decide (v3.fst ≤ (↑v3.2.snd.2.fst.length : Int)))
      (∃ (y5 : List Int),
        idx v3.2.snd.2.fst (IntKind.i64.wrap (v3.fst - (1 : Int))) = some y5 ∧
          ∃ (y6 : Bool),
            s_equalInts.fn (y5, x, ()) = some y6 ∧
              Br y6 (P v3.fst)
                (∃ (y7 : List Int),
                  idx v3.2.snd.2.fst (IntKind.i64.wrap (v3.fst - (1 : Int))) = some y7 ∧
                    ∃ (y8 : List Int),
                      s_specInverse.fn (y7, ()) = some y8 ∧
                        ∃ (y9 : Bool),
                          s_equalInts.fn (y8, x, ()) = some y9 ∧
                            Br y9 (P (IntKind.i64.wrap ((0 : Int) - v3.fst))) (k4 (IntKind.i64.wrap (v3.fst + (1 : Int)), v3.2.fst, v3.snd.2.fst, v3.2.snd.2.fst, ()))))
      (P (0 : Int)))
  ((1 : Int), p.fst, p.2.fst, p.snd.2.fst, PUnit.unit)) = fnW tab (look [(56, s_equalInts), (124, s_specInverse)]) s_letterWith Try.f112 (p, x, ()) P := by kernel_rfl
theorem w_applyL (p : Int × ByteArray × List (List Int) × Unit) (s : List Int) (l : Int) (P : List Int → Prop) : (∃ (y4 : List Int),
  idx p.snd.2.fst
        (IntKind.i64.wrap
          ((if true = true then if IntKind.i64.wrap ((0 : Int) - l) > l then IntKind.i64.wrap ((0 : Int) - l) else l
            else if IntKind.i64.wrap ((0 : Int) - l) < l then IntKind.i64.wrap ((0 : Int) - l) else l) -
            (1 : Int))) =
      some y4 ∧
    Br (decide (l < (0 : Int)))
      (∃ (y5 : List Int),
        s_specInverse.fn (y4, ()) = some y5 ∧
          (0 : Nat) = (0 : Nat) ∧
            (0 : Nat) = ([] : List Int).length ∧
              WLoop
                (fun (v6 : Int × List Int × PUnit) (k7 : Int × List Int × PUnit → Prop) =>
                  Br (decide (v6.fst < (↑s.length : Int)))
                    (∃ (y8 : Int),
                      idx s v6.fst = some y8 ∧
                        ∃ (y9 : Int),
                          idx y5 y8 = some y9 ∧
                            (0 : Nat) = (0 : Nat) ∧
                              v6.2.fst.length = v6.2.fst.length ∧
                                v6.2.fst.length + (List.take (1 : Nat) (List.drop (0 : Nat) [y9])).length ≤ maxRow ∧
                                  (0 : Nat) = (0 : Nat) ∧
                                    (v6.2.fst ++ List.take (1 : Nat) (List.drop (0 : Nat) [y9])).length = (v6.2.fst ++ List.take (1 : Nat) (List.drop (0 : Nat) [y9])).length ∧
                                      k7 (IntKind.i64.wrap (v6.fst + (1 : Int)), v6.2.fst ++ List.take (1 : Nat) (List.drop (0 : Nat) [y9]), ()))
                    (P (List.take v6.2.fst.length (List.drop (0 : Nat) v6.2.fst))))
                ((0 : Int), [], PUnit.unit))
      ((0 : Nat) = (0 : Nat) ∧
        (0 : Nat) = ([] : List Int).length ∧
          WLoop
            (fun (v5 : Int × List Int × PUnit) (k6 : Int × List Int × PUnit → Prop) =>
              Br (decide (v5.fst < (↑s.length : Int)))
                (∃ (y7 : Int),
                  idx s v5.fst = some y7 ∧
                    ∃ (y8 : Int),
                      idx y4 y7 = some y8 ∧
                        (0 : Nat) = (0 : Nat) ∧
                          v5.2.fst.length = v5.2.fst.length ∧
                            v5.2.fst.length + (List.take (1 : Nat) (List.drop (0 : Nat) [y8])).length ≤ maxRow ∧
                              (0 : Nat) = (0 : Nat) ∧
                                (v5.2.fst ++ List.take (1 : Nat) (List.drop (0 : Nat) [y8])).length = (v5.2.fst ++ List.take (1 : Nat) (List.drop (0 : Nat) [y8])).length ∧
                                  k6 (IntKind.i64.wrap (v5.fst + (1 : Int)), v5.2.fst ++ List.take (1 : Nat) (List.drop (0 : Nat) [y8]), ()))
                (P (List.take v5.2.fst.length (List.drop (0 : Nat) v5.2.fst))))
            ((0 : Int), [], PUnit.unit))) = fnW tab (look [(124, s_specInverse)]) s_applyL Try.f113 (p, s, l, ()) P := by kernel_rfl
theorem w_mapL (p : Int × ByteArray × List (List Int) × Unit) (q : List Int) (l : Int) (P : Int → Prop) : (∃ (y4 : List Int),
  s_identity.fn (p.fst, ()) = some y4 ∧
    ∃ (y5 : List Int),
      s_applyL.fn ((p.fst, p.2.fst, p.snd.2.fst, ()), y4, l, ()) = some y5 ∧
        ∃ (y6 : List Int), s_imageUnder.fn (q, y5, ()) = some y6 ∧ ∃ (y7 : Int), s_letterWith.fn ((p.fst, p.2.fst, p.snd.2.fst, ()), y6, ()) = some y7 ∧ P y7) = fnW tab (look [(112, s_letterWith), (97, s_imageUnder), (113, s_applyL), (114, s_identity)]) s_imageL Try.f94 (p, q, l, ()) P := by kernel_rfl
theorem w_specIsSymP (p : Int × ByteArray × List (List Int) × Unit) (q : List Int) (P : Bool → Prop) : (WLoop
  (fun (v3 : Int × Int × ByteArray × List (List Int) × PUnit) (k4 : Int × Int × ByteArray × List (List Int) × PUnit → Prop) =>
    Br (decide (v3.fst < (↑v3.2.snd.2.fst.length : Int)))
      (∃ (y5 : List Int),
        idx v3.2.snd.2.fst v3.fst = some y5 ∧
          ∃ (y6 : List Int),
            s_imageUnder.fn (q, y5, ()) = some y6 ∧
              ∃ (y7 : Int),
                s_letterWith.fn ((v3.2.fst, v3.snd.2.fst, v3.2.snd.2.fst, ()), y6, ()) = some y7 ∧
                  Br (y7 == (0 : Int)) (P false) (k4 (IntKind.i64.wrap (v3.fst + (1 : Int)), v3.2.fst, v3.snd.2.fst, v3.2.snd.2.fst, ())))
      (P true))
  ((0 : Int), p.fst, p.2.fst, p.snd.2.fst, PUnit.unit)) = fnW tab (look [(112, s_letterWith), (97, s_imageUnder)]) s_isSymP Try.f86 (p, q, ()) P := by kernel_rfl
theorem w_implIsSymP (p : Int × ByteArray × List (List Int) × Unit) (q : List Int) (P : Bool → Prop) : (WLoop
  (fun (v3 : Int × Int × ByteArray × List (List Int) × PUnit) (k4 : Int × Int × ByteArray × List (List Int) × PUnit → Prop) =>
    Br (decide (v3.fst < (↑p.snd.2.fst.length : Int)))
      (∃ (y5 : Int),
        s_imageL.fn ((v3.2.fst, v3.snd.2.fst, v3.2.snd.2.fst, ()), q, IntKind.i64.wrap (v3.fst + (1 : Int)), ()) = some y5 ∧
          Br (y5 == (0 : Int)) (P false) (k4 (IntKind.i64.wrap (v3.fst + (1 : Int)), v3.2.fst, v3.snd.2.fst, v3.2.snd.2.fst, ())))
      (P true))
  ((0 : Int), p.fst, p.2.fst, p.snd.2.fst, PUnit.unit)) = fnW tab (look [(96, s_imageL)]) s_isSymP Try.f88 (p, q, ()) P := by kernel_rfl
theorem w_specIsSym (p : Int × ByteArray × List (List Int) × Unit) (q : List Int) (P : Bool → Prop) : (∃ (y3 : Bool),
  s_validP.fn ((p.fst, p.2.fst, p.snd.2.fst, ()), ()) = some y3 ∧
    Br y3 (∃ (y4 : Bool), s_isState.fn ((p.fst, p.2.fst, p.snd.2.fst, ()), q, ()) = some y4 ∧ Br y4 (∃ (y5 : Bool), s_isSymP.fn ((p.fst, p.2.fst, p.snd.2.fst, ()), q, ()) = some y5 ∧ P y5) (P false))
      (P false)) = fnW tab (look [(66, s_validP), (85, s_isState), (86, s_isSymP)]) s_isSym Try.f46 (p, q, ()) P := by kernel_rfl
theorem w_implIsSym (p : Int × ByteArray × List (List Int) × Unit) (q : List Int) (P : Bool → Prop) : (∃ (y3 : Bool), s_isState.fn ((p.fst, p.2.fst, p.snd.2.fst, ()), q, ()) = some y3 ∧ Br y3 (∃ (y4 : Bool), s_isSymP.fn ((p.fst, p.2.fst, p.snd.2.fst, ()), q, ()) = some y4 ∧ P y4) (P false)) = fnW tab (look [(87, s_isState), (88, s_isSymP)]) s_isSym Try.f47 (p, q, ()) P := by kernel_rfl
theorem w_isLetter (p : Int × ByteArray × List (List Int) × Unit) (l : Int) (P : Bool → Prop) : (Br (l != (0 : Int))
  (∃ (y3 : Int),
    s_lenLL.fn (p.snd.2.fst, ()) = some y3 ∧ ∃ (y4 : Int), s_lenLL.fn (p.snd.2.fst, ()) = some y4 ∧ ∃ (y5 : Bool), s_inRange.fn (l, IntKind.i64.wrap ((0 : Int) - y3), y4, ()) = some y5 ∧ P y5)
  (P false)) = fnW tab (look [(63, s_inRange), (64, s_lenLL)]) s_isLetter Try.f95 (p, l, ()) P := by kernel_rfl
theorem w_specLetterImage (p : Int × ByteArray × List (List Int) × Unit) (q : List Int) (l : Int) (P : Int → Prop) : (∃ (y4 : Bool),
  s_isSym.fn ((p.fst, p.2.fst, p.snd.2.fst, ()), q, ()) = some y4 ∧
    Br (!y4) (P (0 : Int))
      (∃ (y5 : Bool),
        s_inRange.fn (l, IntKind.i64.wrap ((0 : Int) - (↑p.snd.2.fst.length : Int)), (↑p.snd.2.fst.length : Int), ()) = some y5 ∧
          Br (!y5) (P (0 : Int)) (Br (l == (0 : Int)) (P (0 : Int)) (∃ (y6 : Int), s_imageL.fn ((p.fst, p.2.fst, p.snd.2.fst, ()), q, l, ()) = some y6 ∧ P y6)))) = fnW tab (look [(46, s_isSym), (60, s_inRange), (94, s_imageL)]) s_letterImage Try.f51 (p, q, l, ()) P := by kernel_rfl
theorem w_implLetterImage (p : Int × ByteArray × List (List Int) × Unit) (q : List Int) (l : Int) (P : Int → Prop) : (∃ (y4 : Bool),
  s_isSym.fn ((p.fst, p.2.fst, p.snd.2.fst, ()), q, ()) = some y4 ∧
    Br (!y4) (P (0 : Int))
      (∃ (y5 : Bool),
        s_isLetter.fn ((p.fst, p.2.fst, p.snd.2.fst, ()), l, ()) = some y5 ∧ Br (!y5) (P (0 : Int)) (∃ (y6 : Int), s_imageL.fn ((p.fst, p.2.fst, p.snd.2.fst, ()), q, l, ()) = some y6 ∧ P y6))) = fnW tab (look [(47, s_isSym), (95, s_isLetter), (96, s_imageL)]) s_letterImage Try.f52 (p, q, l, ()) P := by kernel_rfl
theorem w_lawIsSymmetry (p : Int × ByteArray × List (List Int) × Unit) (xs : List Int) (P : Bool → Prop) : (Br (decide ((↑xs.length : Int) > (1048576 : Int))) (P true)
  (∃ (y3 : Int),
    s_szP.fn ((p.fst, p.2.fst, p.snd.2.fst, ()), (1048576 : Int), ()) = some y3 ∧
      Br (decide (y3 < (0 : Int))) (P true)
        (∃ (y4 : Int × ByteArray × List (List Int) × PUnit),
          s_toP.fn ((p.fst, p.2.fst, p.snd.2.fst, ()), ()) = some y4 ∧
            ∃ (y5 : List Int),
              s_toL.fn (xs, ()) = some y5 ∧
                ∃ (y6 : Bool),
                  s_isSym.fn (y4, y5, ()) = some y6 ∧
                    ∃ (y7 : Int × ByteArray × List (List Int) × PUnit),
                      s_toP.fn ((p.fst, p.2.fst, p.snd.2.fst, ()), ()) = some y7 ∧
                        ∃ (y8 : List Int),
                          s_toL.fn (xs, ()) = some y8 ∧
                            ∃ (y9 : Bool),
                              s_isSym.fn ((y7.fst, y7.2.fst, y7.snd.2.fst, ()), y8, ()) = some y9 ∧
                                Br (!y9 == y6) (P false)
                                  (∃ (y10 : Int × ByteArray × List (List Int) × PUnit),
                                    s_toP.fn ((p.fst, p.2.fst, p.snd.2.fst, ()), ()) = some y10 ∧
                                      ∃ (y11 : Bool),
                                        s_eqP.fn ((y7.fst, y7.2.fst, y7.snd.2.fst, ()), y10, ()) = some y11 ∧
                                          Br (!y11) (P false)
                                            (∃ (y12 : List Int), s_toL.fn (xs, ()) = some y12 ∧ ∃ (y13 : Bool), s_equalInts.fn (y8, y12, ()) = some y13 ∧ Br (!y13) (P false) (P true)))))) = fnW tab (look [(22, s_szP), (46, s_isSym), (47, s_isSym), (24, s_toP), (27, s_eqP), (25, s_toL), (28, s_equalInts)]) s_lawPL Try.f11 (p, xs, ()) P := by kernel_rfl
theorem w_lawLetterImage (p : Int × ByteArray × List (List Int) × Unit) (xs : List Int) (l : Int) (P : Bool → Prop) : (Br (decide ((↑xs.length : Int) > (1048576 : Int))) (P true)
  (∃ (y4 : Int),
    s_szP.fn ((p.fst, p.2.fst, p.snd.2.fst, ()), (1048576 : Int), ()) = some y4 ∧
      Br (decide (y4 < (0 : Int))) (P true)
        (∃ (y5 : Int × ByteArray × List (List Int) × PUnit),
          s_toP.fn ((p.fst, p.2.fst, p.snd.2.fst, ()), ()) = some y5 ∧
            ∃ (y6 : List Int),
              s_toL.fn (xs, ()) = some y6 ∧
                ∃ (y7 : Int),
                  s_letterImage.fn (y5, y6, l, ()) = some y7 ∧
                    ∃ (y8 : Int × ByteArray × List (List Int) × PUnit),
                      s_toP.fn ((p.fst, p.2.fst, p.snd.2.fst, ()), ()) = some y8 ∧
                        ∃ (y9 : List Int),
                          s_toL.fn (xs, ()) = some y9 ∧
                            ∃ (y10 : Int),
                              s_letterImage.fn ((y8.fst, y8.2.fst, y8.snd.2.fst, ()), y9, l, ()) = some y10 ∧
                                Br (y10 != y7) (P false)
                                  (∃ (y11 : Int × ByteArray × List (List Int) × PUnit),
                                    s_toP.fn ((p.fst, p.2.fst, p.snd.2.fst, ()), ()) = some y11 ∧
                                      ∃ (y12 : Bool),
                                        s_eqP.fn ((y8.fst, y8.2.fst, y8.snd.2.fst, ()), y11, ()) = some y12 ∧
                                          Br (!y12) (P false)
                                            (∃ (y13 : List Int), s_toL.fn (xs, ()) = some y13 ∧ ∃ (y14 : Bool), s_equalInts.fn (y9, y13, ()) = some y14 ∧ Br (!y14) (P false) (P true)))))) = fnW tab (look [(22, s_szP), (51, s_letterImage), (52, s_letterImage), (24, s_toP), (27, s_eqP), (25, s_toL), (28, s_equalInts)]) s_lawPLI Try.f13 (p, xs, l, ()) P := by kernel_rfl
theorem gets_nat {xs : List Int} {i : Nat} (h : i < xs.length) : gets xs (i : Int) = xs[i] := by
  unfold gets
  rw [Int.toNat_natCast, List.getD_eq_getElem?_getD, List.getElem?_eq_getElem h]; rfl
theorem idx_gets {xs : List Int} {y : Int} (h0 : 0 ≤ y) (h : y < xs.length) : idx xs y = some (gets xs y) := by
  have hy : y.toNat < xs.length := by omega
  have e : y = (y.toNat : Int) := by omega
  rw [e, idx_nat hy, gets_nat hy]
theorem foldSet_succ (f : Nat → Nat) (g : Nat → Int) (m : Nat) (init : List Int) : foldSet f g (m + 1) init = (foldSet f g m init).set (f m) (g m) := by simp [foldSet, List.range_succ]
theorem foldSet_len (f : Nat → Nat) (g : Nat → Int) (m : Nat) (init : List Int) : (foldSet f g m init).length = init.length := by
  induction m with
  | zero => rfl
  | succ m ih => rw [foldSet_succ, List.length_set, ih]
theorem foldSet_get (f : Nat → Nat) (g : Nat → Int) (init : List Int) : ∀ (m : Nat), (∀ i j, i < m → j < m → f i = f j → i = j) → ∀ i, i < m → f i < init.length → (foldSet f g m init)[f i]? = some (g i)
  | 0, _, i, h, _ => absurd h (Nat.not_lt_zero _)
  | m + 1, hf, i, hi, hl => by
    rw [foldSet_succ]
    by_cases e : i = m
    · subst e
      exact List.getElem?_set_self (by rw [foldSet_len]; exact hl)
    · rw [List.getElem?_set_ne (fun h => e (hf i m hi (by omega) h.symm))]
      exact foldSet_get f g init m (fun a b ha hb => hf a b (by omega) (by omega)) i (by omega) hl
structure PermOK (p : List Int) : Prop where
  pos : 1 ≤ p.length
  len : p.length ≤ 20
  row : inRow p.length p
  nodup : p.Nodup
theorem permOK {p : List Int} (h : m_isPerm p = true) : PermOK p := by
  obtain ⟨h1, h2, h3⟩ := dec_iff.1 h
  refine ⟨h1, h2, fun y hy => ?_, nodup_of_takes fun j hj => (h3 j hj hj).2.2⟩
  obtain ⟨j, hj, rfl⟩ := List.mem_iff_getElem.1 hy
  have := h3 j hj hj
  omega
theorem PermOK.inj {p : List Int} (h : PermOK p) (i j : Nat) (hi : i < p.length) (hj : j < p.length) (e : (gets p (i : Int)).toNat = (gets p (j : Int)).toNat) : i = j := by
  rw [gets_nat hi, gets_nat hj] at e
  have h1 := h.row _ (List.getElem_mem hi)
  have h2 := h.row _ (List.getElem_mem hj)
  have e : p[i] = p[j] := by omega
  refine Classical.byContradiction fun hne => ?_
  rcases Nat.lt_or_gt_of_ne hne with hl | hl
  · exact List.pairwise_iff_getElem.1 h.nodup i j hi hj hl e
  · exact List.pairwise_iff_getElem.1 h.nodup j i hj hi hl e.symm
theorem PermOK.onto {p : List Int} (h : PermOK p) (k : Nat) (hk : k < p.length) : ∃ i, i < p.length ∧ (gets p (i : Int)).toNat = k := by
  have hm := (all_iff_nodup (xs := p) h.row).2 (takes_of_nodup h.nodup) k hk
  obtain ⟨i, hi, e⟩ := List.mem_iff_getElem.1 hm
  exact ⟨i, hi, by rw [gets_nat hi, e]; exact Int.toNat_natCast k⟩
theorem PermOK.lt {p : List Int} (h : PermOK p) {i : Nat} (hi : i < p.length) : (gets p (i : Int)).toNat < p.length := by
  rw [gets_nat hi]
  have := h.row _ (List.getElem_mem hi)
  omega
theorem inv_len (p : List Int) : (m_inverse p).length = p.length := by unfold m_inverse; rw [foldSet_len, List.length_replicate]
theorem inv_at {p : List Int} (h : PermOK p) {i : Nat} (hi : i < p.length) : (m_inverse p)[(gets p (i : Int)).toNat]? = some (i : Int) :=
  foldSet_get (fun i => (gets p (i : Int)).toNat) (fun i => (i : Int)) _ p.length (fun i j hi hj => h.inj i j hi hj) i hi (by rw [List.length_replicate]; exact h.lt hi)
theorem inv_row {p : List Int} (h : PermOK p) : inRow p.length (m_inverse p) := by
  intro y hy
  obtain ⟨k, hk, rfl⟩ := List.mem_iff_getElem.1 hy
  have hk' : k < p.length := by rw [inv_len] at hk; exact hk
  obtain ⟨i, hi, rfl⟩ := h.onto k hk'
  have := inv_at h hi
  rw [List.getElem?_eq_getElem hk] at this
  rw [Option.some.inj this]
  omega
theorem compose_len (p q : List Int) : (m_compose p q).length = p.length := by simp [m_compose]
theorem compose_row {p q : List Int} {n : Nat} (hp : inRow q.length p) (hq : inRow n q) : inRow n (m_compose p q) := by
  intro y hy
  obtain ⟨x, hx, rfl⟩ := List.mem_map.1 hy
  have h1 := hp x hx
  rw [show x = (x.toNat : Int) by omega, gets_nat (by omega)]
  exact hq _ (List.getElem_mem _)
theorem image_len (q s : List Int) : (m_imageUnder q s).length = s.length := by unfold m_imageUnder; rw [foldSet_len, List.length_replicate]
/-- The image under a permutation is the conjugate. -/
theorem conj_image {q s : List Int} (hq : PermOK q) (hl : s.length = q.length) : m_conj s q = m_imageUnder q s := by
  have hcl : (m_conj s q).length = q.length := by simp only [m_conj, compose_len, inv_len]
  refine List.ext_getElem (by rw [hcl, image_len, hl]) fun k h1 h2 => ?_
  have hk : k < q.length := by rw [hcl] at h1; exact h1
  obtain ⟨i, hi, e⟩ := hq.onto k hk
  have e1 := foldSet_get (fun i => (gets q (i : Int)).toNat) (fun i => gets q (gets s (i : Int))) (List.replicate s.length 0) s.length (fun i j hi hj => hq.inj i j (by omega) (by omega)) i (by omega) (by rw [List.length_replicate, hl]; exact hq.lt hi)
  have e2 := inv_at hq hi
  rw [e] at e2
  simp only [e] at e1
  have e1 : (m_imageUnder q s)[k]? = some (gets q (gets s (i : Int))) := e1
  rw [List.getElem?_eq_getElem h2] at e1
  rw [Option.some.inj e1]
  rw [List.getElem?_eq_getElem (by rw [inv_len]; exact hk)] at e2
  simp only [m_conj, m_compose, List.getElem_map]
  rw [Option.some.inj e2]
theorem p_implCompose (p q : List Int) (h : p.length ≤ 20 ∧ inRow q.length p) : fnW tab (look []) s_compose Try.f117 (p, q, ()) (fun (z : List Int) => z = m_compose p q) := by
  obtain ⟨h, hr⟩ := h
  refine Eq.mp (w_implCompose p q _) ?_
  refine ⟨⟨by omega, by show (p.length : Int) < (4294967296 : Int) + 1; omega⟩, rfl, rfl, rfl, ?_⟩
  have hcl := compose_len p q
  refine loop_range p.length (fun v => v.1) (fun j v => v.2.1.length = (m_compose p q).length ∧ v.2.1.take j = (m_compose p q).take j) rfl ⟨by rw [hcl]; simp, by simp⟩ ?_
  rintro j ⟨i, ys, ⟨⟩⟩ K hj hi ⟨h1, h2⟩ hK
  dsimp only at hi h1 h2 ⊢
  subst hi
  refine Br.dec (fun hl => ?_) fun hl => ?_
  · have hl : j < p.length := by omega
    have hy := hr _ (List.getElem_mem hl)
    refine ⟨_, idx_nat hl, _, idx_gets hy.1 hy.2, ⟨by omega, by omega⟩, by rw [Int.toNat_natCast]; omega, rfl, by rw [List.length_set], ?_⟩
    rw [wrap_nat (by omega), Int.toNat_natCast, Nat.zero_add]
    have hl' : j < (m_compose p q).length := by rw [hcl]; exact hl
    have e : gets q p[j] = (m_compose p q)[j] := by simp [m_compose]
    rw [e]
    exact hK hl _ rfl ⟨by rw [List.length_set]; exact h1, take_set_succ hl' h1 h2⟩
  · have : j = p.length := by omega
    subst this
    rw [← hcl, List.take_length, ← h1, List.take_length] at h2
    rw [List.drop_zero, List.take_length]
    exact h2
theorem sound_implCompose : Sound Try.prog 117 s_compose :=
  Sound.mkS tabOK envNil mixed Try.func117 (by kernel_rfl) (by kernel_rfl) fun x h => p_implCompose x.1 x.2.1 h
theorem p_implInverse (p : List Int) (h : p.length ≤ 20 ∧ inRow p.length p) : fnW tab (look []) s_inverse Try.f118 (p, ()) (fun (z : List Int) => z = m_inverse p) := by
  obtain ⟨h, hr⟩ := h
  refine Eq.mp (w_implInverse p _) ?_
  refine ⟨⟨by omega, by show (p.length : Int) < (4294967296 : Int) + 1; omega⟩, rfl, rfl, rfl, ?_⟩
  refine loop_range p.length (fun v => v.1) (fun j v => v.2.1 = foldSet (fun i => (gets p (i : Int)).toNat) (fun i => (i : Int)) j (List.replicate p.length 0)) rfl rfl ?_
  rintro j ⟨i, ys, ⟨⟩⟩ K hj hi h1 hK
  dsimp only at hi h1 ⊢
  subst hi
  have hlen : ys.length = p.length := by rw [h1, foldSet_len, List.length_replicate]
  refine Br.dec (fun hl => ?_) fun hl => ?_
  · have hl : j < p.length := by omega
    have hy := hr _ (List.getElem_mem hl)
    refine ⟨_, idx_nat hl, ⟨by omega, by omega⟩, by omega, rfl, by rw [List.length_set], ?_⟩
    rw [wrap_nat (by omega), Nat.zero_add]
    refine hK hl _ rfl ?_
    rw [foldSet_succ, ← h1, gets_nat hl]
  · have : j = p.length := by omega
    subst this
    rw [List.drop_zero, List.take_length]
    exact h1
theorem sound_implInverse : Sound Try.prog 118 s_inverse :=
  Sound.mkS tabOK envNil mixed Try.func118 (by kernel_rfl) (by kernel_rfl) fun x h => p_implInverse x.1 h
theorem p_specInv (p : List Int) (h : p.length ≤ 20 ∧ inRow p.length p) : fnW tab (look []) s_inverse Try.f125 (p, ()) (fun (z : List Int) => z = m_inverse p) := by
  obtain ⟨h, hr⟩ := h
  refine Eq.mp (w_specInv p _) ?_
  refine ⟨⟨by omega, by show (p.length : Int) < (4294967296 : Int) + 1; omega⟩, rfl, rfl, rfl, ?_⟩
  refine loop_range p.length (fun v => v.1) (fun j v => v.2.1 = foldSet (fun i => (gets p (i : Int)).toNat) (fun i => (i : Int)) j (List.replicate p.length 0)) rfl rfl ?_
  rintro j ⟨i, ys, ⟨⟩⟩ K hj hi h1 hK
  dsimp only at hi h1 ⊢
  subst hi
  have hlen : ys.length = p.length := by rw [h1, foldSet_len, List.length_replicate]
  refine Br.dec (fun hl => ?_) fun hl => ?_
  · have hl : j < p.length := by omega
    have hy := hr _ (List.getElem_mem hl)
    refine ⟨_, idx_nat hl, ⟨by omega, by omega⟩, by omega, rfl, by rw [List.length_set], ?_⟩
    rw [wrap_nat (by omega), Nat.zero_add]
    refine hK hl _ rfl ?_
    rw [foldSet_succ, ← h1, gets_nat hl]
  · have : j = p.length := by omega
    subst this
    rw [List.drop_zero, List.take_length]
    exact h1
theorem sound_specInv : Sound Try.prog 125 s_inverse :=
  Sound.mkS tabOK envNil mixed Try.func125 (by kernel_rfl) (by kernel_rfl) fun x h => p_specInv x.1 h
theorem p_specInverse (p : List Int) (h : m_isPerm p = true) : fnW tab (look [(119, s_isPerm), (125, s_inverse)]) s_specInverse Try.f124 (p, ()) (fun (z : List Int) => z = m_inverse p) := by
  have hp := permOK h
  have hs : short p := by have := hp.len; unfold short; omega
  refine Eq.mp (w_specInverse p _) ⟨_, if_pos hs, ⟨fun he => ?_, fun _ => ⟨_, if_pos ⟨hp.len, hp.row⟩, rfl⟩⟩⟩
  exact absurd h (bnot_true he)
theorem sound_specInverse : Sound Try.prog 124 s_specInverse :=
  Sound.mkS tabOK (envCons sound_specIsPerm (envCons sound_specInv envNil)) mixed Try.func124 (by kernel_rfl) (by kernel_rfl) fun x h => p_specInverse x.1 h
theorem p_imageUnder (q s : List Int) (h : s.length ≤ 20 ∧ q.length = s.length ∧ inRow q.length q ∧ inRow q.length s) : fnW tab (look []) s_imageUnder Try.f97 (q, s, ()) (fun (z : List Int) => z = m_imageUnder q s) := by
  obtain ⟨h, hq, hr, hr2⟩ := h
  refine Eq.mp (w_imageUnder q s _) ?_
  refine ⟨⟨by omega, by show (s.length : Int) < (4294967296 : Int) + 1; omega⟩, rfl, rfl, rfl, ?_⟩
  refine loop_range s.length (fun v => v.1) (fun j v => v.2.1 = foldSet (fun i => (gets q (i : Int)).toNat) (fun i => gets q (gets s (i : Int))) j (List.replicate s.length 0)) rfl rfl ?_
  rintro j ⟨i, ys, ⟨⟩⟩ K hj hi h1 hK
  dsimp only at hi h1 ⊢
  subst hi
  have hlen : ys.length = s.length := by rw [h1, foldSet_len, List.length_replicate]
  refine Br.dec (fun hl => ?_) fun hl => ?_
  · have hl : j < s.length := by omega
    have hlq : j < q.length := by omega
    have hy := hr _ (List.getElem_mem hlq)
    have hy2 := hr2 _ (List.getElem_mem hl)
    refine ⟨_, idx_nat hlq, _, idx_nat hl, _, idx_gets hy2.1 hy2.2, ⟨by omega, by omega⟩, by omega, rfl, by rw [List.length_set], ?_⟩
    rw [wrap_nat (by omega), Nat.zero_add]
    refine hK hl _ rfl ?_
    rw [foldSet_succ, ← h1, gets_nat hlq, gets_nat hl]
  · have : j = s.length := by omega
    subst this
    rw [List.drop_zero, List.take_length]
    exact h1
theorem sound_imageUnder : Sound Try.prog 97 s_imageUnder :=
  Sound.mkS tabOK envNil mixed Try.func97 (by kernel_rfl) (by kernel_rfl) fun x h => p_imageUnder x.1 x.2.1 h
theorem p_conjugate (p q : List Int) (h : p.length = q.length ∧ inRow p.length p ∧ m_isPerm q = true) : fnW tab (look [(118, s_inverse), (117, s_compose)]) s_conjugate Try.f99 (p, q, ()) (fun (z : List Int) => z = m_conj p q) := by
  obtain ⟨hl, hr, hq⟩ := h
  have hq := permOK hq
  have h20 := hq.len
  refine Eq.mp (w_conjugate p q _) ⟨_, if_pos ⟨hq.len, hq.row⟩, _, if_pos ⟨by show (m_inverse q).length ≤ 20; rw [inv_len]; exact h20, ?_⟩, _, if_pos ⟨?_, ?_⟩, rfl⟩
  · show inRow p.length (m_inverse q)
    rw [hl]; exact inv_row hq
  · show (m_compose (m_inverse q) p).length ≤ 20
    rw [compose_len, inv_len]; exact h20
  · show inRow q.length (m_compose (m_inverse q) p)
    exact compose_row (by rw [hl]; exact inv_row hq) (by rw [← hl]; exact hr)
theorem sound_conjugate : Sound Try.prog 99 s_conjugate :=
  Sound.mkS tabOK (envCons sound_implInverse (envCons sound_implCompose envNil)) mixed Try.func99 (by kernel_rfl) (by kernel_rfl) fun x h => p_conjugate x.1 x.2.1 h
theorem upto_succ (j : Nat) : upto (j + 1) = upto j ++ [(j : Int)] := by simp [upto, List.range_succ]
theorem p_identity (n : Int) (h : 0 ≤ n ∧ n ≤ 20) : fnW tab (look []) s_identity Try.f114 (n, ()) (fun (z : List Int) => z = upto n.toNat) := by
  refine Eq.mp (w_identity n _) ⟨rfl, rfl, ?_⟩
  refine loop_range n.toNat (fun v => v.1) (fun j v => v.2.1 = upto j) rfl rfl ?_
  rintro j ⟨i, ys, ⟨⟩⟩ K hj hi h1 hK
  dsimp only at hi h1 ⊢
  subst hi h1
  refine Br.dec (fun hl => ?_) fun hl => ?_
  · refine ⟨rfl, rfl, ?_, rfl, rfl, ?_⟩
    · show (upto j).length + 1 ≤ 4294967296
      rw [upto_len]; omega
    · rw [wrap_nat (by omega)]
      exact hK (by omega) _ rfl (upto_succ j).symm
  · have : j = n.toNat := by omega
    subst this
    rw [List.drop_zero, List.take_length]
theorem sound_identity : Sound Try.prog 114 s_identity :=
  Sound.mkS tabOK envNil mixed Try.func114 (by kernel_rfl) (by kernel_rfl) fun x h => p_identity x.1 h
theorem letter_pos {g : List (List Int)} {k : Nat} (h : k < g.length) : m_letterOf g ((k : Int) + 1) = g[k] := by
  unfold m_letterOf
  rw [if_pos (by omega), show ((k : Int) + 1 - 1).toNat = k by omega, List.getD_eq_getElem?_getD, List.getElem?_eq_getElem h]; rfl
theorem letter_neg {g : List (List Int)} {k : Nat} (h : k < g.length) : m_letterOf g (-((k : Int) + 1)) = m_inverse g[k] := by
  unfold m_letterOf
  rw [if_neg (by omega), show (-(-((k : Int) + 1)) - 1).toNat = k by omega, List.getD_eq_getElem?_getD, List.getElem?_eq_getElem h]; rfl
theorem letter_cases {n : Nat} {l : Int} (h : isLetter n l) : ∃ k : Nat, k < n ∧ (l = (k : Int) + 1 ∨ l = -((k : Int) + 1)) := by
  obtain ⟨h1, h2, h3⟩ := h
  by_cases h0 : 0 < l
  · exact ⟨(l - 1).toNat, by omega, .inl (by omega)⟩
  · exact ⟨(-l - 1).toNat, by omega, .inr (by omega)⟩
theorem p_letterOf (g : List (List Int)) (l : Int) (h : isLetter (List.length g) l ∧ List.length g ≤ 8 ∧ ∀ p ∈ g, m_isPerm p = true) : fnW tab (look [(118, s_inverse)]) s_letterOf Try.f115 (g, l, ()) (fun (z : List Int) => z = m_letterOf g l) := by
  obtain ⟨hl, h8, hp⟩ := h
  refine Eq.mp (w_letterOf g l _) ?_
  obtain ⟨k, hk, rfl | rfl⟩ := letter_cases hl
  · refine Br.dec (fun _ => ?_) fun hn => by omega
    rw [wrap_id (by omega) (by omega), show (k : Int) + 1 - 1 = (k : Int) by omega]
    exact ⟨_, idx_nat hk, (letter_pos hk).symm⟩
  · refine Br.dec (fun hn => by omega) fun _ => ?_
    rw [wrap_id (n := 0 - -((k : Int) + 1)) (by omega) (by omega), wrap_id (by omega) (by omega), show (0 : Int) - -((k : Int) + 1) - 1 = (k : Int) by omega]
    have := permOK (hp _ (List.getElem_mem hk))
    exact ⟨_, idx_nat hk, _, if_pos ⟨this.len, this.row⟩, (letter_neg hk).symm⟩
theorem sound_letterOf : Sound Try.prog 115 s_letterOf :=
  Sound.mkS tabOK (envCons sound_implInverse envNil) mixed Try.func115 (by kernel_rfl) (by kernel_rfl) fun x h => p_letterOf x.1 x.2.1 h
theorem m_letters_succ (j : Nat) : m_letters (j + 1) = m_letters j ++ [(j : Int) + 1, -((j : Int) + 1)] := by simp [m_letters, List.range_succ, List.flatMap_append]
theorem m_letters_len (j : Nat) : (m_letters j).length = 2 * j := by
  induction j with
  | zero => rfl
  | succ j ih => rw [m_letters_succ, List.length_append, ih]; simp only [List.length_cons, List.length_nil]; omega
theorem mem_letters {n : Nat} {l : Int} (h : l ∈ m_letters n) : isLetter n l := by
  unfold m_letters at h
  obtain ⟨k, hk, hl⟩ := List.mem_flatMap.1 h
  have hk := List.mem_range.1 hk
  simp only [List.mem_cons, List.not_mem_nil, or_false] at hl
  unfold isLetter
  omega
theorem p_letters (n : Int) (h : 0 ≤ n ∧ n ≤ 8) : fnW tab (look []) s_letters Try.f83 (n, ()) (fun (z : List Int) => z = m_letters n.toNat) := by
  refine Eq.mp (w_letters n _) ⟨rfl, rfl, ?_⟩
  refine loop_range n.toNat (fun v => v.1) (fun j v => v.2.1 = m_letters j) rfl rfl ?_
  rintro j ⟨i, ys, ⟨⟩⟩ K hj hi h1 hK
  dsimp only at hi h1 ⊢
  subst hi h1
  refine Br.dec (fun hl => ?_) fun hl => ?_
  · refine ⟨rfl, rfl, ?_, rfl, rfl, ?_⟩
    · show (m_letters j).length + 2 ≤ 4294967296
      rw [m_letters_len]; omega
    · have e1 : IntKind.i64.wrap ((j : Int) + 1) = (j : Int) + 1 := wrap_id (by omega) (by omega)
      have e2 : IntKind.i64.wrap ((0 : Int) - ((j : Int) + 1)) = -((j : Int) + 1) := by rw [wrap_id (by omega) (by omega)]; omega
      rw [e1, e2]
      exact hK (by omega) _ rfl (m_letters_succ j).symm
  · have : j = n.toNat := by omega
    subst this
    rw [List.drop_zero, List.take_length]
theorem sound_letters : Sound Try.prog 83 s_letters :=
  Sound.mkS tabOK envNil mixed Try.func83 (by kernel_rfl) (by kernel_rfl) fun x h => p_letters x.1 h
theorem first_go (g : List (List Int)) (x : List Int) : ∀ (c k : Nat), k + c = g.length → m_firstL g x ((List.range' k c).flatMap fun (k : Nat) => [(k : Int) + 1, -((k : Int) + 1)]) = m_go x (g.drop k) ((k : Int) + 1)
  | 0, k, h => by
    have : k = g.length := by omega
    subst this
    rw [List.drop_length]; rfl
  | c + 1, k, h => by
    have hk : k < g.length := by omega
    rw [List.range'_succ, List.flatMap_cons, List.drop_eq_getElem_cons hk]
    simp only [List.cons_append, List.nil_append, m_firstL, m_go]
    rw [letter_pos hk, letter_neg hk, first_go g x c (k + 1) (by omega)]
    rfl
theorem first_letters (g : List (List Int)) (x : List Int) : m_firstL g x (m_letters g.length) = m_letterWith g x := by
  unfold m_letters m_letterWith
  rw [List.range_eq_range', first_go g x g.length 0 (by omega)]
  rfl
structure Valid (p : PP) : Prop where
  n : 1 ≤ p.1 ∧ p.1 ≤ 20
  few : 1 ≤ p.2.2.1.length ∧ p.2.2.1.length ≤ 8
  perm : ∀ m ∈ p.2.2.1, m_isPerm m = true
  len : ∀ m ∈ p.2.2.1, (m.length : Int) = p.1
theorem valid {p : PP} (h : m_validP p = true) : Valid p := by
  have h0 := validP_len h
  obtain ⟨h1, _, _⟩ := dec_iff.1 h
  obtain ⟨_, _, h4⟩ := dec_iff.1 h1
  exact ⟨⟨h0.1, h0.2.1⟩, h0.2.2, fun m hm => (dec_iff.1 (h4 m hm)).2, fun m hm => (dec_iff.1 (h4 m hm)).1⟩
theorem letter_ok {p : PP} (h : Valid p) {l : Int} (hl : isLetter (List.length p.2.2.1) l) : ((m_letterOf p.2.2.1 l).length : Int) = p.1 ∧ inRow (m_letterOf p.2.2.1 l).length (m_letterOf p.2.2.1 l) := by
  obtain ⟨k, hk, rfl | rfl⟩ := letter_cases hl
  · rw [letter_pos hk]
    exact ⟨h.len _ (List.getElem_mem hk), (permOK (h.perm _ (List.getElem_mem hk))).row⟩
  · rw [letter_neg hk, inv_len]
    exact ⟨h.len _ (List.getElem_mem hk), inv_row (permOK (h.perm _ (List.getElem_mem hk)))⟩
theorem p_imageL (p : PP) (q : List Int) (l : Int) (h : m_validP p = true ∧ m_genOK p.1 q = true ∧ isLetter (List.length p.2.2.1) l) : fnW tab (look [(99, s_conjugate), (115, s_letterOf), (83, s_letters), (57, s_equalInts)]) s_imageL Try.f96 (p, q, l, ()) (fun (z : Int) => z = m_imageL p q l) := by
  obtain ⟨hv, hq, hl⟩ := h
  have hv := valid hv
  obtain ⟨hq1, hq2⟩ := dec_iff.1 hq
  obtain ⟨hl1, hl2⟩ := letter_ok hv hl
  have hf := hv.few
  have hn := hv.n
  refine Eq.mp (w_imageL p q l _) ⟨_, if_pos ⟨hl, hf.2, hv.perm⟩, _, if_pos ⟨by show (m_letterOf p.2.2.1 l).length = q.length; omega, hl2, hq2⟩, m_letters p.2.2.1.length, if_pos ⟨Int.natCast_nonneg _, by show ((p.2.2.1.length : Nat) : Int) ≤ 8; omega⟩, ?_⟩
  have hL := m_letters_len p.2.2.1.length
  have hF : m_firstL p.2.2.1 (m_conj (m_letterOf p.2.2.1 l) q) (m_letters p.2.2.1.length) = m_imageL p q l := first_letters _ _
  refine loop_range (m_letters p.2.2.1.length).length (fun v => v.1) (fun j v => v.2 = (p.1, p.2.1, p.2.2.1, ()) ∧ m_firstL p.2.2.1 (m_conj (m_letterOf p.2.2.1 l) q) ((m_letters p.2.2.1.length).drop j) = m_imageL p q l) rfl ⟨rfl, by rw [List.drop_zero]; exact hF⟩ ?_
  rintro j ⟨i, v⟩ K hj hi ⟨hv', hR⟩ hK
  dsimp only at hi hv' ⊢
  subst hi hv'
  dsimp only
  refine Br.dec (fun hlt => ?_) fun hlt => ?_
  · have hlt : j < (m_letters p.2.2.1.length).length := by omega
    have hlj := mem_letters (List.getElem_mem hlt)
    have hs := letter_ok hv hlj
    rw [List.drop_eq_getElem_cons hlt] at hR
    simp only [m_firstL] at hR
    refine ⟨_, idx_nat hlt, _, if_pos ⟨hlj, hf.2, hv.perm⟩, _, if_pos (by show short (m_letterOf p.2.2.1 (m_letters p.2.2.1.length)[j]); unfold short; have := hs.1; omega), ⟨fun he => ?_, fun he => ?_⟩⟩
    · have he : decide (m_letterOf p.2.2.1 (m_letters p.2.2.1.length)[j] = m_conj (m_letterOf p.2.2.1 l) q) = true := he
      rw [if_pos (of_decide_eq_true he)] at hR
      exact hR
    · have he : decide (m_letterOf p.2.2.1 (m_letters p.2.2.1.length)[j] = m_conj (m_letterOf p.2.2.1 l) q) = false := he
      rw [if_neg (of_decide_eq_false he)] at hR
      rw [wrap_nat (by omega)]
      exact hK hlt _ rfl ⟨rfl, hR⟩
  · have : j = (m_letters p.2.2.1.length).length := by omega
    subst this
    rw [List.drop_length] at hR
    exact hR
theorem sound_imageL : Sound Try.prog 96 s_imageL :=
  Sound.mkS tabOK (envCons sound_conjugate (envCons sound_letterOf (envCons sound_letters (envCons sound_slicesEqual envNil)))) mixed Try.func96 (by kernel_rfl) (by kernel_rfl) fun x h => p_imageL x.1 x.2.1 x.2.2.1 h
theorem p_letterWith (p : PP) (x : List Int) (h : m_validP p = true ∧ short x) : fnW tab (look [(56, s_equalInts), (124, s_specInverse)]) s_letterWith Try.f112 (p, x, ()) (fun (z : Int) => z = m_letterWith p.2.2.1 x) := by
  obtain ⟨hv, hx⟩ := h
  have hv := valid hv
  have hf := hv.few
  have hn := hv.n
  refine Eq.mp (w_letterWith p x _) ?_
  refine loop_range p.2.2.1.length (fun v => v.1 - 1) (fun j v => v.2 = (p.1, p.2.1, p.2.2.1, ()) ∧ m_go x (p.2.2.1.drop j) ((j : Int) + 1) = m_letterWith p.2.2.1 x) rfl ⟨rfl, rfl⟩ ?_
  rintro j ⟨i, v⟩ K hj hi ⟨hv', hR⟩ hK
  dsimp only at hi hv' ⊢
  subst hv'
  obtain rfl : i = (j : Int) + 1 := by omega
  dsimp only
  refine Br.dec (fun hl => ?_) fun hl => ?_
  · have hl : j < p.2.2.1.length := by omega
    have hm := hv.perm _ (List.getElem_mem hl)
    have hlen := hv.len _ (List.getElem_mem hl)
    rw [List.drop_eq_getElem_cons hl] at hR
    simp only [m_go] at hR
    rw [wrap_id (n := (j : Int) + 1 - 1) (by omega) (by omega), show (j : Int) + 1 - 1 = (j : Int) by omega]
    refine ⟨_, idx_nat hl, _, if_pos (by show short p.2.2.1[j]; unfold short; omega), ⟨fun he => ?_, fun he => ⟨_, idx_nat hl, _, if_pos hm, _, if_pos (by show short (m_inverse p.2.2.1[j]); unfold short; rw [inv_len]; omega), ⟨fun he2 => ?_, fun he2 => ?_⟩⟩⟩⟩
    · have he : decide (p.2.2.1[j] = x) = true := he
      rw [if_pos (of_decide_eq_true he)] at hR
      exact hR
    · have he : decide (p.2.2.1[j] = x) = false := he
      have he2 : decide (m_inverse p.2.2.1[j] = x) = true := he2
      rw [if_neg (of_decide_eq_false he), if_pos (of_decide_eq_true he2)] at hR
      rw [wrap_id (by omega) (by omega), ← hR]
      omega
    · have he : decide (p.2.2.1[j] = x) = false := he
      have he2 : decide (m_inverse p.2.2.1[j] = x) = false := he2
      rw [if_neg (of_decide_eq_false he), if_neg (of_decide_eq_false he2)] at hR
      rw [wrap_id (by omega) (by omega)]
      exact hK hl _ (by dsimp only; omega) ⟨rfl, by push_cast; exact hR⟩
  · have : j = p.2.2.1.length := by omega
    subst this
    rw [List.drop_length] at hR
    exact hR
theorem sound_letterWith : Sound Try.prog 112 s_letterWith :=
  Sound.mkS tabOK (envCons sound_equalInts (envCons sound_specInverse envNil)) mixed Try.func112 (by kernel_rfl) (by kernel_rfl) fun x h => p_letterWith x.1 x.2.1 h
theorem p_implIsSymP (p : PP) (q : List Int) (h : m_validP p = true ∧ m_genOK p.1 q = true) : fnW tab (look [(96, s_imageL)]) s_isSymP Try.f88 (p, q, ()) (fun (z : Bool) => z = m_isSym p q) := by
  have hv := valid h.1
  have hf := hv.few
  refine Eq.mp (w_implIsSymP p q _) ?_
  refine loop_range p.2.2.1.length (fun v => v.1) (fun j v => v.2 = (p.1, p.2.1, p.2.2.1, ()) ∧ ∀ k : Nat, k < j → m_imageL p q ((k : Int) + 1) ≠ 0) rfl ⟨rfl, fun k hk => absurd hk (Nat.not_lt_zero _)⟩ ?_
  rintro j ⟨i, v⟩ K hj hi ⟨hv', hR⟩ hK
  dsimp only at hi hv' ⊢
  subst hi hv'
  dsimp only
  refine Br.dec (fun hl => ?_) fun hl => ?_
  · have hl : j < p.2.2.1.length := by omega
    have e1 : IntKind.i64.wrap ((j : Int) + 1) = (j : Int) + 1 := wrap_id (by omega) (by omega)
    rw [e1]
    refine ⟨_, if_pos ⟨h.1, h.2, by dsimp only; omega, by dsimp only; omega, by dsimp only; omega⟩, ⟨fun he => ?_, fun he => ?_⟩⟩
    · have he : (m_imageL p q ((j : Int) + 1) == 0) = true := he
      exact dec_false fun hh => hh j hl (beq_iff_eq.1 he)
    · have he : (m_imageL p q ((j : Int) + 1) == 0) = false := he
      refine hK hl _ rfl ⟨rfl, fun k hk => ?_⟩
      by_cases e : k = j
      · subst e; exact beq_eq_false_iff_ne.1 he
      · exact hR k (by omega)
  · have : j = p.2.2.1.length := by omega
    subst this
    exact dec_true hR
theorem sound_implIsSymP : Sound Try.prog 88 s_isSymP :=
  Sound.mkS tabOK (envCons sound_imageL envNil) mixed Try.func88 (by kernel_rfl) (by kernel_rfl) fun x h => p_implIsSymP x.1 x.2.1 h
theorem p_specIsSymP (p : PP) (q : List Int) (h : m_validP p = true ∧ m_genOK p.1 q = true) : fnW tab (look [(112, s_letterWith), (97, s_imageUnder)]) s_isSymP Try.f86 (p, q, ()) (fun (z : Bool) => z = m_isSym p q) := by
  have hv := valid h.1
  have hf := hv.few
  have hn := hv.n
  obtain ⟨hq1, hq2⟩ := dec_iff.1 h.2
  have hq := permOK hq2
  refine Eq.mp (w_specIsSymP p q _) ?_
  refine loop_range p.2.2.1.length (fun v => v.1) (fun j v => v.2 = (p.1, p.2.1, p.2.2.1, ()) ∧ ∀ k : Nat, k < j → m_imageL p q ((k : Int) + 1) ≠ 0) rfl ⟨rfl, fun k hk => absurd hk (Nat.not_lt_zero _)⟩ ?_
  rintro j ⟨i, v⟩ K hj hi ⟨hv', hR⟩ hK
  dsimp only at hi hv' ⊢
  subst hi hv'
  dsimp only
  refine Br.dec (fun hl => ?_) fun hl => ?_
  · have hl : j < p.2.2.1.length := by omega
    have hm := permOK (hv.perm _ (List.getElem_mem hl))
    have hlen := hv.len _ (List.getElem_mem hl)
    have e : p.2.2.1[j].length = q.length := by omega
    have hI : m_letterWith p.2.2.1 (m_imageUnder q p.2.2.1[j]) = m_imageL p q ((j : Int) + 1) := by
      unfold m_imageL
      rw [letter_pos hl, conj_image hq e]
    refine ⟨_, idx_nat hl, _, if_pos ⟨hm.len, e.symm, hq.row, by rw [← e]; exact hm.row⟩, _, if_pos ⟨h.1, by show short (m_imageUnder q p.2.2.1[j]); unfold short; rw [image_len]; omega⟩, ⟨fun he => ?_, fun he => ?_⟩⟩
    · have he : (m_letterWith p.2.2.1 (m_imageUnder q p.2.2.1[j]) == 0) = true := he
      rw [hI] at he
      exact dec_false fun hh => hh j hl (beq_iff_eq.1 he)
    · have he : (m_letterWith p.2.2.1 (m_imageUnder q p.2.2.1[j]) == 0) = false := he
      rw [hI] at he
      rw [wrap_nat (by omega)]
      refine hK hl _ rfl ⟨rfl, fun k hk => ?_⟩
      by_cases e : k = j
      · subst e; exact beq_eq_false_iff_ne.1 he
      · exact hR k (by omega)
  · have : j = p.2.2.1.length := by omega
    subst this
    exact dec_true hR
theorem sound_specIsSymP : Sound Try.prog 86 s_isSymP :=
  Sound.mkS tabOK (envCons sound_letterWith (envCons sound_imageUnder envNil)) mixed Try.func86 (by kernel_rfl) (by kernel_rfl) fun x h => p_specIsSymP x.1 x.2.1 h
theorem p_specIsSym (p : PP) (q : List Int) (h : shortP p ∧ short q) : fnW tab (look [(66, s_validP), (85, s_isState), (86, s_isSymP)]) s_isSym Try.f46 (p, q, ()) (fun (z : Bool) => z = m_sym p q) := by
  refine Eq.mp (w_specIsSym p q _) ⟨_, if_pos h.1, ⟨fun h1 => ⟨_, if_pos h, ⟨fun h2 => ?_, fun h2 => ?_⟩⟩, fun h1 => ?_⟩⟩
  · have h1 : m_validP p = true := h1
    have h2 : (m_validP p && m_genOK p.1 q) = true := h2
    have h3 : m_genOK p.1 q = true := by rw [h1, Bool.true_and] at h2; exact h2
    refine ⟨_, if_pos ⟨h1, h3⟩, ?_⟩
    show m_isSym p q = m_sym p q
    unfold m_sym
    rw [h2, Bool.true_and]
  · have h2 : (m_validP p && m_genOK p.1 q) = false := h2
    unfold m_sym
    rw [h2, Bool.false_and]
  · have h1 : m_validP p = false := h1
    unfold m_sym
    rw [h1, Bool.false_and, Bool.false_and]
theorem sound_specIsSym : Sound Try.prog 46 s_isSym :=
  Sound.mkS tabOK (envCons sound_specValidP (envCons sound_specIsState (envCons sound_specIsSymP envNil))) mixed Try.func46 (by kernel_rfl) (by kernel_rfl) fun x h => p_specIsSym x.1 x.2.1 h
theorem p_implIsSym (p : PP) (q : List Int) (h : shortP p ∧ short q) : fnW tab (look [(87, s_isState), (88, s_isSymP)]) s_isSym Try.f47 (p, q, ()) (fun (z : Bool) => z = m_sym p q) := by
  refine Eq.mp (w_implIsSym p q _) ⟨_, if_pos h, ⟨fun h2 => ?_, fun h2 => ?_⟩⟩
  · have h2 : (m_validP p && m_genOK p.1 q) = true := h2
    have h3 := Bool.and_eq_true_iff.1 h2
    refine ⟨_, if_pos h3, ?_⟩
    show m_isSym p q = m_sym p q
    unfold m_sym
    rw [h2, Bool.true_and]
  · have h2 : (m_validP p && m_genOK p.1 q) = false := h2
    unfold m_sym
    rw [h2, Bool.false_and]
theorem sound_implIsSym : Sound Try.prog 47 s_isSym :=
  Sound.mkS tabOK (envCons sound_implIsState (envCons sound_implIsSymP envNil)) mixed Try.func47 (by kernel_rfl) (by kernel_rfl) fun x h => p_implIsSym x.1 x.2.1 h
theorem p_lawIsSymmetry (p : PP) (xs : List Int) (h : shortP p ∧ short xs) : fnW tab (look [(22, s_szP), (46, s_isSym), (47, s_isSym), (24, s_toP), (27, s_eqP), (25, s_toL), (28, s_equalInts)]) s_lawPL Try.f11 (p, xs, ()) (fun (z : Bool) => z = true) := by
  refine Eq.mp (w_lawIsSymmetry p xs _) (Br.dec (fun _ => rfl) fun _ => ⟨_, if_pos ⟨h.1, roomy_1m⟩, Br.dec (fun _ => rfl) fun hn => ?_⟩)
  refine ⟨_, if_pos h.1, _, if_pos h.2, _, if_pos h, _, if_pos h.1, _, if_pos h.2, _, if_pos h, ⟨fun he => bools_same he, fun _ => ?_⟩⟩
  refine ⟨_, if_pos h.1, _, if_pos h.1, ⟨fun he => not_self (m_eqP_self p) he, fun _ => ?_⟩⟩
  exact ⟨_, if_pos h.2, _, if_pos h.2, ⟨fun he => not_self (decide_eq_true rfl) he, fun _ => rfl⟩⟩
theorem sound_lawIsSymmetry : Sound Try.prog 11 s_lawPL :=
  Sound.mkS tabOK (envCons sound_szP (envCons sound_specIsSym (envCons sound_implIsSym (envCons sound_toP (envCons sound_eqP (envCons sound_toL (envCons sound_eqL envNil))))))) mixed Try.func11 (by kernel_rfl) (by kernel_rfl) fun x h => p_lawIsSymmetry x.1 x.2.1 h
theorem p_isLetter (p : PP) (l : Int) (h : List.length p.2.2.1 ≤ 4294967296) : fnW tab (look [(63, s_inRange), (64, s_lenLL)]) s_isLetter Try.f95 (p, l, ()) (fun (z : Bool) => z = dec (isLetter (List.length p.2.2.1) l)) := by
  refine Eq.mp (w_isLetter p l _) ⟨fun h1 => ⟨_, if_pos trivial, _, if_pos trivial, _, if_pos trivial, ?_⟩, fun h1 => ?_⟩
  · simp only [bne_iff_ne, ne_eq] at h1
    show m_inRange l (IntKind.i64.wrap ((0 : Int) - ((p.2.2.1.length : Nat) : Int))) ((p.2.2.1.length : Nat) : Int) = _
    rw [wrap_id (by omega) (by omega)]
    cases hr : m_inRange l ((0 : Int) - ((p.2.2.1.length : Nat) : Int)) ((p.2.2.1.length : Nat) : Int) with
    | true => rw [m_range_iff] at hr; exact dec_true ⟨h1, by omega, hr.2⟩
    | false => refine dec_false fun hh => ?_; rw [m_range_iff.2 ⟨by have := hh.2.1; omega, hh.2.2⟩] at hr; cases hr
  · simp only [bne_eq_false_iff_eq] at h1
    exact dec_false fun hh => hh.1 h1
theorem sound_isLetter : Sound Try.prog 95 s_isLetter :=
  Sound.mkS tabOK (envCons sound_within (envCons sound_lenLL envNil)) mixed Try.func95 (by kernel_rfl) (by kernel_rfl) fun x h => p_isLetter x.1 x.2.1 h
theorem sym_facts {p : PP} {q : List Int} (h : m_sym p q = true) : m_validP p = true ∧ m_genOK p.1 q = true := by
  unfold m_sym at h
  exact Bool.and_eq_true_iff.1 (Bool.and_eq_true_iff.1 h).1
theorem p_implLetterImage (p : PP) (q : List Int) (l : Int) (h : shortP p ∧ short q) : fnW tab (look [(47, s_isSym), (95, s_isLetter), (96, s_imageL)]) s_letterImage Try.f52 (p, q, l, ()) (fun (z : Int) => z = m_letterImage p q l) := by
  refine Eq.mp (w_implLetterImage p q l _) ⟨_, if_pos h, ⟨fun h1 => ?_, fun h1 => ⟨_, if_pos h.1.2.1, ⟨fun h2 => ?_, fun h2 => ?_⟩⟩⟩⟩
  · have h1 : ¬ m_sym p q = true := bnot_true h1
    show (0 : Int) = m_letterImage p q l
    unfold m_letterImage
    rw [if_neg fun hh => h1 (Bool.and_eq_true_iff.1 hh).1]
  · have h2 : ¬ dec (isLetter (List.length p.2.2.1) l) = true := bnot_true h2
    show (0 : Int) = m_letterImage p q l
    unfold m_letterImage
    rw [if_neg fun hh => h2 (Bool.and_eq_true_iff.1 hh).2]
  · have h1 : m_sym p q = true := bnot_false h1
    have h2 : dec (isLetter (List.length p.2.2.1) l) = true := bnot_false h2
    have hf := sym_facts h1
    refine ⟨_, if_pos ⟨hf.1, hf.2, dec_iff.1 h2⟩, ?_⟩
    show m_imageL p q l = m_letterImage p q l
    unfold m_letterImage
    rw [if_pos (Bool.and_eq_true_iff.2 ⟨h1, h2⟩)]
theorem sound_implLetterImage : Sound Try.prog 52 s_letterImage :=
  Sound.mkS tabOK (envCons sound_implIsSym (envCons sound_isLetter (envCons sound_imageL envNil))) mixed Try.func52 (by kernel_rfl) (by kernel_rfl) fun x h => p_implLetterImage x.1 x.2.1 x.2.2.1 h
theorem app_loop (s y : List Int) (P : List Int → Prop) (h1 : s.length ≤ 20) (h2 : inRow y.length s) (h3 : P (m_compose s y)) :
    WLoop
      (fun (v5 : Int × List Int × PUnit) (k6 : Int × List Int × PUnit → Prop) =>
        Br (decide (v5.fst < (↑s.length : Int)))
          (∃ (y7 : Int),
            idx s v5.fst = some y7 ∧
              ∃ (y8 : Int),
                idx y y7 = some y8 ∧
                  (0 : Nat) = (0 : Nat) ∧
                    v5.2.fst.length = v5.2.fst.length ∧
                      v5.2.fst.length + (List.take (1 : Nat) (List.drop (0 : Nat) [y8])).length ≤ maxRow ∧
                        (0 : Nat) = (0 : Nat) ∧
                          (v5.2.fst ++ List.take (1 : Nat) (List.drop (0 : Nat) [y8])).length = (v5.2.fst ++ List.take (1 : Nat) (List.drop (0 : Nat) [y8])).length ∧
                            k6 (IntKind.i64.wrap (v5.fst + (1 : Int)), v5.2.fst ++ List.take (1 : Nat) (List.drop (0 : Nat) [y8]), ()))
          (P (List.take v5.2.fst.length (List.drop (0 : Nat) v5.2.fst))))
      ((0 : Int), ([] : List Int), PUnit.unit) := by
  refine loop_range s.length (fun v => v.1) (fun j v => v.2.1 = (s.take j).map (gets y)) rfl (by simp) ?_
  rintro j ⟨i, ys, ⟨⟩⟩ K hj hi hR hK
  dsimp only at hi hR ⊢
  subst hi hR
  refine Br.dec (fun hl => ?_) fun hl => ?_
  · have hl : j < s.length := by omega
    have hy := h2 _ (List.getElem_mem hl)
    refine ⟨_, idx_nat hl, _, idx_gets hy.1 hy.2, rfl, rfl, ?_, rfl, rfl, ?_⟩
    · show ((s.take j).map (gets y)).length + 1 ≤ 4294967296
      rw [List.length_map, List.length_take]; omega
    · rw [wrap_nat (by omega)]
      refine hK hl _ rfl ?_
      dsimp only
      rw [List.take_succ_eq_append_getElem hl, List.map_append]
      rfl
  · have : j = s.length := by omega
    subst this
    rw [List.drop_zero, List.take_length, List.take_length]
    exact h3
theorem p_applyL (p : PP) (s : List Int) (l : Int) (h : m_validP p = true ∧ List.length s ≤ 20 ∧ (∀ y ∈ s, 0 ≤ y ∧ y < p.1) ∧ isLetter (List.length p.2.2.1) l) : fnW tab (look [(124, s_specInverse)]) s_applyL Try.f113 (p, s, l, ()) (fun (z : List Int) => z = m_compose s (m_letterOf p.2.2.1 l)) := by
  obtain ⟨hv, hs, hr, hl⟩ := h
  have hv := valid hv
  have hf := hv.few
  refine Eq.mp (w_applyL p s l _) ?_
  have hlo := letter_ok hv hl
  have hrow : inRow (m_letterOf p.2.2.1 l).length s := fun y hy => by have := hr y hy; omega
  obtain ⟨k, hk, rfl | rfl⟩ := letter_cases hl
  · rw [if_pos rfl, wrap_id (n := 0 - ((k : Int) + 1)) (by omega) (by omega), if_neg (by omega), wrap_id (by omega) (by omega), show (k : Int) + 1 - 1 = (k : Int) by omega]
    refine ⟨_, idx_nat hk, Br.dec (fun hn => by omega) fun _ => ⟨rfl, rfl, ?_⟩⟩
    rw [letter_pos hk] at hrow ⊢
    exact app_loop s _ (fun z => z = m_compose s p.2.2.1[k]) hs hrow rfl
  · rw [if_pos rfl, wrap_id (n := 0 - -((k : Int) + 1)) (by omega) (by omega), if_pos (by omega), wrap_id (by omega) (by omega), show (0 : Int) - -((k : Int) + 1) - 1 = (k : Int) by omega]
    refine ⟨_, idx_nat hk, Br.dec (fun _ => ⟨_, if_pos (hv.perm _ (List.getElem_mem hk)), rfl, rfl, ?_⟩) fun hn => by omega⟩
    rw [letter_neg hk] at hrow ⊢
    exact app_loop s (m_inverse p.2.2.1[k]) (fun z => z = m_compose s (m_inverse p.2.2.1[k])) hs hrow rfl
theorem sound_applyL : Sound Try.prog 113 s_applyL :=
  Sound.mkS tabOK (envCons sound_specInverse envNil) mixed Try.func113 (by kernel_rfl) (by kernel_rfl) fun x h => p_applyL x.1 x.2.1 x.2.2.1 h
theorem compose_upto (x : List Int) : m_compose (upto x.length) x = x := by
  refine List.ext_getElem (by rw [compose_len, upto_len]) fun k h1 h2 => ?_
  simp only [m_compose, upto, List.getElem_map, List.getElem_range]
  exact gets_nat h2
theorem p_mapL (p : PP) (q : List Int) (l : Int) (h : m_validP p = true ∧ m_genOK p.1 q = true ∧ isLetter (List.length p.2.2.1) l) : fnW tab (look [(112, s_letterWith), (97, s_imageUnder), (113, s_applyL), (114, s_identity)]) s_imageL Try.f94 (p, q, l, ()) (fun (z : Int) => z = m_imageL p q l) := by
  obtain ⟨hv0, hq, hl⟩ := h
  have hv := valid hv0
  have hn := hv.n
  obtain ⟨hq1, hq2⟩ := dec_iff.1 hq
  have hq := permOK hq2
  obtain ⟨hl1, hl2⟩ := letter_ok hv hl
  have e0 : p.1.toNat = (m_letterOf p.2.2.1 l).length := by omega
  have hto : ((p.1.toNat : Nat) : Int) ≤ p.1 := by omega
  have e1 : m_compose (upto p.1.toNat) (m_letterOf p.2.2.1 l) = m_letterOf p.2.2.1 l := by rw [e0]; exact compose_upto _
  have e2 : (m_letterOf p.2.2.1 l).length = q.length := by omega
  refine Eq.mp (w_mapL p q l _) ⟨upto p.1.toNat, if_pos ⟨by show 0 ≤ p.1; omega, hn.2⟩, m_letterOf p.2.2.1 l, (if_pos ⟨hv0, by show (upto p.1.toNat).length ≤ 20; rw [upto_len]; omega, fun y hy => by have h2 : y ∈ upto p.1.toNat := hy; have h3 := mem_upto.1 h2; exact ⟨h3.1, Int.lt_of_lt_of_le h3.2 hto⟩, hl⟩).trans (congrArg some e1), _, if_pos ⟨by show (m_letterOf p.2.2.1 l).length ≤ 20; have := hq.len; omega, e2.symm, hq.row, by rw [← e2]; exact hl2⟩, _, if_pos ⟨hv0, by show short (m_imageUnder q (m_letterOf p.2.2.1 l)); unfold short; rw [image_len]; have := hq.len; omega⟩, ?_⟩
  show m_letterWith p.2.2.1 (m_imageUnder q (m_letterOf p.2.2.1 l)) = m_imageL p q l
  unfold m_imageL
  rw [conj_image hq e2]
theorem sound_mapL : Sound Try.prog 94 s_imageL :=
  Sound.mkS tabOK (envCons sound_letterWith (envCons sound_imageUnder (envCons sound_applyL (envCons sound_identity envNil)))) mixed Try.func94 (by kernel_rfl) (by kernel_rfl) fun x h => p_mapL x.1 x.2.1 x.2.2.1 h
theorem p_specLetterImage (p : PP) (q : List Int) (l : Int) (h : shortP p ∧ short q) : fnW tab (look [(46, s_isSym), (60, s_inRange), (94, s_imageL)]) s_letterImage Try.f51 (p, q, l, ()) (fun (z : Int) => z = m_letterImage p q l) := by
  have hlen := h.1.2.1
  refine Eq.mp (w_specLetterImage p q l _) ⟨_, if_pos h, ⟨fun h1 => ?_, fun h1 => ⟨_, if_pos trivial, ⟨fun h2 => ?_, fun h2 => ⟨fun h3 => ?_, fun h3 => ?_⟩⟩⟩⟩⟩
  · have h1 : ¬ m_sym p q = true := bnot_true h1
    show (0 : Int) = m_letterImage p q l
    unfold m_letterImage
    rw [if_neg fun hh => h1 (Bool.and_eq_true_iff.1 hh).1]
  · have h2 : ¬ m_inRange l (IntKind.i64.wrap ((0 : Int) - ((p.2.2.1.length : Nat) : Int))) ((p.2.2.1.length : Nat) : Int) = true := bnot_true h2
    rw [m_range_iff, wrap_id (by omega) (by omega)] at h2
    show (0 : Int) = m_letterImage p q l
    unfold m_letterImage
    rw [if_neg fun hh => h2 ?_]
    have := dec_iff.1 (Bool.and_eq_true_iff.1 hh).2
    exact ⟨by have := this.2.1; omega, this.2.2⟩
  · simp only [beq_iff_eq] at h3
    show (0 : Int) = m_letterImage p q l
    unfold m_letterImage
    rw [if_neg fun hh => (dec_iff.1 (Bool.and_eq_true_iff.1 hh).2).1 h3]
  · simp only [beq_eq_false_iff_ne, ne_eq] at h3
    have h1 : m_sym p q = true := bnot_false h1
    have h2 : m_inRange l (IntKind.i64.wrap ((0 : Int) - ((p.2.2.1.length : Nat) : Int))) ((p.2.2.1.length : Nat) : Int) = true := bnot_false h2
    rw [m_range_iff, wrap_id (by omega) (by omega)] at h2
    have hf := sym_facts h1
    have hl : isLetter (List.length p.2.2.1) l := ⟨h3, by have := h2.1; omega, h2.2⟩
    refine ⟨_, if_pos ⟨hf.1, hf.2, hl⟩, ?_⟩
    show m_imageL p q l = m_letterImage p q l
    unfold m_letterImage
    rw [if_pos (Bool.and_eq_true_iff.2 ⟨h1, dec_iff.2 hl⟩)]
theorem sound_specLetterImage : Sound Try.prog 51 s_letterImage :=
  Sound.mkS tabOK (envCons sound_specIsSym (envCons sound_inRange (envCons sound_mapL envNil))) mixed Try.func51 (by kernel_rfl) (by kernel_rfl) fun x h => p_specLetterImage x.1 x.2.1 x.2.2.1 h
theorem p_lawLetterImage (p : PP) (xs : List Int) (l : Int) (h : shortP p ∧ short xs) : fnW tab (look [(22, s_szP), (51, s_letterImage), (52, s_letterImage), (24, s_toP), (27, s_eqP), (25, s_toL), (28, s_equalInts)]) s_lawPLI Try.f13 (p, xs, l, ()) (fun (z : Bool) => z = true) := by
  refine Eq.mp (w_lawLetterImage p xs l _) (Br.dec (fun _ => rfl) fun _ => ⟨_, if_pos ⟨h.1, roomy_1m⟩, Br.dec (fun _ => rfl) fun hn => ?_⟩)
  refine ⟨_, if_pos h.1, _, if_pos h.2, _, if_pos h, _, if_pos h.1, _, if_pos h.2, _, if_pos h, ⟨fun he => ints_same he, fun _ => ?_⟩⟩
  refine ⟨_, if_pos h.1, _, if_pos h.1, ⟨fun he => not_self (m_eqP_self p) he, fun _ => ?_⟩⟩
  exact ⟨_, if_pos h.2, _, if_pos h.2, ⟨fun he => not_self (decide_eq_true rfl) he, fun _ => rfl⟩⟩
theorem sound_lawLetterImage : Sound Try.prog 13 s_lawPLI :=
  Sound.mkS tabOK (envCons sound_szP (envCons sound_specLetterImage (envCons sound_implLetterImage (envCons sound_toP (envCons sound_eqP (envCons sound_toL (envCons sound_eqL envNil))))))) mixed Try.func13 (by kernel_rfl) (by kernel_rfl) fun x h => p_lawLetterImage x.1 x.2.1 x.2.2.1 h
end Go.Proofs.Ytingphpncocimaa
