/-
  Part 49 of the proof that the statement FnExactPhaseTwoWord holds.
-/
import Derived.Test.YtebabhocakedaaaCPhaseTwoWord47
namespace Go.Proofs.Ytebabhocakedaaa
open Go.RowKit
def Bgu (N:Nat→List Int) (m:Nat):Prop:= ∀i,i<m→ ∀t∈N i,0≤t∧t<m
end Go.Proofs.Ytebabhocakedaaa
