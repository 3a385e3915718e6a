/-
  No cell of these rows narrows 'for every input' (looked for: loops, veiled, ifaces, maps, wideKeys, modest, calm, conditions, laid).
  DERIVED. THE GIVEN ROWS OF THIS SEAT. 5 by the template 'for every input the law returns true; each argument reads behind the call as it read before'; 0 by the template 'total and deterministic' (their statements: YtkkdpknjohcekaaGreatTotals.lean).
  GIVEN WITH THE SEED: the statements are not yours to turn. If you find one false, say at which input.
  Laid BY PROGRAM, IN A SANDBOX (cutbox-rows.mjs): the forced cells as the released guide's own fill.sh prints them over the translation d61807060a700892… (all of the seat's roots in one cut). By AI agents, Wed Nov 11 2026. No macro, syntax, notation, axiom, sorry.
-/
import Derived.Test.YtkkdpknjohcekaaGreatChecked
import GoSem.Claim
import GoSem.ClaimJoined
import GoSem.ClaimMapViews
import Derived.JoinedTies
import Derived.KernelRfl
namespace Go.Proofs.YtkkdpknjohcekaaGreat
/- THE CELL 'sum', in the pinned program and in every row, IS THE sha256 OF THE DUMP (.gsa) THAT YtkkdpknjohcekaaGreatProg.lean LOADS. Nothing in Lean hashes anything: it is a label: what it is worth is what the hold of that sum in a sandbox is worth. -/
noncomputable def Tryz.pinned : Pinned := { name := "ytkkdpknjohcekaagreat", sum := "d61807060a700892e8d410e0f2c7f4d92abb4d19864dacd3290e711a18e6bd0a", checked := Tryz.checked }
namespace Rows
def none {H : Type} : Left H := { results := [], args := [] }

/-- 'laws.FnIterativeDeepening': WHATEVER THE INPUT: true; the input reads as it did. -/
def fnIterativeDeepeningSpec : ChangeSpec := { name := "fnIterativeDeepening", fn := fun _ => fun
  | [d] => { results := [.lit (.bool true)], args := [d] }
  | _ => none }
def fnIterativeDeepeningRow : OpenClaim := { program := "ytkkdpknjohcekaagreat", sum := "d61807060a700892e8d410e0f2c7f4d92abb4d19864dacd3290e711a18e6bd0a", func := "loop.example/g00855/laws.FnIterativeDeepening", spec := "fnIterativeDeepening", unfollowed := true, recurses := true, apart := false }
def FnIterativeDeepeningSaid : Prop := fnIterativeDeepeningRow.holds Tryz.pinned (OpenSpec.ofChange fnIterativeDeepeningSpec)

/-- ITS FALSE NEIGHBOUR: 'it returns false'. Refute it at one input. -/
def fnIterativeDeepeningWrong : ChangeSpec := { name := "fnIterativeDeepening", fn := fun _ => fun
  | [d] => { results := [.lit (.bool false)], args := [d] }
  | _ => none }
def FnIterativeDeepeningWrongFalsely : Prop := fnIterativeDeepeningRow.holds Tryz.pinned (OpenSpec.ofChange fnIterativeDeepeningWrong)

/-- 'laws.FnLowerBounds': WHATEVER THE INPUT: true; the input reads as it did. -/
def fnLowerBoundsSpec : ChangeSpec := { name := "fnLowerBounds", fn := fun _ => fun
  | [d] => { results := [.lit (.bool true)], args := [d] }
  | _ => none }
def fnLowerBoundsRow : OpenClaim := { program := "ytkkdpknjohcekaagreat", sum := "d61807060a700892e8d410e0f2c7f4d92abb4d19864dacd3290e711a18e6bd0a", func := "loop.example/g00855/laws.FnLowerBounds", spec := "fnLowerBounds", unfollowed := true, recurses := true, apart := false }
def FnLowerBoundsSaid : Prop := fnLowerBoundsRow.holds Tryz.pinned (OpenSpec.ofChange fnLowerBoundsSpec)

/-- ITS FALSE NEIGHBOUR: 'it returns false'. Refute it at one input. -/
def fnLowerBoundsWrong : ChangeSpec := { name := "fnLowerBounds", fn := fun _ => fun
  | [d] => { results := [.lit (.bool false)], args := [d] }
  | _ => none }
def FnLowerBoundsWrongFalsely : Prop := fnLowerBoundsRow.holds Tryz.pinned (OpenSpec.ofChange fnLowerBoundsWrong)

/-- 'laws.FnNoShorterSolution': WHATEVER THE INPUT: true; the input reads as it did. -/
def fnNoShorterSolutionSpec : ChangeSpec := { name := "fnNoShorterSolution", fn := fun _ => fun
  | [d] => { results := [.lit (.bool true)], args := [d] }
  | _ => none }
def fnNoShorterSolutionRow : OpenClaim := { program := "ytkkdpknjohcekaagreat", sum := "d61807060a700892e8d410e0f2c7f4d92abb4d19864dacd3290e711a18e6bd0a", func := "loop.example/g00855/laws.FnNoShorterSolution", spec := "fnNoShorterSolution", unfollowed := true, recurses := true, apart := false }
def FnNoShorterSolutionSaid : Prop := fnNoShorterSolutionRow.holds Tryz.pinned (OpenSpec.ofChange fnNoShorterSolutionSpec)

/-- ITS FALSE NEIGHBOUR: 'it returns false'. Refute it at one input. -/
def fnNoShorterSolutionWrong : ChangeSpec := { name := "fnNoShorterSolution", fn := fun _ => fun
  | [d] => { results := [.lit (.bool false)], args := [d] }
  | _ => none }
def FnNoShorterSolutionWrongFalsely : Prop := fnNoShorterSolutionRow.holds Tryz.pinned (OpenSpec.ofChange fnNoShorterSolutionWrong)

/-- 'laws.FnPatterns': WHATEVER THE INPUT: true; the input reads as it did. -/
def fnPatternsSpec : ChangeSpec := { name := "fnPatterns", fn := fun _ => fun
  | [d] => { results := [.lit (.bool true)], args := [d] }
  | _ => none }
def fnPatternsRow : OpenClaim := { program := "ytkkdpknjohcekaagreat", sum := "d61807060a700892e8d410e0f2c7f4d92abb4d19864dacd3290e711a18e6bd0a", func := "loop.example/g00855/laws.FnPatterns", spec := "fnPatterns", unfollowed := true, recurses := true, apart := false }
def FnPatternsSaid : Prop := fnPatternsRow.holds Tryz.pinned (OpenSpec.ofChange fnPatternsSpec)

/-- ITS FALSE NEIGHBOUR: 'it returns false'. Refute it at one input. -/
def fnPatternsWrong : ChangeSpec := { name := "fnPatterns", fn := fun _ => fun
  | [d] => { results := [.lit (.bool false)], args := [d] }
  | _ => none }
def FnPatternsWrongFalsely : Prop := fnPatternsRow.holds Tryz.pinned (OpenSpec.ofChange fnPatternsWrong)

/-- 'laws.FnMethods': WHATEVER THE INPUT: true; the input reads as it did. -/
def fnMethodsSpec : ChangeSpec := { name := "fnMethods", fn := fun _ => fun
  | [d] => { results := [.lit (.bool true)], args := [d] }
  | _ => none }
def fnMethodsRow : OpenClaim := { program := "ytkkdpknjohcekaagreat", sum := "d61807060a700892e8d410e0f2c7f4d92abb4d19864dacd3290e711a18e6bd0a", func := "loop.example/g00855/laws.FnMethods", spec := "fnMethods", unfollowed := true, recurses := true, apart := false }
def FnMethodsSaid : Prop := fnMethodsRow.holds Tryz.pinned (OpenSpec.ofChange fnMethodsSpec)

/-- ITS FALSE NEIGHBOUR: 'it returns false'. Refute it at one input. -/
def fnMethodsWrong : ChangeSpec := { name := "fnMethods", fn := fun _ => fun
  | [d] => { results := [.lit (.bool false)], args := [d] }
  | _ => none }
def FnMethodsWrongFalsely : Prop := fnMethodsRow.holds Tryz.pinned (OpenSpec.ofChange fnMethodsWrong)

/- THE SECOND FORM. 'bulk': how many values and letters a reading holds, each counted each time it is reached (what is shared counts as often as it is met; a slice's spare places count too). A statement '..UptoSaid' is the law's where the arguments, and the package variables that the reading takes, are together of bulk at most 1048576: NARROWER than '..Said'. Prove '..Said' where nothing that the law and all that it calls make is longer than what came in: it says more and counts as full. Else prove '..UptoSaid'. A law counts once. -/
mutual
def uptoBulk {H : Type} : DataW H → Nat
  | .lit (.string bytes) => bytes.length + 1
  | .lit _ => 1
  | .nil => 1
  | .ptr d => uptoBulk d + 1
  | .slice elems spare => uptoBulkAll elems + uptoBulkAll spare + 1
  | .agg parts => uptoBulkAll parts + 1
  | .iface _ d => uptoBulk d + 1
  | .map entries => uptoBulkEntries entries + 1
  | .held _ => 1
def uptoBulkAll {H : Type} : List (DataW H) → Nat
  | [] => 0
  | d :: r => uptoBulk d + uptoBulkAll r
def uptoBulkEntries {H : Type} : List (Lit × DataW H) → Nat
  | [] => 0
  | x :: r => uptoBulkEntry x + uptoBulkEntries r
def uptoBulkEntry {H : Type} : Lit × DataW H → Nat
  | (.string bytes, d) => bytes.length + uptoBulk d + 1
  | (_, d) => uptoBulk d + 1
 end
def uptoSmall : (H : Type) → List (DataW H) → Bool := fun _ ds => decide (uptoBulkAll ds ≤ 1048576)
def OpenSpec.upto (s : _root_.Go.ChangeSpec) : _root_.Go.OpenSpec := { _root_.Go.OpenSpec.ofChange s with cond := some uptoSmall }

/-- 'laws.FnIterativeDeepening', WHERE WHAT IT READS IS OF BULK AT MOST 1048576: true; the input reads as it did. -/
def fnIterativeDeepeningUptoRow : OpenClaim := { program := "ytkkdpknjohcekaagreat", sum := "d61807060a700892e8d410e0f2c7f4d92abb4d19864dacd3290e711a18e6bd0a", func := "loop.example/g00855/laws.FnIterativeDeepening", spec := "fnIterativeDeepening", unfollowed := true, recurses := true, apart := false, narrowed := true }
def FnIterativeDeepeningUptoSaid : Prop := fnIterativeDeepeningUptoRow.holds Tryz.pinned (OpenSpec.upto fnIterativeDeepeningSpec)

/-- 'laws.FnLowerBounds', WHERE WHAT IT READS IS OF BULK AT MOST 1048576: true; the input reads as it did. -/
def fnLowerBoundsUptoRow : OpenClaim := { program := "ytkkdpknjohcekaagreat", sum := "d61807060a700892e8d410e0f2c7f4d92abb4d19864dacd3290e711a18e6bd0a", func := "loop.example/g00855/laws.FnLowerBounds", spec := "fnLowerBounds", unfollowed := true, recurses := true, apart := false, narrowed := true }
def FnLowerBoundsUptoSaid : Prop := fnLowerBoundsUptoRow.holds Tryz.pinned (OpenSpec.upto fnLowerBoundsSpec)

/-- 'laws.FnNoShorterSolution', WHERE WHAT IT READS IS OF BULK AT MOST 1048576: true; the input reads as it did. -/
def fnNoShorterSolutionUptoRow : OpenClaim := { program := "ytkkdpknjohcekaagreat", sum := "d61807060a700892e8d410e0f2c7f4d92abb4d19864dacd3290e711a18e6bd0a", func := "loop.example/g00855/laws.FnNoShorterSolution", spec := "fnNoShorterSolution", unfollowed := true, recurses := true, apart := false, narrowed := true }
def FnNoShorterSolutionUptoSaid : Prop := fnNoShorterSolutionUptoRow.holds Tryz.pinned (OpenSpec.upto fnNoShorterSolutionSpec)

/-- 'laws.FnPatterns', WHERE WHAT IT READS IS OF BULK AT MOST 1048576: true; the input reads as it did. -/
def fnPatternsUptoRow : OpenClaim := { program := "ytkkdpknjohcekaagreat", sum := "d61807060a700892e8d410e0f2c7f4d92abb4d19864dacd3290e711a18e6bd0a", func := "loop.example/g00855/laws.FnPatterns", spec := "fnPatterns", unfollowed := true, recurses := true, apart := false, narrowed := true }
def FnPatternsUptoSaid : Prop := fnPatternsUptoRow.holds Tryz.pinned (OpenSpec.upto fnPatternsSpec)

/-- 'laws.FnMethods', WHERE WHAT IT READS IS OF BULK AT MOST 1048576: true; the input reads as it did. -/
def fnMethodsUptoRow : OpenClaim := { program := "ytkkdpknjohcekaagreat", sum := "d61807060a700892e8d410e0f2c7f4d92abb4d19864dacd3290e711a18e6bd0a", func := "loop.example/g00855/laws.FnMethods", spec := "fnMethods", unfollowed := true, recurses := true, apart := false, narrowed := true }
def FnMethodsUptoSaid : Prop := fnMethodsUptoRow.holds Tryz.pinned (OpenSpec.upto fnMethodsSpec)

end Rows
end Go.Proofs.YtkkdpknjohcekaaGreat
