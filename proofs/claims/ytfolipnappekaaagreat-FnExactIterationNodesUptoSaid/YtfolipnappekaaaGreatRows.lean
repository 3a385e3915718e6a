/-
  No cell of these rows narrows 'for every input' (looked for: loops, veiled, ifaces, maps, wideKeys, modest, calm, conditions, laid).
  DERIVED. THE GIVEN ROWS OF THIS SEAT. 10 by the template 'for every input the law returns true; each argument reads behind the call as it read before'; 0 by the template 'total and deterministic' (their statements: YtfolipnappekaaaGreatTotals.lean).
  GIVEN WITH THE SEED: the statements are not yours to turn. If you find one false, say at which input.
  Laid BY PROGRAM, IN A SANDBOX (cutbox-rows.mjs): the forced cells as the released guide's own fill.sh prints them over the translation 7fa89fac1f098511… (all of the seat's roots in one cut). By AI agents, Wed Nov 11 2026. No macro, syntax, notation, axiom, sorry.
-/
import Derived.Test.YtfolipnappekaaaGreatChecked
import GoSem.Claim
import GoSem.ClaimJoined
import GoSem.ClaimMapViews
import Derived.JoinedTies
import Derived.KernelRfl
namespace Go.Proofs.YtfolipnappekaaaGreat
/- THE CELL 'sum', in the pinned program and in every row, IS THE sha256 OF THE DUMP (.gsa) THAT YtfolipnappekaaaGreatProg.lean LOADS. Nothing in Lean hashes anything: it is a label: what it is worth is what the hold of that sum in a sandbox is worth. -/
noncomputable def Tryz.pinned : Pinned := { name := "ytfolipnappekaaagreat", sum := "7fa89fac1f098511c8f7eec0e9fec8199ceb5a8d965b5cb56c8741e8c19e139e", checked := Tryz.checked }
namespace Rows
def none {H : Type} : Left H := { results := [], args := [] }

/-- 'laws.FnExactLowerBound': WHATEVER THE INPUT: true; the input reads as it did. -/
def fnExactLowerBoundSpec : ChangeSpec := { name := "fnExactLowerBound", fn := fun _ => fun
  | [d1, d2, d3] => { results := [.lit (.bool true)], args := [d1, d2, d3] }
  | _ => none }
def fnExactLowerBoundRow : OpenClaim := { program := "ytfolipnappekaaagreat", sum := "7fa89fac1f098511c8f7eec0e9fec8199ceb5a8d965b5cb56c8741e8c19e139e", func := "loop.example/g00855/laws.FnExactLowerBound", spec := "fnExactLowerBound", unfollowed := true, recurses := true, apart := false }
def FnExactLowerBoundSaid : Prop := fnExactLowerBoundRow.holds Tryz.pinned (OpenSpec.ofChange fnExactLowerBoundSpec)

/-- ITS FALSE NEIGHBOUR: 'it returns false'. Refute it at one input. -/
def fnExactLowerBoundWrong : ChangeSpec := { name := "fnExactLowerBound", fn := fun _ => fun
  | [d1, d2, d3] => { results := [.lit (.bool false)], args := [d1, d2, d3] }
  | _ => none }
def FnExactLowerBoundWrongFalsely : Prop := fnExactLowerBoundRow.holds Tryz.pinned (OpenSpec.ofChange fnExactLowerBoundWrong)

/-- 'laws.FnExactLowerBoundWithInverse': WHATEVER THE INPUT: true; the input reads as it did. -/
def fnExactLowerBoundWithInverseSpec : ChangeSpec := { name := "fnExactLowerBoundWithInverse", fn := fun _ => fun
  | [d1, d2, d3] => { results := [.lit (.bool true)], args := [d1, d2, d3] }
  | _ => none }
def fnExactLowerBoundWithInverseRow : OpenClaim := { program := "ytfolipnappekaaagreat", sum := "7fa89fac1f098511c8f7eec0e9fec8199ceb5a8d965b5cb56c8741e8c19e139e", func := "loop.example/g00855/laws.FnExactLowerBoundWithInverse", spec := "fnExactLowerBoundWithInverse", unfollowed := true, recurses := true, apart := false }
def FnExactLowerBoundWithInverseSaid : Prop := fnExactLowerBoundWithInverseRow.holds Tryz.pinned (OpenSpec.ofChange fnExactLowerBoundWithInverseSpec)

/-- ITS FALSE NEIGHBOUR: 'it returns false'. Refute it at one input. -/
def fnExactLowerBoundWithInverseWrong : ChangeSpec := { name := "fnExactLowerBoundWithInverse", fn := fun _ => fun
  | [d1, d2, d3] => { results := [.lit (.bool false)], args := [d1, d2, d3] }
  | _ => none }
def FnExactLowerBoundWithInverseWrongFalsely : Prop := fnExactLowerBoundWithInverseRow.holds Tryz.pinned (OpenSpec.ofChange fnExactLowerBoundWithInverseWrong)

/-- 'laws.FnExactBestTableIndex': WHATEVER THE INPUT: true; the input reads as it did. -/
def fnExactBestTableIndexSpec : ChangeSpec := { name := "fnExactBestTableIndex", fn := fun _ => fun
  | [d1, d2, d3] => { results := [.lit (.bool true)], args := [d1, d2, d3] }
  | _ => none }
def fnExactBestTableIndexRow : OpenClaim := { program := "ytfolipnappekaaagreat", sum := "7fa89fac1f098511c8f7eec0e9fec8199ceb5a8d965b5cb56c8741e8c19e139e", func := "loop.example/g00855/laws.FnExactBestTableIndex", spec := "fnExactBestTableIndex", unfollowed := true, recurses := true, apart := false }
def FnExactBestTableIndexSaid : Prop := fnExactBestTableIndexRow.holds Tryz.pinned (OpenSpec.ofChange fnExactBestTableIndexSpec)

/-- ITS FALSE NEIGHBOUR: 'it returns false'. Refute it at one input. -/
def fnExactBestTableIndexWrong : ChangeSpec := { name := "fnExactBestTableIndex", fn := fun _ => fun
  | [d1, d2, d3] => { results := [.lit (.bool false)], args := [d1, d2, d3] }
  | _ => none }
def FnExactBestTableIndexWrongFalsely : Prop := fnExactBestTableIndexRow.holds Tryz.pinned (OpenSpec.ofChange fnExactBestTableIndexWrong)

/-- 'laws.FnExactLowerBounds': WHATEVER THE INPUT: true; the input reads as it did. -/
def fnExactLowerBoundsSpec : ChangeSpec := { name := "fnExactLowerBounds", fn := fun _ => fun
  | [d1, d2, d3] => { results := [.lit (.bool true)], args := [d1, d2, d3] }
  | _ => none }
def fnExactLowerBoundsRow : OpenClaim := { program := "ytfolipnappekaaagreat", sum := "7fa89fac1f098511c8f7eec0e9fec8199ceb5a8d965b5cb56c8741e8c19e139e", func := "loop.example/g00855/laws.FnExactLowerBounds", spec := "fnExactLowerBounds", unfollowed := true, recurses := true, apart := false }
def FnExactLowerBoundsSaid : Prop := fnExactLowerBoundsRow.holds Tryz.pinned (OpenSpec.ofChange fnExactLowerBoundsSpec)

/-- ITS FALSE NEIGHBOUR: 'it returns false'. Refute it at one input. -/
def fnExactLowerBoundsWrong : ChangeSpec := { name := "fnExactLowerBounds", fn := fun _ => fun
  | [d1, d2, d3] => { results := [.lit (.bool false)], args := [d1, d2, d3] }
  | _ => none }
def FnExactLowerBoundsWrongFalsely : Prop := fnExactLowerBoundsRow.holds Tryz.pinned (OpenSpec.ofChange fnExactLowerBoundsWrong)

/-- 'laws.FnExactBoundGap': WHATEVER THE INPUT: true; the input reads as it did. -/
def fnExactBoundGapSpec : ChangeSpec := { name := "fnExactBoundGap", fn := fun _ => fun
  | [d1, d2, d3] => { results := [.lit (.bool true)], args := [d1, d2, d3] }
  | _ => none }
def fnExactBoundGapRow : OpenClaim := { program := "ytfolipnappekaaagreat", sum := "7fa89fac1f098511c8f7eec0e9fec8199ceb5a8d965b5cb56c8741e8c19e139e", func := "loop.example/g00855/laws.FnExactBoundGap", spec := "fnExactBoundGap", unfollowed := true, recurses := true, apart := false }
def FnExactBoundGapSaid : Prop := fnExactBoundGapRow.holds Tryz.pinned (OpenSpec.ofChange fnExactBoundGapSpec)

/-- ITS FALSE NEIGHBOUR: 'it returns false'. Refute it at one input. -/
def fnExactBoundGapWrong : ChangeSpec := { name := "fnExactBoundGap", fn := fun _ => fun
  | [d1, d2, d3] => { results := [.lit (.bool false)], args := [d1, d2, d3] }
  | _ => none }
def FnExactBoundGapWrongFalsely : Prop := fnExactBoundGapRow.holds Tryz.pinned (OpenSpec.ofChange fnExactBoundGapWrong)

/-- 'laws.FnExactSearchDepth': WHATEVER THE INPUT: true; the input reads as it did. -/
def fnExactSearchDepthSpec : ChangeSpec := { name := "fnExactSearchDepth", fn := fun _ => fun
  | [d1, d2, d3, d4] => { results := [.lit (.bool true)], args := [d1, d2, d3, d4] }
  | _ => none }
def fnExactSearchDepthRow : OpenClaim := { program := "ytfolipnappekaaagreat", sum := "7fa89fac1f098511c8f7eec0e9fec8199ceb5a8d965b5cb56c8741e8c19e139e", func := "loop.example/g00855/laws.FnExactSearchDepth", spec := "fnExactSearchDepth", unfollowed := true, recurses := true, apart := false }
def FnExactSearchDepthSaid : Prop := fnExactSearchDepthRow.holds Tryz.pinned (OpenSpec.ofChange fnExactSearchDepthSpec)

/-- ITS FALSE NEIGHBOUR: 'it returns false'. Refute it at one input. -/
def fnExactSearchDepthWrong : ChangeSpec := { name := "fnExactSearchDepth", fn := fun _ => fun
  | [d1, d2, d3, d4] => { results := [.lit (.bool false)], args := [d1, d2, d3, d4] }
  | _ => none }
def FnExactSearchDepthWrongFalsely : Prop := fnExactSearchDepthRow.holds Tryz.pinned (OpenSpec.ofChange fnExactSearchDepthWrong)

/-- 'laws.FnExactIterationNodes': WHATEVER THE INPUT: true; the input reads as it did. -/
def fnExactIterationNodesSpec : ChangeSpec := { name := "fnExactIterationNodes", fn := fun _ => fun
  | [d1, d2, d3, d4] => { results := [.lit (.bool true)], args := [d1, d2, d3, d4] }
  | _ => none }
def fnExactIterationNodesRow : OpenClaim := { program := "ytfolipnappekaaagreat", sum := "7fa89fac1f098511c8f7eec0e9fec8199ceb5a8d965b5cb56c8741e8c19e139e", func := "loop.example/g00855/laws.FnExactIterationNodes", spec := "fnExactIterationNodes", unfollowed := true, recurses := true, apart := false }
def FnExactIterationNodesSaid : Prop := fnExactIterationNodesRow.holds Tryz.pinned (OpenSpec.ofChange fnExactIterationNodesSpec)

/-- ITS FALSE NEIGHBOUR: 'it returns false'. Refute it at one input. -/
def fnExactIterationNodesWrong : ChangeSpec := { name := "fnExactIterationNodes", fn := fun _ => fun
  | [d1, d2, d3, d4] => { results := [.lit (.bool false)], args := [d1, d2, d3, d4] }
  | _ => none }
def FnExactIterationNodesWrongFalsely : Prop := fnExactIterationNodesRow.holds Tryz.pinned (OpenSpec.ofChange fnExactIterationNodesWrong)

/-- 'laws.FnExactSolveIDAStar': WHATEVER THE INPUT: true; the input reads as it did. -/
def fnExactSolveIDAStarSpec : ChangeSpec := { name := "fnExactSolveIDAStar", fn := fun _ => fun
  | [d1, d2, d3, d4] => { results := [.lit (.bool true)], args := [d1, d2, d3, d4] }
  | _ => none }
def fnExactSolveIDAStarRow : OpenClaim := { program := "ytfolipnappekaaagreat", sum := "7fa89fac1f098511c8f7eec0e9fec8199ceb5a8d965b5cb56c8741e8c19e139e", func := "loop.example/g00855/laws.FnExactSolveIDAStar", spec := "fnExactSolveIDAStar", unfollowed := true, recurses := true, apart := false }
def FnExactSolveIDAStarSaid : Prop := fnExactSolveIDAStarRow.holds Tryz.pinned (OpenSpec.ofChange fnExactSolveIDAStarSpec)

/-- ITS FALSE NEIGHBOUR: 'it returns false'. Refute it at one input. -/
def fnExactSolveIDAStarWrong : ChangeSpec := { name := "fnExactSolveIDAStar", fn := fun _ => fun
  | [d1, d2, d3, d4] => { results := [.lit (.bool false)], args := [d1, d2, d3, d4] }
  | _ => none }
def FnExactSolveIDAStarWrongFalsely : Prop := fnExactSolveIDAStarRow.holds Tryz.pinned (OpenSpec.ofChange fnExactSolveIDAStarWrong)

/-- 'laws.FnExactSolutionsAtDepth': WHATEVER THE INPUT: true; the input reads as it did. -/
def fnExactSolutionsAtDepthSpec : ChangeSpec := { name := "fnExactSolutionsAtDepth", fn := fun _ => fun
  | [d1, d2, d3, d4] => { results := [.lit (.bool true)], args := [d1, d2, d3, d4] }
  | _ => none }
def fnExactSolutionsAtDepthRow : OpenClaim := { program := "ytfolipnappekaaagreat", sum := "7fa89fac1f098511c8f7eec0e9fec8199ceb5a8d965b5cb56c8741e8c19e139e", func := "loop.example/g00855/laws.FnExactSolutionsAtDepth", spec := "fnExactSolutionsAtDepth", unfollowed := true, recurses := true, apart := false }
def FnExactSolutionsAtDepthSaid : Prop := fnExactSolutionsAtDepthRow.holds Tryz.pinned (OpenSpec.ofChange fnExactSolutionsAtDepthSpec)

/-- ITS FALSE NEIGHBOUR: 'it returns false'. Refute it at one input. -/
def fnExactSolutionsAtDepthWrong : ChangeSpec := { name := "fnExactSolutionsAtDepth", fn := fun _ => fun
  | [d1, d2, d3, d4] => { results := [.lit (.bool false)], args := [d1, d2, d3, d4] }
  | _ => none }
def FnExactSolutionsAtDepthWrongFalsely : Prop := fnExactSolutionsAtDepthRow.holds Tryz.pinned (OpenSpec.ofChange fnExactSolutionsAtDepthWrong)

/-- 'laws.FnExactProvesNoSolutionWithin': WHATEVER THE INPUT: true; the input reads as it did. -/
def fnExactProvesNoSolutionWithinSpec : ChangeSpec := { name := "fnExactProvesNoSolutionWithin", fn := fun _ => fun
  | [d1, d2, d3, d4] => { results := [.lit (.bool true)], args := [d1, d2, d3, d4] }
  | _ => none }
def fnExactProvesNoSolutionWithinRow : OpenClaim := { program := "ytfolipnappekaaagreat", sum := "7fa89fac1f098511c8f7eec0e9fec8199ceb5a8d965b5cb56c8741e8c19e139e", func := "loop.example/g00855/laws.FnExactProvesNoSolutionWithin", spec := "fnExactProvesNoSolutionWithin", unfollowed := true, recurses := true, apart := false }
def FnExactProvesNoSolutionWithinSaid : Prop := fnExactProvesNoSolutionWithinRow.holds Tryz.pinned (OpenSpec.ofChange fnExactProvesNoSolutionWithinSpec)

/-- ITS FALSE NEIGHBOUR: 'it returns false'. Refute it at one input. -/
def fnExactProvesNoSolutionWithinWrong : ChangeSpec := { name := "fnExactProvesNoSolutionWithin", fn := fun _ => fun
  | [d1, d2, d3, d4] => { results := [.lit (.bool false)], args := [d1, d2, d3, d4] }
  | _ => none }
def FnExactProvesNoSolutionWithinWrongFalsely : Prop := fnExactProvesNoSolutionWithinRow.holds Tryz.pinned (OpenSpec.ofChange fnExactProvesNoSolutionWithinWrong)

/- THE SECOND FORM. 'bulk': how many values and letters a reading holds, each counted each time it is reached (what is shared counts as often as it is met; a slice's spare places count too). A statement '..UptoSaid' is the law's where the arguments, and the package variables that the reading takes, are together of bulk at most 1048576: NARROWER than '..Said'. Prove '..Said' where nothing that the law and all that it calls make is longer than what came in: it says more and counts as full. Else prove '..UptoSaid'. A law counts once. -/
mutual
def uptoBulk {H : Type} : DataW H → Nat
  | .lit (.string bytes) => bytes.length + 1
  | .lit _ => 1
  | .nil => 1
  | .ptr d => uptoBulk d + 1
  | .slice elems spare => uptoBulkAll elems + uptoBulkAll spare + 1
  | .agg parts => uptoBulkAll parts + 1
  | .iface _ d => uptoBulk d + 1
  | .map entries => uptoBulkEntries entries + 1
  | .held _ => 1
def uptoBulkAll {H : Type} : List (DataW H) → Nat
  | [] => 0
  | d :: r => uptoBulk d + uptoBulkAll r
def uptoBulkEntries {H : Type} : List (Lit × DataW H) → Nat
  | [] => 0
  | x :: r => uptoBulkEntry x + uptoBulkEntries r
def uptoBulkEntry {H : Type} : Lit × DataW H → Nat
  | (.string bytes, d) => bytes.length + uptoBulk d + 1
  | (_, d) => uptoBulk d + 1
 end
def uptoSmall : (H : Type) → List (DataW H) → Bool := fun _ ds => decide (uptoBulkAll ds ≤ 1048576)
def OpenSpec.upto (s : _root_.Go.ChangeSpec) : _root_.Go.OpenSpec := { _root_.Go.OpenSpec.ofChange s with cond := some uptoSmall }

/-- 'laws.FnExactLowerBound', WHERE WHAT IT READS IS OF BULK AT MOST 1048576: true; the input reads as it did. -/
def fnExactLowerBoundUptoRow : OpenClaim := { program := "ytfolipnappekaaagreat", sum := "7fa89fac1f098511c8f7eec0e9fec8199ceb5a8d965b5cb56c8741e8c19e139e", func := "loop.example/g00855/laws.FnExactLowerBound", spec := "fnExactLowerBound", unfollowed := true, recurses := true, apart := false, narrowed := true }
def FnExactLowerBoundUptoSaid : Prop := fnExactLowerBoundUptoRow.holds Tryz.pinned (OpenSpec.upto fnExactLowerBoundSpec)

/-- 'laws.FnExactLowerBoundWithInverse', WHERE WHAT IT READS IS OF BULK AT MOST 1048576: true; the input reads as it did. -/
def fnExactLowerBoundWithInverseUptoRow : OpenClaim := { program := "ytfolipnappekaaagreat", sum := "7fa89fac1f098511c8f7eec0e9fec8199ceb5a8d965b5cb56c8741e8c19e139e", func := "loop.example/g00855/laws.FnExactLowerBoundWithInverse", spec := "fnExactLowerBoundWithInverse", unfollowed := true, recurses := true, apart := false, narrowed := true }
def FnExactLowerBoundWithInverseUptoSaid : Prop := fnExactLowerBoundWithInverseUptoRow.holds Tryz.pinned (OpenSpec.upto fnExactLowerBoundWithInverseSpec)

/-- 'laws.FnExactBestTableIndex', WHERE WHAT IT READS IS OF BULK AT MOST 1048576: true; the input reads as it did. -/
def fnExactBestTableIndexUptoRow : OpenClaim := { program := "ytfolipnappekaaagreat", sum := "7fa89fac1f098511c8f7eec0e9fec8199ceb5a8d965b5cb56c8741e8c19e139e", func := "loop.example/g00855/laws.FnExactBestTableIndex", spec := "fnExactBestTableIndex", unfollowed := true, recurses := true, apart := false, narrowed := true }
def FnExactBestTableIndexUptoSaid : Prop := fnExactBestTableIndexUptoRow.holds Tryz.pinned (OpenSpec.upto fnExactBestTableIndexSpec)

/-- 'laws.FnExactLowerBounds', WHERE WHAT IT READS IS OF BULK AT MOST 1048576: true; the input reads as it did. -/
def fnExactLowerBoundsUptoRow : OpenClaim := { program := "ytfolipnappekaaagreat", sum := "7fa89fac1f098511c8f7eec0e9fec8199ceb5a8d965b5cb56c8741e8c19e139e", func := "loop.example/g00855/laws.FnExactLowerBounds", spec := "fnExactLowerBounds", unfollowed := true, recurses := true, apart := false, narrowed := true }
def FnExactLowerBoundsUptoSaid : Prop := fnExactLowerBoundsUptoRow.holds Tryz.pinned (OpenSpec.upto fnExactLowerBoundsSpec)

/-- 'laws.FnExactBoundGap', WHERE WHAT IT READS IS OF BULK AT MOST 1048576: true; the input reads as it did. -/
def fnExactBoundGapUptoRow : OpenClaim := { program := "ytfolipnappekaaagreat", sum := "7fa89fac1f098511c8f7eec0e9fec8199ceb5a8d965b5cb56c8741e8c19e139e", func := "loop.example/g00855/laws.FnExactBoundGap", spec := "fnExactBoundGap", unfollowed := true, recurses := true, apart := false, narrowed := true }
def FnExactBoundGapUptoSaid : Prop := fnExactBoundGapUptoRow.holds Tryz.pinned (OpenSpec.upto fnExactBoundGapSpec)

/-- 'laws.FnExactSearchDepth', WHERE WHAT IT READS IS OF BULK AT MOST 1048576: true; the input reads as it did. -/
def fnExactSearchDepthUptoRow : OpenClaim := { program := "ytfolipnappekaaagreat", sum := "7fa89fac1f098511c8f7eec0e9fec8199ceb5a8d965b5cb56c8741e8c19e139e", func := "loop.example/g00855/laws.FnExactSearchDepth", spec := "fnExactSearchDepth", unfollowed := true, recurses := true, apart := false, narrowed := true }
def FnExactSearchDepthUptoSaid : Prop := fnExactSearchDepthUptoRow.holds Tryz.pinned (OpenSpec.upto fnExactSearchDepthSpec)

/-- 'laws.FnExactIterationNodes', WHERE WHAT IT READS IS OF BULK AT MOST 1048576: true; the input reads as it did. -/
def fnExactIterationNodesUptoRow : OpenClaim := { program := "ytfolipnappekaaagreat", sum := "7fa89fac1f098511c8f7eec0e9fec8199ceb5a8d965b5cb56c8741e8c19e139e", func := "loop.example/g00855/laws.FnExactIterationNodes", spec := "fnExactIterationNodes", unfollowed := true, recurses := true, apart := false, narrowed := true }
def FnExactIterationNodesUptoSaid : Prop := fnExactIterationNodesUptoRow.holds Tryz.pinned (OpenSpec.upto fnExactIterationNodesSpec)

/-- 'laws.FnExactSolveIDAStar', WHERE WHAT IT READS IS OF BULK AT MOST 1048576: true; the input reads as it did. -/
def fnExactSolveIDAStarUptoRow : OpenClaim := { program := "ytfolipnappekaaagreat", sum := "7fa89fac1f098511c8f7eec0e9fec8199ceb5a8d965b5cb56c8741e8c19e139e", func := "loop.example/g00855/laws.FnExactSolveIDAStar", spec := "fnExactSolveIDAStar", unfollowed := true, recurses := true, apart := false, narrowed := true }
def FnExactSolveIDAStarUptoSaid : Prop := fnExactSolveIDAStarUptoRow.holds Tryz.pinned (OpenSpec.upto fnExactSolveIDAStarSpec)

/-- 'laws.FnExactSolutionsAtDepth', WHERE WHAT IT READS IS OF BULK AT MOST 1048576: true; the input reads as it did. -/
def fnExactSolutionsAtDepthUptoRow : OpenClaim := { program := "ytfolipnappekaaagreat", sum := "7fa89fac1f098511c8f7eec0e9fec8199ceb5a8d965b5cb56c8741e8c19e139e", func := "loop.example/g00855/laws.FnExactSolutionsAtDepth", spec := "fnExactSolutionsAtDepth", unfollowed := true, recurses := true, apart := false, narrowed := true }
def FnExactSolutionsAtDepthUptoSaid : Prop := fnExactSolutionsAtDepthUptoRow.holds Tryz.pinned (OpenSpec.upto fnExactSolutionsAtDepthSpec)

/-- 'laws.FnExactProvesNoSolutionWithin', WHERE WHAT IT READS IS OF BULK AT MOST 1048576: true; the input reads as it did. -/
def fnExactProvesNoSolutionWithinUptoRow : OpenClaim := { program := "ytfolipnappekaaagreat", sum := "7fa89fac1f098511c8f7eec0e9fec8199ceb5a8d965b5cb56c8741e8c19e139e", func := "loop.example/g00855/laws.FnExactProvesNoSolutionWithin", spec := "fnExactProvesNoSolutionWithin", unfollowed := true, recurses := true, apart := false, narrowed := true }
def FnExactProvesNoSolutionWithinUptoSaid : Prop := fnExactProvesNoSolutionWithinUptoRow.holds Tryz.pinned (OpenSpec.upto fnExactProvesNoSolutionWithinSpec)

end Rows
end Go.Proofs.YtfolipnappekaaaGreat
