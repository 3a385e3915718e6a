/-
  No cell of these rows narrows 'for every input' (looked for: loops, veiled, ifaces, maps, wideKeys, modest, calm, conditions, laid).
  DERIVED. THE GIVEN ROWS OF THIS SEAT. 11 by the template 'for every input the law returns true; each argument reads behind the call as it read before'; 0 by the template 'total and deterministic' (their statements: YtjbdmibbbpdnnaaTotals.lean).
  GIVEN WITH THE SEED: the statements are not yours to turn. If you find one false, say at which input.
  Laid BY PROGRAM, IN A SANDBOX (cutbox-rows.mjs): the forced cells as the released guide's own fill.sh prints them over the translation aece210278cb137e… (all of the seat's roots in one cut). By AI agents, Wed Nov 11 2026. No macro, syntax, notation, axiom, sorry.
-/
import Derived.Test.YtjbdmibbbpdnnaaChecked
import GoSem.Claim
import GoSem.ClaimJoined
import GoSem.ClaimMapViews
import Derived.JoinedTies
import Derived.KernelRfl
namespace Go.Proofs.Ytjbdmibbbpdnnaa
/- THE CELL 'sum', in the pinned program and in every row, IS THE sha256 OF THE DUMP (.gsa) THAT YtjbdmibbbpdnnaaProg.lean LOADS. Nothing in Lean hashes anything: it is a label: what it is worth is what the hold of that sum in a sandbox is worth. -/
noncomputable def Try.pinned : Pinned := { name := "ytjbdmibbbpdnnaa", sum := "aece210278cb137ebd7e439745f341012163e7e13405a85a0f14c4f60cd9ee9a", checked := Try.checked }
namespace Rows
def none {H : Type} : Left H := { results := [], args := [] }

/-- 'laws.FnExactInSubgroup': WHATEVER THE INPUT: true; the input reads as it did. -/
def fnExactInSubgroupSpec : ChangeSpec := { name := "fnExactInSubgroup", fn := fun _ => fun
  | [d1, d2, d3] => { results := [.lit (.bool true)], args := [d1, d2, d3] }
  | _ => none }
def fnExactInSubgroupRow : OpenClaim := { program := "ytjbdmibbbpdnnaa", sum := "aece210278cb137ebd7e439745f341012163e7e13405a85a0f14c4f60cd9ee9a", func := "loop.example/g00855/laws.FnExactInSubgroup", spec := "fnExactInSubgroup", unfollowed := true, recurses := true, apart := false }
def FnExactInSubgroupSaid : Prop := fnExactInSubgroupRow.holds Try.pinned (OpenSpec.ofChange fnExactInSubgroupSpec)

/-- ITS FALSE NEIGHBOUR: 'it returns false'. Refute it at one input. -/
def fnExactInSubgroupWrong : ChangeSpec := { name := "fnExactInSubgroup", fn := fun _ => fun
  | [d1, d2, d3] => { results := [.lit (.bool false)], args := [d1, d2, d3] }
  | _ => none }
def FnExactInSubgroupWrongFalsely : Prop := fnExactInSubgroupRow.holds Try.pinned (OpenSpec.ofChange fnExactInSubgroupWrong)

/-- 'laws.FnExactSubgroupCosetCount': WHATEVER THE INPUT: true; the input reads as it did. -/
def fnExactSubgroupCosetCountSpec : ChangeSpec := { name := "fnExactSubgroupCosetCount", fn := fun _ => fun
  | [d1, d2] => { results := [.lit (.bool true)], args := [d1, d2] }
  | _ => none }
def fnExactSubgroupCosetCountRow : OpenClaim := { program := "ytjbdmibbbpdnnaa", sum := "aece210278cb137ebd7e439745f341012163e7e13405a85a0f14c4f60cd9ee9a", func := "loop.example/g00855/laws.FnExactSubgroupCosetCount", spec := "fnExactSubgroupCosetCount", unfollowed := true, recurses := true, apart := false }
def FnExactSubgroupCosetCountSaid : Prop := fnExactSubgroupCosetCountRow.holds Try.pinned (OpenSpec.ofChange fnExactSubgroupCosetCountSpec)

/-- ITS FALSE NEIGHBOUR: 'it returns false'. Refute it at one input. -/
def fnExactSubgroupCosetCountWrong : ChangeSpec := { name := "fnExactSubgroupCosetCount", fn := fun _ => fun
  | [d1, d2] => { results := [.lit (.bool false)], args := [d1, d2] }
  | _ => none }
def FnExactSubgroupCosetCountWrongFalsely : Prop := fnExactSubgroupCosetCountRow.holds Try.pinned (OpenSpec.ofChange fnExactSubgroupCosetCountWrong)

/-- 'laws.FnExactPhaseTwoWord': WHATEVER THE INPUT: true; the input reads as it did. -/
def fnExactPhaseTwoWordSpec : ChangeSpec := { name := "fnExactPhaseTwoWord", fn := fun _ => fun
  | [d1, d2, d3] => { results := [.lit (.bool true)], args := [d1, d2, d3] }
  | _ => none }
def fnExactPhaseTwoWordRow : OpenClaim := { program := "ytjbdmibbbpdnnaa", sum := "aece210278cb137ebd7e439745f341012163e7e13405a85a0f14c4f60cd9ee9a", func := "loop.example/g00855/laws.FnExactPhaseTwoWord", spec := "fnExactPhaseTwoWord", unfollowed := true, recurses := true, apart := false }
def FnExactPhaseTwoWordSaid : Prop := fnExactPhaseTwoWordRow.holds Try.pinned (OpenSpec.ofChange fnExactPhaseTwoWordSpec)

/-- ITS FALSE NEIGHBOUR: 'it returns false'. Refute it at one input. -/
def fnExactPhaseTwoWordWrong : ChangeSpec := { name := "fnExactPhaseTwoWord", fn := fun _ => fun
  | [d1, d2, d3] => { results := [.lit (.bool false)], args := [d1, d2, d3] }
  | _ => none }
def FnExactPhaseTwoWordWrongFalsely : Prop := fnExactPhaseTwoWordRow.holds Try.pinned (OpenSpec.ofChange fnExactPhaseTwoWordWrong)

/-- 'laws.FnExactStageWord': WHATEVER THE INPUT: true; the input reads as it did. -/
def fnExactStageWordSpec : ChangeSpec := { name := "fnExactStageWord", fn := fun _ => fun
  | [d1, d2, d3] => { results := [.lit (.bool true)], args := [d1, d2, d3] }
  | _ => none }
def fnExactStageWordRow : OpenClaim := { program := "ytjbdmibbbpdnnaa", sum := "aece210278cb137ebd7e439745f341012163e7e13405a85a0f14c4f60cd9ee9a", func := "loop.example/g00855/laws.FnExactStageWord", spec := "fnExactStageWord", unfollowed := true, recurses := true, apart := false }
def FnExactStageWordSaid : Prop := fnExactStageWordRow.holds Try.pinned (OpenSpec.ofChange fnExactStageWordSpec)

/-- ITS FALSE NEIGHBOUR: 'it returns false'. Refute it at one input. -/
def fnExactStageWordWrong : ChangeSpec := { name := "fnExactStageWord", fn := fun _ => fun
  | [d1, d2, d3] => { results := [.lit (.bool false)], args := [d1, d2, d3] }
  | _ => none }
def FnExactStageWordWrongFalsely : Prop := fnExactStageWordRow.holds Try.pinned (OpenSpec.ofChange fnExactStageWordWrong)

/-- 'laws.FnExactPhaseOneWord': WHATEVER THE INPUT: true; the input reads as it did. -/
def fnExactPhaseOneWordSpec : ChangeSpec := { name := "fnExactPhaseOneWord", fn := fun _ => fun
  | [d1, d2, d3] => { results := [.lit (.bool true)], args := [d1, d2, d3] }
  | _ => none }
def fnExactPhaseOneWordRow : OpenClaim := { program := "ytjbdmibbbpdnnaa", sum := "aece210278cb137ebd7e439745f341012163e7e13405a85a0f14c4f60cd9ee9a", func := "loop.example/g00855/laws.FnExactPhaseOneWord", spec := "fnExactPhaseOneWord", unfollowed := true, recurses := true, apart := false }
def FnExactPhaseOneWordSaid : Prop := fnExactPhaseOneWordRow.holds Try.pinned (OpenSpec.ofChange fnExactPhaseOneWordSpec)

/-- ITS FALSE NEIGHBOUR: 'it returns false'. Refute it at one input. -/
def fnExactPhaseOneWordWrong : ChangeSpec := { name := "fnExactPhaseOneWord", fn := fun _ => fun
  | [d1, d2, d3] => { results := [.lit (.bool false)], args := [d1, d2, d3] }
  | _ => none }
def FnExactPhaseOneWordWrongFalsely : Prop := fnExactPhaseOneWordRow.holds Try.pinned (OpenSpec.ofChange fnExactPhaseOneWordWrong)

/-- 'laws.FnExactSolveTwoPhase': WHATEVER THE INPUT: true; the input reads as it did. -/
def fnExactSolveTwoPhaseSpec : ChangeSpec := { name := "fnExactSolveTwoPhase", fn := fun _ => fun
  | [d1, d2, d3] => { results := [.lit (.bool true)], args := [d1, d2, d3] }
  | _ => none }
def fnExactSolveTwoPhaseRow : OpenClaim := { program := "ytjbdmibbbpdnnaa", sum := "aece210278cb137ebd7e439745f341012163e7e13405a85a0f14c4f60cd9ee9a", func := "loop.example/g00855/laws.FnExactSolveTwoPhase", spec := "fnExactSolveTwoPhase", unfollowed := true, recurses := true, apart := false }
def FnExactSolveTwoPhaseSaid : Prop := fnExactSolveTwoPhaseRow.holds Try.pinned (OpenSpec.ofChange fnExactSolveTwoPhaseSpec)

/-- ITS FALSE NEIGHBOUR: 'it returns false'. Refute it at one input. -/
def fnExactSolveTwoPhaseWrong : ChangeSpec := { name := "fnExactSolveTwoPhase", fn := fun _ => fun
  | [d1, d2, d3] => { results := [.lit (.bool false)], args := [d1, d2, d3] }
  | _ => none }
def FnExactSolveTwoPhaseWrongFalsely : Prop := fnExactSolveTwoPhaseRow.holds Try.pinned (OpenSpec.ofChange fnExactSolveTwoPhaseWrong)

/-- 'laws.FnExactLongestMethodSolution': WHATEVER THE INPUT: true; the input reads as it did. -/
def fnExactLongestMethodSolutionSpec : ChangeSpec := { name := "fnExactLongestMethodSolution", fn := fun _ => fun
  | [d1, d2] => { results := [.lit (.bool true)], args := [d1, d2] }
  | _ => none }
def fnExactLongestMethodSolutionRow : OpenClaim := { program := "ytjbdmibbbpdnnaa", sum := "aece210278cb137ebd7e439745f341012163e7e13405a85a0f14c4f60cd9ee9a", func := "loop.example/g00855/laws.FnExactLongestMethodSolution", spec := "fnExactLongestMethodSolution", unfollowed := true, recurses := true, apart := false }
def FnExactLongestMethodSolutionSaid : Prop := fnExactLongestMethodSolutionRow.holds Try.pinned (OpenSpec.ofChange fnExactLongestMethodSolutionSpec)

/-- ITS FALSE NEIGHBOUR: 'it returns false'. Refute it at one input. -/
def fnExactLongestMethodSolutionWrong : ChangeSpec := { name := "fnExactLongestMethodSolution", fn := fun _ => fun
  | [d1, d2] => { results := [.lit (.bool false)], args := [d1, d2] }
  | _ => none }
def FnExactLongestMethodSolutionWrongFalsely : Prop := fnExactLongestMethodSolutionRow.holds Try.pinned (OpenSpec.ofChange fnExactLongestMethodSolutionWrong)

/-- 'laws.FnExactSolveByMethod': WHATEVER THE INPUT: true; the input reads as it did. -/
def fnExactSolveByMethodSpec : ChangeSpec := { name := "fnExactSolveByMethod", fn := fun _ => fun
  | [d1, d2, d3] => { results := [.lit (.bool true)], args := [d1, d2, d3] }
  | _ => none }
def fnExactSolveByMethodRow : OpenClaim := { program := "ytjbdmibbbpdnnaa", sum := "aece210278cb137ebd7e439745f341012163e7e13405a85a0f14c4f60cd9ee9a", func := "loop.example/g00855/laws.FnExactSolveByMethod", spec := "fnExactSolveByMethod", unfollowed := true, recurses := true, apart := false }
def FnExactSolveByMethodSaid : Prop := fnExactSolveByMethodRow.holds Try.pinned (OpenSpec.ofChange fnExactSolveByMethodSpec)

/-- ITS FALSE NEIGHBOUR: 'it returns false'. Refute it at one input. -/
def fnExactSolveByMethodWrong : ChangeSpec := { name := "fnExactSolveByMethod", fn := fun _ => fun
  | [d1, d2, d3] => { results := [.lit (.bool false)], args := [d1, d2, d3] }
  | _ => none }
def FnExactSolveByMethodWrongFalsely : Prop := fnExactSolveByMethodRow.holds Try.pinned (OpenSpec.ofChange fnExactSolveByMethodWrong)

/-- 'laws.FnExactMethodLength': WHATEVER THE INPUT: true; the input reads as it did. -/
def fnExactMethodLengthSpec : ChangeSpec := { name := "fnExactMethodLength", fn := fun _ => fun
  | [d1, d2, d3] => { results := [.lit (.bool true)], args := [d1, d2, d3] }
  | _ => none }
def fnExactMethodLengthRow : OpenClaim := { program := "ytjbdmibbbpdnnaa", sum := "aece210278cb137ebd7e439745f341012163e7e13405a85a0f14c4f60cd9ee9a", func := "loop.example/g00855/laws.FnExactMethodLength", spec := "fnExactMethodLength", unfollowed := true, recurses := true, apart := false }
def FnExactMethodLengthSaid : Prop := fnExactMethodLengthRow.holds Try.pinned (OpenSpec.ofChange fnExactMethodLengthSpec)

/-- ITS FALSE NEIGHBOUR: 'it returns false'. Refute it at one input. -/
def fnExactMethodLengthWrong : ChangeSpec := { name := "fnExactMethodLength", fn := fun _ => fun
  | [d1, d2, d3] => { results := [.lit (.bool false)], args := [d1, d2, d3] }
  | _ => none }
def FnExactMethodLengthWrongFalsely : Prop := fnExactMethodLengthRow.holds Try.pinned (OpenSpec.ofChange fnExactMethodLengthWrong)

/-- 'laws.FnExactExactStateCount': WHATEVER THE INPUT: true; the input reads as it did. -/
def fnExactExactStateCountSpec : ChangeSpec := { name := "fnExactExactStateCount", fn := fun _ => fun
  | [d1, d2] => { results := [.lit (.bool true)], args := [d1, d2] }
  | _ => none }
def fnExactExactStateCountRow : OpenClaim := { program := "ytjbdmibbbpdnnaa", sum := "aece210278cb137ebd7e439745f341012163e7e13405a85a0f14c4f60cd9ee9a", func := "loop.example/g00855/laws.FnExactExactStateCount", spec := "fnExactExactStateCount", unfollowed := true, recurses := true, apart := false }
def FnExactExactStateCountSaid : Prop := fnExactExactStateCountRow.holds Try.pinned (OpenSpec.ofChange fnExactExactStateCountSpec)

/-- ITS FALSE NEIGHBOUR: 'it returns false'. Refute it at one input. -/
def fnExactExactStateCountWrong : ChangeSpec := { name := "fnExactExactStateCount", fn := fun _ => fun
  | [d1, d2] => { results := [.lit (.bool false)], args := [d1, d2] }
  | _ => none }
def FnExactExactStateCountWrongFalsely : Prop := fnExactExactStateCountRow.holds Try.pinned (OpenSpec.ofChange fnExactExactStateCountWrong)

/-- 'laws.FnExactSolveTwoPhaseWithin': WHATEVER THE INPUT: true; the input reads as it did. -/
def fnExactSolveTwoPhaseWithinSpec : ChangeSpec := { name := "fnExactSolveTwoPhaseWithin", fn := fun _ => fun
  | [d1, d2, d3, d4] => { results := [.lit (.bool true)], args := [d1, d2, d3, d4] }
  | _ => none }
def fnExactSolveTwoPhaseWithinRow : OpenClaim := { program := "ytjbdmibbbpdnnaa", sum := "aece210278cb137ebd7e439745f341012163e7e13405a85a0f14c4f60cd9ee9a", func := "loop.example/g00855/laws.FnExactSolveTwoPhaseWithin", spec := "fnExactSolveTwoPhaseWithin", unfollowed := true, recurses := true, apart := false }
def FnExactSolveTwoPhaseWithinSaid : Prop := fnExactSolveTwoPhaseWithinRow.holds Try.pinned (OpenSpec.ofChange fnExactSolveTwoPhaseWithinSpec)

/-- ITS FALSE NEIGHBOUR: 'it returns false'. Refute it at one input. -/
def fnExactSolveTwoPhaseWithinWrong : ChangeSpec := { name := "fnExactSolveTwoPhaseWithin", fn := fun _ => fun
  | [d1, d2, d3, d4] => { results := [.lit (.bool false)], args := [d1, d2, d3, d4] }
  | _ => none }
def FnExactSolveTwoPhaseWithinWrongFalsely : Prop := fnExactSolveTwoPhaseWithinRow.holds Try.pinned (OpenSpec.ofChange fnExactSolveTwoPhaseWithinWrong)

/- THE SECOND FORM. 'bulk': how many values and letters a reading holds, each counted each time it is reached (what is shared counts as often as it is met; a slice's spare places count too). A statement '..UptoSaid' is the law's where the arguments, and the package variables that the reading takes, are together of bulk at most 1048576: NARROWER than '..Said'. Prove '..Said' where nothing that the law and all that it calls make is longer than what came in: it says more and counts as full. Else prove '..UptoSaid'. A law counts once. -/
mutual
def uptoBulk {H : Type} : DataW H → Nat
  | .lit (.string bytes) => bytes.length + 1
  | .lit _ => 1
  | .nil => 1
  | .ptr d => uptoBulk d + 1
  | .slice elems spare => uptoBulkAll elems + uptoBulkAll spare + 1
  | .agg parts => uptoBulkAll parts + 1
  | .iface _ d => uptoBulk d + 1
  | .map entries => uptoBulkEntries entries + 1
  | .held _ => 1
def uptoBulkAll {H : Type} : List (DataW H) → Nat
  | [] => 0
  | d :: r => uptoBulk d + uptoBulkAll r
def uptoBulkEntries {H : Type} : List (Lit × DataW H) → Nat
  | [] => 0
  | x :: r => uptoBulkEntry x + uptoBulkEntries r
def uptoBulkEntry {H : Type} : Lit × DataW H → Nat
  | (.string bytes, d) => bytes.length + uptoBulk d + 1
  | (_, d) => uptoBulk d + 1
 end
def uptoSmall : (H : Type) → List (DataW H) → Bool := fun _ ds => decide (uptoBulkAll ds ≤ 1048576)
def OpenSpec.upto (s : _root_.Go.ChangeSpec) : _root_.Go.OpenSpec := { _root_.Go.OpenSpec.ofChange s with cond := some uptoSmall }

/-- 'laws.FnExactInSubgroup', WHERE WHAT IT READS IS OF BULK AT MOST 1048576: true; the input reads as it did. -/
def fnExactInSubgroupUptoRow : OpenClaim := { program := "ytjbdmibbbpdnnaa", sum := "aece210278cb137ebd7e439745f341012163e7e13405a85a0f14c4f60cd9ee9a", func := "loop.example/g00855/laws.FnExactInSubgroup", spec := "fnExactInSubgroup", unfollowed := true, recurses := true, apart := false, narrowed := true }
def FnExactInSubgroupUptoSaid : Prop := fnExactInSubgroupUptoRow.holds Try.pinned (OpenSpec.upto fnExactInSubgroupSpec)

/-- 'laws.FnExactSubgroupCosetCount', WHERE WHAT IT READS IS OF BULK AT MOST 1048576: true; the input reads as it did. -/
def fnExactSubgroupCosetCountUptoRow : OpenClaim := { program := "ytjbdmibbbpdnnaa", sum := "aece210278cb137ebd7e439745f341012163e7e13405a85a0f14c4f60cd9ee9a", func := "loop.example/g00855/laws.FnExactSubgroupCosetCount", spec := "fnExactSubgroupCosetCount", unfollowed := true, recurses := true, apart := false, narrowed := true }
def FnExactSubgroupCosetCountUptoSaid : Prop := fnExactSubgroupCosetCountUptoRow.holds Try.pinned (OpenSpec.upto fnExactSubgroupCosetCountSpec)

/-- 'laws.FnExactPhaseTwoWord', WHERE WHAT IT READS IS OF BULK AT MOST 1048576: true; the input reads as it did. -/
def fnExactPhaseTwoWordUptoRow : OpenClaim := { program := "ytjbdmibbbpdnnaa", sum := "aece210278cb137ebd7e439745f341012163e7e13405a85a0f14c4f60cd9ee9a", func := "loop.example/g00855/laws.FnExactPhaseTwoWord", spec := "fnExactPhaseTwoWord", unfollowed := true, recurses := true, apart := false, narrowed := true }
def FnExactPhaseTwoWordUptoSaid : Prop := fnExactPhaseTwoWordUptoRow.holds Try.pinned (OpenSpec.upto fnExactPhaseTwoWordSpec)

/-- 'laws.FnExactStageWord', WHERE WHAT IT READS IS OF BULK AT MOST 1048576: true; the input reads as it did. -/
def fnExactStageWordUptoRow : OpenClaim := { program := "ytjbdmibbbpdnnaa", sum := "aece210278cb137ebd7e439745f341012163e7e13405a85a0f14c4f60cd9ee9a", func := "loop.example/g00855/laws.FnExactStageWord", spec := "fnExactStageWord", unfollowed := true, recurses := true, apart := false, narrowed := true }
def FnExactStageWordUptoSaid : Prop := fnExactStageWordUptoRow.holds Try.pinned (OpenSpec.upto fnExactStageWordSpec)

/-- 'laws.FnExactPhaseOneWord', WHERE WHAT IT READS IS OF BULK AT MOST 1048576: true; the input reads as it did. -/
def fnExactPhaseOneWordUptoRow : OpenClaim := { program := "ytjbdmibbbpdnnaa", sum := "aece210278cb137ebd7e439745f341012163e7e13405a85a0f14c4f60cd9ee9a", func := "loop.example/g00855/laws.FnExactPhaseOneWord", spec := "fnExactPhaseOneWord", unfollowed := true, recurses := true, apart := false, narrowed := true }
def FnExactPhaseOneWordUptoSaid : Prop := fnExactPhaseOneWordUptoRow.holds Try.pinned (OpenSpec.upto fnExactPhaseOneWordSpec)

/-- 'laws.FnExactSolveTwoPhase', WHERE WHAT IT READS IS OF BULK AT MOST 1048576: true; the input reads as it did. -/
def fnExactSolveTwoPhaseUptoRow : OpenClaim := { program := "ytjbdmibbbpdnnaa", sum := "aece210278cb137ebd7e439745f341012163e7e13405a85a0f14c4f60cd9ee9a", func := "loop.example/g00855/laws.FnExactSolveTwoPhase", spec := "fnExactSolveTwoPhase", unfollowed := true, recurses := true, apart := false, narrowed := true }
def FnExactSolveTwoPhaseUptoSaid : Prop := fnExactSolveTwoPhaseUptoRow.holds Try.pinned (OpenSpec.upto fnExactSolveTwoPhaseSpec)

/-- 'laws.FnExactLongestMethodSolution', WHERE WHAT IT READS IS OF BULK AT MOST 1048576: true; the input reads as it did. -/
def fnExactLongestMethodSolutionUptoRow : OpenClaim := { program := "ytjbdmibbbpdnnaa", sum := "aece210278cb137ebd7e439745f341012163e7e13405a85a0f14c4f60cd9ee9a", func := "loop.example/g00855/laws.FnExactLongestMethodSolution", spec := "fnExactLongestMethodSolution", unfollowed := true, recurses := true, apart := false, narrowed := true }
def FnExactLongestMethodSolutionUptoSaid : Prop := fnExactLongestMethodSolutionUptoRow.holds Try.pinned (OpenSpec.upto fnExactLongestMethodSolutionSpec)

/-- 'laws.FnExactSolveByMethod', WHERE WHAT IT READS IS OF BULK AT MOST 1048576: true; the input reads as it did. -/
def fnExactSolveByMethodUptoRow : OpenClaim := { program := "ytjbdmibbbpdnnaa", sum := "aece210278cb137ebd7e439745f341012163e7e13405a85a0f14c4f60cd9ee9a", func := "loop.example/g00855/laws.FnExactSolveByMethod", spec := "fnExactSolveByMethod", unfollowed := true, recurses := true, apart := false, narrowed := true }
def FnExactSolveByMethodUptoSaid : Prop := fnExactSolveByMethodUptoRow.holds Try.pinned (OpenSpec.upto fnExactSolveByMethodSpec)

/-- 'laws.FnExactMethodLength', WHERE WHAT IT READS IS OF BULK AT MOST 1048576: true; the input reads as it did. -/
def fnExactMethodLengthUptoRow : OpenClaim := { program := "ytjbdmibbbpdnnaa", sum := "aece210278cb137ebd7e439745f341012163e7e13405a85a0f14c4f60cd9ee9a", func := "loop.example/g00855/laws.FnExactMethodLength", spec := "fnExactMethodLength", unfollowed := true, recurses := true, apart := false, narrowed := true }
def FnExactMethodLengthUptoSaid : Prop := fnExactMethodLengthUptoRow.holds Try.pinned (OpenSpec.upto fnExactMethodLengthSpec)

/-- 'laws.FnExactExactStateCount', WHERE WHAT IT READS IS OF BULK AT MOST 1048576: true; the input reads as it did. -/
def fnExactExactStateCountUptoRow : OpenClaim := { program := "ytjbdmibbbpdnnaa", sum := "aece210278cb137ebd7e439745f341012163e7e13405a85a0f14c4f60cd9ee9a", func := "loop.example/g00855/laws.FnExactExactStateCount", spec := "fnExactExactStateCount", unfollowed := true, recurses := true, apart := false, narrowed := true }
def FnExactExactStateCountUptoSaid : Prop := fnExactExactStateCountUptoRow.holds Try.pinned (OpenSpec.upto fnExactExactStateCountSpec)

/-- 'laws.FnExactSolveTwoPhaseWithin', WHERE WHAT IT READS IS OF BULK AT MOST 1048576: true; the input reads as it did. -/
def fnExactSolveTwoPhaseWithinUptoRow : OpenClaim := { program := "ytjbdmibbbpdnnaa", sum := "aece210278cb137ebd7e439745f341012163e7e13405a85a0f14c4f60cd9ee9a", func := "loop.example/g00855/laws.FnExactSolveTwoPhaseWithin", spec := "fnExactSolveTwoPhaseWithin", unfollowed := true, recurses := true, apart := false, narrowed := true }
def FnExactSolveTwoPhaseWithinUptoSaid : Prop := fnExactSolveTwoPhaseWithinUptoRow.holds Try.pinned (OpenSpec.upto fnExactSolveTwoPhaseWithinSpec)

end Rows
end Go.Proofs.Ytjbdmibbbpdnnaa
