/-
  No cell of these rows narrows 'for every input' (looked for: loops, veiled, ifaces, maps, wideKeys, modest, calm, conditions, laid).
  DERIVED. THE GIVEN ROWS OF THIS SEAT. 12 by the template 'for every input the law returns true; each argument reads behind the call as it read before'; 0 by the template 'total and deterministic' (their statements: YtebabhocakedaaaTotals.lean).
  GIVEN WITH THE SEED: the statements are not yours to turn. If you find one false, say at which input.
  Laid BY PROGRAM, IN A SANDBOX (cutbox-rows.mjs): the forced cells as the released guide's own fill.sh prints them over the translation ed113548318f98e0… (all of the seat's roots in one cut). By AI agents, Wed Nov 11 2026. No macro, syntax, notation, axiom, sorry.
-/
import Derived.Test.YtebabhocakedaaaChecked
import GoSem.Claim
import GoSem.ClaimJoined
import GoSem.ClaimMapViews
import Derived.JoinedTies
import Derived.KernelRfl
namespace Go.Proofs.Ytebabhocakedaaa
/- THE CELL 'sum', in the pinned program and in every row, IS THE sha256 OF THE DUMP (.gsa) THAT YtebabhocakedaaaProg.lean LOADS. Nothing in Lean hashes anything: it is a label: what it is worth is what the hold of that sum in a sandbox is worth. -/
noncomputable def Try.pinned : Pinned := { name := "ytebabhocakedaaa", sum := "ed113548318f98e01ccdb37c3b593b04baf29d23a77e59c4b46fb04b55517c83", checked := Try.checked }
namespace Rows
def none {H : Type} : Left H := { results := [], args := [] }

/-- 'laws.FnExactSatisfiesGoal': WHATEVER THE INPUT: true; the input reads as it did. -/
def fnExactSatisfiesGoalSpec : ChangeSpec := { name := "fnExactSatisfiesGoal", fn := fun _ => fun
  | [d1, d2, d3] => { results := [.lit (.bool true)], args := [d1, d2, d3] }
  | _ => none }
def fnExactSatisfiesGoalRow : OpenClaim := { program := "ytebabhocakedaaa", sum := "ed113548318f98e01ccdb37c3b593b04baf29d23a77e59c4b46fb04b55517c83", func := "loop.example/g00855/laws.FnExactSatisfiesGoal", spec := "fnExactSatisfiesGoal", unfollowed := true, recurses := true, apart := false }
def FnExactSatisfiesGoalSaid : Prop := fnExactSatisfiesGoalRow.holds Try.pinned (OpenSpec.ofChange fnExactSatisfiesGoalSpec)

/-- ITS FALSE NEIGHBOUR: 'it returns false'. Refute it at one input. -/
def fnExactSatisfiesGoalWrong : ChangeSpec := { name := "fnExactSatisfiesGoal", fn := fun _ => fun
  | [d1, d2, d3] => { results := [.lit (.bool false)], args := [d1, d2, d3] }
  | _ => none }
def FnExactSatisfiesGoalWrongFalsely : Prop := fnExactSatisfiesGoalRow.holds Try.pinned (OpenSpec.ofChange fnExactSatisfiesGoalWrong)

/-- 'laws.FnExactStatesWithPattern': WHATEVER THE INPUT: true; the input reads as it did. -/
def fnExactStatesWithPatternSpec : ChangeSpec := { name := "fnExactStatesWithPattern", fn := fun _ => fun
  | [d1, d2, d3] => { results := [.lit (.bool true)], args := [d1, d2, d3] }
  | _ => none }
def fnExactStatesWithPatternRow : OpenClaim := { program := "ytebabhocakedaaa", sum := "ed113548318f98e01ccdb37c3b593b04baf29d23a77e59c4b46fb04b55517c83", func := "loop.example/g00855/laws.FnExactStatesWithPattern", spec := "fnExactStatesWithPattern", unfollowed := true, recurses := true, apart := false }
def FnExactStatesWithPatternSaid : Prop := fnExactStatesWithPatternRow.holds Try.pinned (OpenSpec.ofChange fnExactStatesWithPatternSpec)

/-- ITS FALSE NEIGHBOUR: 'it returns false'. Refute it at one input. -/
def fnExactStatesWithPatternWrong : ChangeSpec := { name := "fnExactStatesWithPattern", fn := fun _ => fun
  | [d1, d2, d3] => { results := [.lit (.bool false)], args := [d1, d2, d3] }
  | _ => none }
def FnExactStatesWithPatternWrongFalsely : Prop := fnExactStatesWithPatternRow.holds Try.pinned (OpenSpec.ofChange fnExactStatesWithPatternWrong)

/-- 'laws.FnExactSubgroupCosetCount': WHATEVER THE INPUT: true; the input reads as it did. -/
def fnExactSubgroupCosetCountSpec : ChangeSpec := { name := "fnExactSubgroupCosetCount", fn := fun _ => fun
  | [d1, d2] => { results := [.lit (.bool true)], args := [d1, d2] }
  | _ => none }
def fnExactSubgroupCosetCountRow : OpenClaim := { program := "ytebabhocakedaaa", sum := "ed113548318f98e01ccdb37c3b593b04baf29d23a77e59c4b46fb04b55517c83", func := "loop.example/g00855/laws.FnExactSubgroupCosetCount", spec := "fnExactSubgroupCosetCount", unfollowed := true, recurses := true, apart := false }
def FnExactSubgroupCosetCountSaid : Prop := fnExactSubgroupCosetCountRow.holds Try.pinned (OpenSpec.ofChange fnExactSubgroupCosetCountSpec)

/-- ITS FALSE NEIGHBOUR: 'it returns false'. Refute it at one input. -/
def fnExactSubgroupCosetCountWrong : ChangeSpec := { name := "fnExactSubgroupCosetCount", fn := fun _ => fun
  | [d1, d2] => { results := [.lit (.bool false)], args := [d1, d2] }
  | _ => none }
def FnExactSubgroupCosetCountWrongFalsely : Prop := fnExactSubgroupCosetCountRow.holds Try.pinned (OpenSpec.ofChange fnExactSubgroupCosetCountWrong)

/-- 'laws.FnExactInSubgroup': WHATEVER THE INPUT: true; the input reads as it did. -/
def fnExactInSubgroupSpec : ChangeSpec := { name := "fnExactInSubgroup", fn := fun _ => fun
  | [d1, d2, d3] => { results := [.lit (.bool true)], args := [d1, d2, d3] }
  | _ => none }
def fnExactInSubgroupRow : OpenClaim := { program := "ytebabhocakedaaa", sum := "ed113548318f98e01ccdb37c3b593b04baf29d23a77e59c4b46fb04b55517c83", func := "loop.example/g00855/laws.FnExactInSubgroup", spec := "fnExactInSubgroup", unfollowed := true, recurses := true, apart := false }
def FnExactInSubgroupSaid : Prop := fnExactInSubgroupRow.holds Try.pinned (OpenSpec.ofChange fnExactInSubgroupSpec)

/-- ITS FALSE NEIGHBOUR: 'it returns false'. Refute it at one input. -/
def fnExactInSubgroupWrong : ChangeSpec := { name := "fnExactInSubgroup", fn := fun _ => fun
  | [d1, d2, d3] => { results := [.lit (.bool false)], args := [d1, d2, d3] }
  | _ => none }
def FnExactInSubgroupWrongFalsely : Prop := fnExactInSubgroupRow.holds Try.pinned (OpenSpec.ofChange fnExactInSubgroupWrong)

/-- 'laws.FnExactSubsetPuzzle': WHATEVER THE INPUT: true; the input reads as it did. -/
def fnExactSubsetPuzzleSpec : ChangeSpec := { name := "fnExactSubsetPuzzle", fn := fun _ => fun
  | [d1, d2] => { results := [.lit (.bool true)], args := [d1, d2] }
  | _ => none }
def fnExactSubsetPuzzleRow : OpenClaim := { program := "ytebabhocakedaaa", sum := "ed113548318f98e01ccdb37c3b593b04baf29d23a77e59c4b46fb04b55517c83", func := "loop.example/g00855/laws.FnExactSubsetPuzzle", spec := "fnExactSubsetPuzzle", unfollowed := true, recurses := true, apart := false }
def FnExactSubsetPuzzleSaid : Prop := fnExactSubsetPuzzleRow.holds Try.pinned (OpenSpec.ofChange fnExactSubsetPuzzleSpec)

/-- ITS FALSE NEIGHBOUR: 'it returns false'. Refute it at one input. -/
def fnExactSubsetPuzzleWrong : ChangeSpec := { name := "fnExactSubsetPuzzle", fn := fun _ => fun
  | [d1, d2] => { results := [.lit (.bool false)], args := [d1, d2] }
  | _ => none }
def FnExactSubsetPuzzleWrongFalsely : Prop := fnExactSubsetPuzzleRow.holds Try.pinned (OpenSpec.ofChange fnExactSubsetPuzzleWrong)

/-- 'laws.FnExactSatisfiedGoals': WHATEVER THE INPUT: true; the input reads as it did. -/
def fnExactSatisfiedGoalsSpec : ChangeSpec := { name := "fnExactSatisfiedGoals", fn := fun _ => fun
  | [d1, d2, d3] => { results := [.lit (.bool true)], args := [d1, d2, d3] }
  | _ => none }
def fnExactSatisfiedGoalsRow : OpenClaim := { program := "ytebabhocakedaaa", sum := "ed113548318f98e01ccdb37c3b593b04baf29d23a77e59c4b46fb04b55517c83", func := "loop.example/g00855/laws.FnExactSatisfiedGoals", spec := "fnExactSatisfiedGoals", unfollowed := true, recurses := true, apart := false }
def FnExactSatisfiedGoalsSaid : Prop := fnExactSatisfiedGoalsRow.holds Try.pinned (OpenSpec.ofChange fnExactSatisfiedGoalsSpec)

/-- ITS FALSE NEIGHBOUR: 'it returns false'. Refute it at one input. -/
def fnExactSatisfiedGoalsWrong : ChangeSpec := { name := "fnExactSatisfiedGoals", fn := fun _ => fun
  | [d1, d2, d3] => { results := [.lit (.bool false)], args := [d1, d2, d3] }
  | _ => none }
def FnExactSatisfiedGoalsWrongFalsely : Prop := fnExactSatisfiedGoalsRow.holds Try.pinned (OpenSpec.ofChange fnExactSatisfiedGoalsWrong)

/-- 'laws.FnExactIsMethodSolution': WHATEVER THE INPUT: true; the input reads as it did. -/
def fnExactIsMethodSolutionSpec : ChangeSpec := { name := "fnExactIsMethodSolution", fn := fun _ => fun
  | [d1, d2, d3, d4] => { results := [.lit (.bool true)], args := [d1, d2, d3, d4] }
  | _ => none }
def fnExactIsMethodSolutionRow : OpenClaim := { program := "ytebabhocakedaaa", sum := "ed113548318f98e01ccdb37c3b593b04baf29d23a77e59c4b46fb04b55517c83", func := "loop.example/g00855/laws.FnExactIsMethodSolution", spec := "fnExactIsMethodSolution", unfollowed := true, recurses := true, apart := false }
def FnExactIsMethodSolutionSaid : Prop := fnExactIsMethodSolutionRow.holds Try.pinned (OpenSpec.ofChange fnExactIsMethodSolutionSpec)

/-- ITS FALSE NEIGHBOUR: 'it returns false'. Refute it at one input. -/
def fnExactIsMethodSolutionWrong : ChangeSpec := { name := "fnExactIsMethodSolution", fn := fun _ => fun
  | [d1, d2, d3, d4] => { results := [.lit (.bool false)], args := [d1, d2, d3, d4] }
  | _ => none }
def FnExactIsMethodSolutionWrongFalsely : Prop := fnExactIsMethodSolutionRow.holds Try.pinned (OpenSpec.ofChange fnExactIsMethodSolutionWrong)

/-- 'laws.FnExactStateClassCount': WHATEVER THE INPUT: true; the input reads as it did. -/
def fnExactStateClassCountSpec : ChangeSpec := { name := "fnExactStateClassCount", fn := fun _ => fun
  | [d] => { results := [.lit (.bool true)], args := [d] }
  | _ => none }
def fnExactStateClassCountRow : OpenClaim := { program := "ytebabhocakedaaa", sum := "ed113548318f98e01ccdb37c3b593b04baf29d23a77e59c4b46fb04b55517c83", func := "loop.example/g00855/laws.FnExactStateClassCount", spec := "fnExactStateClassCount", unfollowed := true, recurses := true, apart := false }
def FnExactStateClassCountSaid : Prop := fnExactStateClassCountRow.holds Try.pinned (OpenSpec.ofChange fnExactStateClassCountSpec)

/-- ITS FALSE NEIGHBOUR: 'it returns false'. Refute it at one input. -/
def fnExactStateClassCountWrong : ChangeSpec := { name := "fnExactStateClassCount", fn := fun _ => fun
  | [d] => { results := [.lit (.bool false)], args := [d] }
  | _ => none }
def FnExactStateClassCountWrongFalsely : Prop := fnExactStateClassCountRow.holds Try.pinned (OpenSpec.ofChange fnExactStateClassCountWrong)

/-- 'laws.FnExactPhaseTwoWord': WHATEVER THE INPUT: true; the input reads as it did. -/
def fnExactPhaseTwoWordSpec : ChangeSpec := { name := "fnExactPhaseTwoWord", fn := fun _ => fun
  | [d1, d2, d3] => { results := [.lit (.bool true)], args := [d1, d2, d3] }
  | _ => none }
def fnExactPhaseTwoWordRow : OpenClaim := { program := "ytebabhocakedaaa", sum := "ed113548318f98e01ccdb37c3b593b04baf29d23a77e59c4b46fb04b55517c83", func := "loop.example/g00855/laws.FnExactPhaseTwoWord", spec := "fnExactPhaseTwoWord", unfollowed := true, recurses := true, apart := false }
def FnExactPhaseTwoWordSaid : Prop := fnExactPhaseTwoWordRow.holds Try.pinned (OpenSpec.ofChange fnExactPhaseTwoWordSpec)

/-- ITS FALSE NEIGHBOUR: 'it returns false'. Refute it at one input. -/
def fnExactPhaseTwoWordWrong : ChangeSpec := { name := "fnExactPhaseTwoWord", fn := fun _ => fun
  | [d1, d2, d3] => { results := [.lit (.bool false)], args := [d1, d2, d3] }
  | _ => none }
def FnExactPhaseTwoWordWrongFalsely : Prop := fnExactPhaseTwoWordRow.holds Try.pinned (OpenSpec.ofChange fnExactPhaseTwoWordWrong)

/-- 'laws.FnExactStageWord': WHATEVER THE INPUT: true; the input reads as it did. -/
def fnExactStageWordSpec : ChangeSpec := { name := "fnExactStageWord", fn := fun _ => fun
  | [d1, d2, d3] => { results := [.lit (.bool true)], args := [d1, d2, d3] }
  | _ => none }
def fnExactStageWordRow : OpenClaim := { program := "ytebabhocakedaaa", sum := "ed113548318f98e01ccdb37c3b593b04baf29d23a77e59c4b46fb04b55517c83", func := "loop.example/g00855/laws.FnExactStageWord", spec := "fnExactStageWord", unfollowed := true, recurses := true, apart := false }
def FnExactStageWordSaid : Prop := fnExactStageWordRow.holds Try.pinned (OpenSpec.ofChange fnExactStageWordSpec)

/-- ITS FALSE NEIGHBOUR: 'it returns false'. Refute it at one input. -/
def fnExactStageWordWrong : ChangeSpec := { name := "fnExactStageWord", fn := fun _ => fun
  | [d1, d2, d3] => { results := [.lit (.bool false)], args := [d1, d2, d3] }
  | _ => none }
def FnExactStageWordWrongFalsely : Prop := fnExactStageWordRow.holds Try.pinned (OpenSpec.ofChange fnExactStageWordWrong)

/-- 'laws.FnExactPhaseOneWord': WHATEVER THE INPUT: true; the input reads as it did. -/
def fnExactPhaseOneWordSpec : ChangeSpec := { name := "fnExactPhaseOneWord", fn := fun _ => fun
  | [d1, d2, d3] => { results := [.lit (.bool true)], args := [d1, d2, d3] }
  | _ => none }
def fnExactPhaseOneWordRow : OpenClaim := { program := "ytebabhocakedaaa", sum := "ed113548318f98e01ccdb37c3b593b04baf29d23a77e59c4b46fb04b55517c83", func := "loop.example/g00855/laws.FnExactPhaseOneWord", spec := "fnExactPhaseOneWord", unfollowed := true, recurses := true, apart := false }
def FnExactPhaseOneWordSaid : Prop := fnExactPhaseOneWordRow.holds Try.pinned (OpenSpec.ofChange fnExactPhaseOneWordSpec)

/-- ITS FALSE NEIGHBOUR: 'it returns false'. Refute it at one input. -/
def fnExactPhaseOneWordWrong : ChangeSpec := { name := "fnExactPhaseOneWord", fn := fun _ => fun
  | [d1, d2, d3] => { results := [.lit (.bool false)], args := [d1, d2, d3] }
  | _ => none }
def FnExactPhaseOneWordWrongFalsely : Prop := fnExactPhaseOneWordRow.holds Try.pinned (OpenSpec.ofChange fnExactPhaseOneWordWrong)

/-- 'laws.FnExactSolveTwoPhase': WHATEVER THE INPUT: true; the input reads as it did. -/
def fnExactSolveTwoPhaseSpec : ChangeSpec := { name := "fnExactSolveTwoPhase", fn := fun _ => fun
  | [d1, d2, d3] => { results := [.lit (.bool true)], args := [d1, d2, d3] }
  | _ => none }
def fnExactSolveTwoPhaseRow : OpenClaim := { program := "ytebabhocakedaaa", sum := "ed113548318f98e01ccdb37c3b593b04baf29d23a77e59c4b46fb04b55517c83", func := "loop.example/g00855/laws.FnExactSolveTwoPhase", spec := "fnExactSolveTwoPhase", unfollowed := true, recurses := true, apart := false }
def FnExactSolveTwoPhaseSaid : Prop := fnExactSolveTwoPhaseRow.holds Try.pinned (OpenSpec.ofChange fnExactSolveTwoPhaseSpec)

/-- ITS FALSE NEIGHBOUR: 'it returns false'. Refute it at one input. -/
def fnExactSolveTwoPhaseWrong : ChangeSpec := { name := "fnExactSolveTwoPhase", fn := fun _ => fun
  | [d1, d2, d3] => { results := [.lit (.bool false)], args := [d1, d2, d3] }
  | _ => none }
def FnExactSolveTwoPhaseWrongFalsely : Prop := fnExactSolveTwoPhaseRow.holds Try.pinned (OpenSpec.ofChange fnExactSolveTwoPhaseWrong)

/- THE SECOND FORM. 'bulk': how many values and letters a reading holds, each counted each time it is reached (what is shared counts as often as it is met; a slice's spare places count too). A statement '..UptoSaid' is the law's where the arguments, and the package variables that the reading takes, are together of bulk at most 1048576: NARROWER than '..Said'. Prove '..Said' where nothing that the law and all that it calls make is longer than what came in: it says more and counts as full. Else prove '..UptoSaid'. A law counts once. -/
mutual
def uptoBulk {H : Type} : DataW H → Nat
  | .lit (.string bytes) => bytes.length + 1
  | .lit _ => 1
  | .nil => 1
  | .ptr d => uptoBulk d + 1
  | .slice elems spare => uptoBulkAll elems + uptoBulkAll spare + 1
  | .agg parts => uptoBulkAll parts + 1
  | .iface _ d => uptoBulk d + 1
  | .map entries => uptoBulkEntries entries + 1
  | .held _ => 1
def uptoBulkAll {H : Type} : List (DataW H) → Nat
  | [] => 0
  | d :: r => uptoBulk d + uptoBulkAll r
def uptoBulkEntries {H : Type} : List (Lit × DataW H) → Nat
  | [] => 0
  | x :: r => uptoBulkEntry x + uptoBulkEntries r
def uptoBulkEntry {H : Type} : Lit × DataW H → Nat
  | (.string bytes, d) => bytes.length + uptoBulk d + 1
  | (_, d) => uptoBulk d + 1
 end
def uptoSmall : (H : Type) → List (DataW H) → Bool := fun _ ds => decide (uptoBulkAll ds ≤ 1048576)
def OpenSpec.upto (s : _root_.Go.ChangeSpec) : _root_.Go.OpenSpec := { _root_.Go.OpenSpec.ofChange s with cond := some uptoSmall }

/-- 'laws.FnExactSatisfiesGoal', WHERE WHAT IT READS IS OF BULK AT MOST 1048576: true; the input reads as it did. -/
def fnExactSatisfiesGoalUptoRow : OpenClaim := { program := "ytebabhocakedaaa", sum := "ed113548318f98e01ccdb37c3b593b04baf29d23a77e59c4b46fb04b55517c83", func := "loop.example/g00855/laws.FnExactSatisfiesGoal", spec := "fnExactSatisfiesGoal", unfollowed := true, recurses := true, apart := false, narrowed := true }
def FnExactSatisfiesGoalUptoSaid : Prop := fnExactSatisfiesGoalUptoRow.holds Try.pinned (OpenSpec.upto fnExactSatisfiesGoalSpec)

/-- 'laws.FnExactStatesWithPattern', WHERE WHAT IT READS IS OF BULK AT MOST 1048576: true; the input reads as it did. -/
def fnExactStatesWithPatternUptoRow : OpenClaim := { program := "ytebabhocakedaaa", sum := "ed113548318f98e01ccdb37c3b593b04baf29d23a77e59c4b46fb04b55517c83", func := "loop.example/g00855/laws.FnExactStatesWithPattern", spec := "fnExactStatesWithPattern", unfollowed := true, recurses := true, apart := false, narrowed := true }
def FnExactStatesWithPatternUptoSaid : Prop := fnExactStatesWithPatternUptoRow.holds Try.pinned (OpenSpec.upto fnExactStatesWithPatternSpec)

/-- 'laws.FnExactSubgroupCosetCount', WHERE WHAT IT READS IS OF BULK AT MOST 1048576: true; the input reads as it did. -/
def fnExactSubgroupCosetCountUptoRow : OpenClaim := { program := "ytebabhocakedaaa", sum := "ed113548318f98e01ccdb37c3b593b04baf29d23a77e59c4b46fb04b55517c83", func := "loop.example/g00855/laws.FnExactSubgroupCosetCount", spec := "fnExactSubgroupCosetCount", unfollowed := true, recurses := true, apart := false, narrowed := true }
def FnExactSubgroupCosetCountUptoSaid : Prop := fnExactSubgroupCosetCountUptoRow.holds Try.pinned (OpenSpec.upto fnExactSubgroupCosetCountSpec)

/-- 'laws.FnExactInSubgroup', WHERE WHAT IT READS IS OF BULK AT MOST 1048576: true; the input reads as it did. -/
def fnExactInSubgroupUptoRow : OpenClaim := { program := "ytebabhocakedaaa", sum := "ed113548318f98e01ccdb37c3b593b04baf29d23a77e59c4b46fb04b55517c83", func := "loop.example/g00855/laws.FnExactInSubgroup", spec := "fnExactInSubgroup", unfollowed := true, recurses := true, apart := false, narrowed := true }
def FnExactInSubgroupUptoSaid : Prop := fnExactInSubgroupUptoRow.holds Try.pinned (OpenSpec.upto fnExactInSubgroupSpec)

/-- 'laws.FnExactSubsetPuzzle', WHERE WHAT IT READS IS OF BULK AT MOST 1048576: true; the input reads as it did. -/
def fnExactSubsetPuzzleUptoRow : OpenClaim := { program := "ytebabhocakedaaa", sum := "ed113548318f98e01ccdb37c3b593b04baf29d23a77e59c4b46fb04b55517c83", func := "loop.example/g00855/laws.FnExactSubsetPuzzle", spec := "fnExactSubsetPuzzle", unfollowed := true, recurses := true, apart := false, narrowed := true }
def FnExactSubsetPuzzleUptoSaid : Prop := fnExactSubsetPuzzleUptoRow.holds Try.pinned (OpenSpec.upto fnExactSubsetPuzzleSpec)

/-- 'laws.FnExactSatisfiedGoals', WHERE WHAT IT READS IS OF BULK AT MOST 1048576: true; the input reads as it did. -/
def fnExactSatisfiedGoalsUptoRow : OpenClaim := { program := "ytebabhocakedaaa", sum := "ed113548318f98e01ccdb37c3b593b04baf29d23a77e59c4b46fb04b55517c83", func := "loop.example/g00855/laws.FnExactSatisfiedGoals", spec := "fnExactSatisfiedGoals", unfollowed := true, recurses := true, apart := false, narrowed := true }
def FnExactSatisfiedGoalsUptoSaid : Prop := fnExactSatisfiedGoalsUptoRow.holds Try.pinned (OpenSpec.upto fnExactSatisfiedGoalsSpec)

/-- 'laws.FnExactIsMethodSolution', WHERE WHAT IT READS IS OF BULK AT MOST 1048576: true; the input reads as it did. -/
def fnExactIsMethodSolutionUptoRow : OpenClaim := { program := "ytebabhocakedaaa", sum := "ed113548318f98e01ccdb37c3b593b04baf29d23a77e59c4b46fb04b55517c83", func := "loop.example/g00855/laws.FnExactIsMethodSolution", spec := "fnExactIsMethodSolution", unfollowed := true, recurses := true, apart := false, narrowed := true }
def FnExactIsMethodSolutionUptoSaid : Prop := fnExactIsMethodSolutionUptoRow.holds Try.pinned (OpenSpec.upto fnExactIsMethodSolutionSpec)

/-- 'laws.FnExactStateClassCount', WHERE WHAT IT READS IS OF BULK AT MOST 1048576: true; the input reads as it did. -/
def fnExactStateClassCountUptoRow : OpenClaim := { program := "ytebabhocakedaaa", sum := "ed113548318f98e01ccdb37c3b593b04baf29d23a77e59c4b46fb04b55517c83", func := "loop.example/g00855/laws.FnExactStateClassCount", spec := "fnExactStateClassCount", unfollowed := true, recurses := true, apart := false, narrowed := true }
def FnExactStateClassCountUptoSaid : Prop := fnExactStateClassCountUptoRow.holds Try.pinned (OpenSpec.upto fnExactStateClassCountSpec)

/-- 'laws.FnExactPhaseTwoWord', WHERE WHAT IT READS IS OF BULK AT MOST 1048576: true; the input reads as it did. -/
def fnExactPhaseTwoWordUptoRow : OpenClaim := { program := "ytebabhocakedaaa", sum := "ed113548318f98e01ccdb37c3b593b04baf29d23a77e59c4b46fb04b55517c83", func := "loop.example/g00855/laws.FnExactPhaseTwoWord", spec := "fnExactPhaseTwoWord", unfollowed := true, recurses := true, apart := false, narrowed := true }
def FnExactPhaseTwoWordUptoSaid : Prop := fnExactPhaseTwoWordUptoRow.holds Try.pinned (OpenSpec.upto fnExactPhaseTwoWordSpec)

/-- 'laws.FnExactStageWord', WHERE WHAT IT READS IS OF BULK AT MOST 1048576: true; the input reads as it did. -/
def fnExactStageWordUptoRow : OpenClaim := { program := "ytebabhocakedaaa", sum := "ed113548318f98e01ccdb37c3b593b04baf29d23a77e59c4b46fb04b55517c83", func := "loop.example/g00855/laws.FnExactStageWord", spec := "fnExactStageWord", unfollowed := true, recurses := true, apart := false, narrowed := true }
def FnExactStageWordUptoSaid : Prop := fnExactStageWordUptoRow.holds Try.pinned (OpenSpec.upto fnExactStageWordSpec)

/-- 'laws.FnExactPhaseOneWord', WHERE WHAT IT READS IS OF BULK AT MOST 1048576: true; the input reads as it did. -/
def fnExactPhaseOneWordUptoRow : OpenClaim := { program := "ytebabhocakedaaa", sum := "ed113548318f98e01ccdb37c3b593b04baf29d23a77e59c4b46fb04b55517c83", func := "loop.example/g00855/laws.FnExactPhaseOneWord", spec := "fnExactPhaseOneWord", unfollowed := true, recurses := true, apart := false, narrowed := true }
def FnExactPhaseOneWordUptoSaid : Prop := fnExactPhaseOneWordUptoRow.holds Try.pinned (OpenSpec.upto fnExactPhaseOneWordSpec)

/-- 'laws.FnExactSolveTwoPhase', WHERE WHAT IT READS IS OF BULK AT MOST 1048576: true; the input reads as it did. -/
def fnExactSolveTwoPhaseUptoRow : OpenClaim := { program := "ytebabhocakedaaa", sum := "ed113548318f98e01ccdb37c3b593b04baf29d23a77e59c4b46fb04b55517c83", func := "loop.example/g00855/laws.FnExactSolveTwoPhase", spec := "fnExactSolveTwoPhase", unfollowed := true, recurses := true, apart := false, narrowed := true }
def FnExactSolveTwoPhaseUptoSaid : Prop := fnExactSolveTwoPhaseUptoRow.holds Try.pinned (OpenSpec.upto fnExactSolveTwoPhaseSpec)

end Rows
end Go.Proofs.Ytebabhocakedaaa
