/-
  No cell of these rows narrows 'for every input' (looked for: loops, veiled, ifaces, maps, wideKeys, modest, calm, conditions, laid).
  DERIVED. THE GIVEN ROWS OF THIS SEAT. 7 by the template 'for every input the law returns true; each argument reads behind the call as it read before'; 0 by the template 'total and deterministic' (their statements: YtkkdpknjohcekaaTotals.lean).
  GIVEN WITH THE SEED: the statements are not yours to turn. If you find one false, say at which input.
  Laid BY PROGRAM, IN A SANDBOX (cutbox-rows.mjs): the forced cells as the released guide's own fill.sh prints them over the translation 19f6c311f465e9c0… (all of the seat's roots in one cut). By AI agents, Wed Nov 11 2026. No macro, syntax, notation, axiom, sorry.
-/
import Derived.Test.YtkkdpknjohcekaaChecked
import GoSem.Claim
import GoSem.ClaimJoined
import GoSem.ClaimMapViews
import Derived.JoinedTies
import Derived.KernelRfl
namespace Go.Proofs.Ytkkdpknjohcekaa
/- THE CELL 'sum', in the pinned program and in every row, IS THE sha256 OF THE DUMP (.gsa) THAT YtkkdpknjohcekaaProg.lean LOADS. Nothing in Lean hashes anything: it is a label: what it is worth is what the hold of that sum in a sandbox is worth. -/
noncomputable def Try.pinned : Pinned := { name := "ytkkdpknjohcekaa", sum := "19f6c311f465e9c0624556cb656df38b047c1d104a592da3bfd855c21b179746", checked := Try.checked }
namespace Rows
def none {H : Type} : Left H := { results := [], args := [] }

/-- 'laws.FnSymmetries': WHATEVER THE INPUT: true; the input reads as it did. -/
def fnSymmetriesSpec : ChangeSpec := { name := "fnSymmetries", fn := fun _ => fun
  | [d] => { results := [.lit (.bool true)], args := [d] }
  | _ => none }
def fnSymmetriesRow : OpenClaim := { program := "ytkkdpknjohcekaa", sum := "19f6c311f465e9c0624556cb656df38b047c1d104a592da3bfd855c21b179746", func := "loop.example/g00855/laws.FnSymmetries", spec := "fnSymmetries", unfollowed := true, recurses := true, apart := false }
def FnSymmetriesSaid : Prop := fnSymmetriesRow.holds Try.pinned (OpenSpec.ofChange fnSymmetriesSpec)

/-- ITS FALSE NEIGHBOUR: 'it returns false'. Refute it at one input. -/
def fnSymmetriesWrong : ChangeSpec := { name := "fnSymmetries", fn := fun _ => fun
  | [d] => { results := [.lit (.bool false)], args := [d] }
  | _ => none }
def FnSymmetriesWrongFalsely : Prop := fnSymmetriesRow.holds Try.pinned (OpenSpec.ofChange fnSymmetriesWrong)

/-- 'laws.FnStateClasses': WHATEVER THE INPUT: true; the input reads as it did. -/
def fnStateClassesSpec : ChangeSpec := { name := "fnStateClasses", fn := fun _ => fun
  | [d] => { results := [.lit (.bool true)], args := [d] }
  | _ => none }
def fnStateClassesRow : OpenClaim := { program := "ytkkdpknjohcekaa", sum := "19f6c311f465e9c0624556cb656df38b047c1d104a592da3bfd855c21b179746", func := "loop.example/g00855/laws.FnStateClasses", spec := "fnStateClasses", unfollowed := true, recurses := true, apart := false }
def FnStateClassesSaid : Prop := fnStateClassesRow.holds Try.pinned (OpenSpec.ofChange fnStateClassesSpec)

/-- ITS FALSE NEIGHBOUR: 'it returns false'. Refute it at one input. -/
def fnStateClassesWrong : ChangeSpec := { name := "fnStateClasses", fn := fun _ => fun
  | [d] => { results := [.lit (.bool false)], args := [d] }
  | _ => none }
def FnStateClassesWrongFalsely : Prop := fnStateClassesRow.holds Try.pinned (OpenSpec.ofChange fnStateClassesWrong)

/-- 'laws.FnTables': WHATEVER THE INPUT: true; the input reads as it did. -/
def fnTablesSpec : ChangeSpec := { name := "fnTables", fn := fun _ => fun
  | [d] => { results := [.lit (.bool true)], args := [d] }
  | _ => none }
def fnTablesRow : OpenClaim := { program := "ytkkdpknjohcekaa", sum := "19f6c311f465e9c0624556cb656df38b047c1d104a592da3bfd855c21b179746", func := "loop.example/g00855/laws.FnTables", spec := "fnTables", unfollowed := true, recurses := true, apart := false }
def FnTablesSaid : Prop := fnTablesRow.holds Try.pinned (OpenSpec.ofChange fnTablesSpec)

/-- ITS FALSE NEIGHBOUR: 'it returns false'. Refute it at one input. -/
def fnTablesWrong : ChangeSpec := { name := "fnTables", fn := fun _ => fun
  | [d] => { results := [.lit (.bool false)], args := [d] }
  | _ => none }
def FnTablesWrongFalsely : Prop := fnTablesRow.holds Try.pinned (OpenSpec.ofChange fnTablesWrong)

/-- 'laws.FnSubgroups': WHATEVER THE INPUT: true; the input reads as it did. -/
def fnSubgroupsSpec : ChangeSpec := { name := "fnSubgroups", fn := fun _ => fun
  | [d] => { results := [.lit (.bool true)], args := [d] }
  | _ => none }
def fnSubgroupsRow : OpenClaim := { program := "ytkkdpknjohcekaa", sum := "19f6c311f465e9c0624556cb656df38b047c1d104a592da3bfd855c21b179746", func := "loop.example/g00855/laws.FnSubgroups", spec := "fnSubgroups", unfollowed := true, recurses := true, apart := false }
def FnSubgroupsSaid : Prop := fnSubgroupsRow.holds Try.pinned (OpenSpec.ofChange fnSubgroupsSpec)

/-- ITS FALSE NEIGHBOUR: 'it returns false'. Refute it at one input. -/
def fnSubgroupsWrong : ChangeSpec := { name := "fnSubgroups", fn := fun _ => fun
  | [d] => { results := [.lit (.bool false)], args := [d] }
  | _ => none }
def FnSubgroupsWrongFalsely : Prop := fnSubgroupsRow.holds Try.pinned (OpenSpec.ofChange fnSubgroupsWrong)

/-- 'laws.FnCommutatorMacros': WHATEVER THE INPUT: true; the input reads as it did. -/
def fnCommutatorMacrosSpec : ChangeSpec := { name := "fnCommutatorMacros", fn := fun _ => fun
  | [d] => { results := [.lit (.bool true)], args := [d] }
  | _ => none }
def fnCommutatorMacrosRow : OpenClaim := { program := "ytkkdpknjohcekaa", sum := "19f6c311f465e9c0624556cb656df38b047c1d104a592da3bfd855c21b179746", func := "loop.example/g00855/laws.FnCommutatorMacros", spec := "fnCommutatorMacros", unfollowed := true, recurses := true, apart := false }
def FnCommutatorMacrosSaid : Prop := fnCommutatorMacrosRow.holds Try.pinned (OpenSpec.ofChange fnCommutatorMacrosSpec)

/-- ITS FALSE NEIGHBOUR: 'it returns false'. Refute it at one input. -/
def fnCommutatorMacrosWrong : ChangeSpec := { name := "fnCommutatorMacros", fn := fun _ => fun
  | [d] => { results := [.lit (.bool false)], args := [d] }
  | _ => none }
def FnCommutatorMacrosWrongFalsely : Prop := fnCommutatorMacrosRow.holds Try.pinned (OpenSpec.ofChange fnCommutatorMacrosWrong)

/-- 'laws.FnBoundStatistics': WHATEVER THE INPUT: true; the input reads as it did. -/
def fnBoundStatisticsSpec : ChangeSpec := { name := "fnBoundStatistics", fn := fun _ => fun
  | [d] => { results := [.lit (.bool true)], args := [d] }
  | _ => none }
def fnBoundStatisticsRow : OpenClaim := { program := "ytkkdpknjohcekaa", sum := "19f6c311f465e9c0624556cb656df38b047c1d104a592da3bfd855c21b179746", func := "loop.example/g00855/laws.FnBoundStatistics", spec := "fnBoundStatistics", unfollowed := true, recurses := true, apart := false }
def FnBoundStatisticsSaid : Prop := fnBoundStatisticsRow.holds Try.pinned (OpenSpec.ofChange fnBoundStatisticsSpec)

/-- ITS FALSE NEIGHBOUR: 'it returns false'. Refute it at one input. -/
def fnBoundStatisticsWrong : ChangeSpec := { name := "fnBoundStatistics", fn := fun _ => fun
  | [d] => { results := [.lit (.bool false)], args := [d] }
  | _ => none }
def FnBoundStatisticsWrongFalsely : Prop := fnBoundStatisticsRow.holds Try.pinned (OpenSpec.ofChange fnBoundStatisticsWrong)

/-- 'laws.FnTwoPhase': WHATEVER THE INPUT: true; the input reads as it did. -/
def fnTwoPhaseSpec : ChangeSpec := { name := "fnTwoPhase", fn := fun _ => fun
  | [d] => { results := [.lit (.bool true)], args := [d] }
  | _ => none }
def fnTwoPhaseRow : OpenClaim := { program := "ytkkdpknjohcekaa", sum := "19f6c311f465e9c0624556cb656df38b047c1d104a592da3bfd855c21b179746", func := "loop.example/g00855/laws.FnTwoPhase", spec := "fnTwoPhase", unfollowed := true, recurses := true, apart := false }
def FnTwoPhaseSaid : Prop := fnTwoPhaseRow.holds Try.pinned (OpenSpec.ofChange fnTwoPhaseSpec)

/-- ITS FALSE NEIGHBOUR: 'it returns false'. Refute it at one input. -/
def fnTwoPhaseWrong : ChangeSpec := { name := "fnTwoPhase", fn := fun _ => fun
  | [d] => { results := [.lit (.bool false)], args := [d] }
  | _ => none }
def FnTwoPhaseWrongFalsely : Prop := fnTwoPhaseRow.holds Try.pinned (OpenSpec.ofChange fnTwoPhaseWrong)

/- THE SECOND FORM. 'bulk': how many values and letters a reading holds, each counted each time it is reached (what is shared counts as often as it is met; a slice's spare places count too). A statement '..UptoSaid' is the law's where the arguments, and the package variables that the reading takes, are together of bulk at most 1048576: NARROWER than '..Said'. Prove '..Said' where nothing that the law and all that it calls make is longer than what came in: it says more and counts as full. Else prove '..UptoSaid'. A law counts once. -/
mutual
def uptoBulk {H : Type} : DataW H → Nat
  | .lit (.string bytes) => bytes.length + 1
  | .lit _ => 1
  | .nil => 1
  | .ptr d => uptoBulk d + 1
  | .slice elems spare => uptoBulkAll elems + uptoBulkAll spare + 1
  | .agg parts => uptoBulkAll parts + 1
  | .iface _ d => uptoBulk d + 1
  | .map entries => uptoBulkEntries entries + 1
  | .held _ => 1
def uptoBulkAll {H : Type} : List (DataW H) → Nat
  | [] => 0
  | d :: r => uptoBulk d + uptoBulkAll r
def uptoBulkEntries {H : Type} : List (Lit × DataW H) → Nat
  | [] => 0
  | x :: r => uptoBulkEntry x + uptoBulkEntries r
def uptoBulkEntry {H : Type} : Lit × DataW H → Nat
  | (.string bytes, d) => bytes.length + uptoBulk d + 1
  | (_, d) => uptoBulk d + 1
 end
def uptoSmall : (H : Type) → List (DataW H) → Bool := fun _ ds => decide (uptoBulkAll ds ≤ 1048576)
def OpenSpec.upto (s : _root_.Go.ChangeSpec) : _root_.Go.OpenSpec := { _root_.Go.OpenSpec.ofChange s with cond := some uptoSmall }

/-- 'laws.FnSymmetries', WHERE WHAT IT READS IS OF BULK AT MOST 1048576: true; the input reads as it did. -/
def fnSymmetriesUptoRow : OpenClaim := { program := "ytkkdpknjohcekaa", sum := "19f6c311f465e9c0624556cb656df38b047c1d104a592da3bfd855c21b179746", func := "loop.example/g00855/laws.FnSymmetries", spec := "fnSymmetries", unfollowed := true, recurses := true, apart := false, narrowed := true }
def FnSymmetriesUptoSaid : Prop := fnSymmetriesUptoRow.holds Try.pinned (OpenSpec.upto fnSymmetriesSpec)

/-- 'laws.FnStateClasses', WHERE WHAT IT READS IS OF BULK AT MOST 1048576: true; the input reads as it did. -/
def fnStateClassesUptoRow : OpenClaim := { program := "ytkkdpknjohcekaa", sum := "19f6c311f465e9c0624556cb656df38b047c1d104a592da3bfd855c21b179746", func := "loop.example/g00855/laws.FnStateClasses", spec := "fnStateClasses", unfollowed := true, recurses := true, apart := false, narrowed := true }
def FnStateClassesUptoSaid : Prop := fnStateClassesUptoRow.holds Try.pinned (OpenSpec.upto fnStateClassesSpec)

/-- 'laws.FnTables', WHERE WHAT IT READS IS OF BULK AT MOST 1048576: true; the input reads as it did. -/
def fnTablesUptoRow : OpenClaim := { program := "ytkkdpknjohcekaa", sum := "19f6c311f465e9c0624556cb656df38b047c1d104a592da3bfd855c21b179746", func := "loop.example/g00855/laws.FnTables", spec := "fnTables", unfollowed := true, recurses := true, apart := false, narrowed := true }
def FnTablesUptoSaid : Prop := fnTablesUptoRow.holds Try.pinned (OpenSpec.upto fnTablesSpec)

/-- 'laws.FnSubgroups', WHERE WHAT IT READS IS OF BULK AT MOST 1048576: true; the input reads as it did. -/
def fnSubgroupsUptoRow : OpenClaim := { program := "ytkkdpknjohcekaa", sum := "19f6c311f465e9c0624556cb656df38b047c1d104a592da3bfd855c21b179746", func := "loop.example/g00855/laws.FnSubgroups", spec := "fnSubgroups", unfollowed := true, recurses := true, apart := false, narrowed := true }
def FnSubgroupsUptoSaid : Prop := fnSubgroupsUptoRow.holds Try.pinned (OpenSpec.upto fnSubgroupsSpec)

/-- 'laws.FnCommutatorMacros', WHERE WHAT IT READS IS OF BULK AT MOST 1048576: true; the input reads as it did. -/
def fnCommutatorMacrosUptoRow : OpenClaim := { program := "ytkkdpknjohcekaa", sum := "19f6c311f465e9c0624556cb656df38b047c1d104a592da3bfd855c21b179746", func := "loop.example/g00855/laws.FnCommutatorMacros", spec := "fnCommutatorMacros", unfollowed := true, recurses := true, apart := false, narrowed := true }
def FnCommutatorMacrosUptoSaid : Prop := fnCommutatorMacrosUptoRow.holds Try.pinned (OpenSpec.upto fnCommutatorMacrosSpec)

/-- 'laws.FnBoundStatistics', WHERE WHAT IT READS IS OF BULK AT MOST 1048576: true; the input reads as it did. -/
def fnBoundStatisticsUptoRow : OpenClaim := { program := "ytkkdpknjohcekaa", sum := "19f6c311f465e9c0624556cb656df38b047c1d104a592da3bfd855c21b179746", func := "loop.example/g00855/laws.FnBoundStatistics", spec := "fnBoundStatistics", unfollowed := true, recurses := true, apart := false, narrowed := true }
def FnBoundStatisticsUptoSaid : Prop := fnBoundStatisticsUptoRow.holds Try.pinned (OpenSpec.upto fnBoundStatisticsSpec)

/-- 'laws.FnTwoPhase', WHERE WHAT IT READS IS OF BULK AT MOST 1048576: true; the input reads as it did. -/
def fnTwoPhaseUptoRow : OpenClaim := { program := "ytkkdpknjohcekaa", sum := "19f6c311f465e9c0624556cb656df38b047c1d104a592da3bfd855c21b179746", func := "loop.example/g00855/laws.FnTwoPhase", spec := "fnTwoPhase", unfollowed := true, recurses := true, apart := false, narrowed := true }
def FnTwoPhaseUptoSaid : Prop := fnTwoPhaseUptoRow.holds Try.pinned (OpenSpec.upto fnTwoPhaseSpec)

end Rows
end Go.Proofs.Ytkkdpknjohcekaa
