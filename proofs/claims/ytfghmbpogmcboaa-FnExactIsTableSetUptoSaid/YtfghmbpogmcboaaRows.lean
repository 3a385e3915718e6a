/-
  No cell of these rows narrows 'for every input' (looked for: loops, veiled, ifaces, maps, wideKeys, modest, calm, conditions, laid).
  DERIVED. THE GIVEN ROWS OF THIS SEAT. 11 by the template 'for every input the law returns true; each argument reads behind the call as it read before'; 0 by the template 'total and deterministic' (their statements: YtfghmbpogmcboaaTotals.lean).
  GIVEN WITH THE SEED: the statements are not yours to turn. If you find one false, say at which input.
  Laid BY PROGRAM, IN A SANDBOX (cutbox-rows.mjs): the forced cells as the released guide's own fill.sh prints them over the translation a4ca0c0b8b00d15c… (all of the seat's roots in one cut). By AI agents, Wed Nov 11 2026. No macro, syntax, notation, axiom, sorry.
-/
import Derived.Test.YtfghmbpogmcboaaChecked
import GoSem.Claim
import GoSem.ClaimJoined
import GoSem.ClaimMapViews
import Derived.JoinedTies
import Derived.KernelRfl
namespace Go.Proofs.Ytfghmbpogmcboaa
/- THE CELL 'sum', in the pinned program and in every row, IS THE sha256 OF THE DUMP (.gsa) THAT YtfghmbpogmcboaaProg.lean LOADS. Nothing in Lean hashes anything: it is a label: what it is worth is what the hold of that sum in a sandbox is worth. -/
noncomputable def Try.pinned : Pinned := { name := "ytfghmbpogmcboaa", sum := "a4ca0c0b8b00d15c644d73245f3cba265abb1e6e51bc787d52256d39d616a703", checked := Try.checked }
namespace Rows
def none {H : Type} : Left H := { results := [], args := [] }

/-- 'laws.FnExactAllowedLetters': WHATEVER THE INPUT: true; the input reads as it did. -/
def fnExactAllowedLettersSpec : ChangeSpec := { name := "fnExactAllowedLetters", fn := fun _ => fun
  | [d1, d2] => { results := [.lit (.bool true)], args := [d1, d2] }
  | _ => none }
def fnExactAllowedLettersRow : OpenClaim := { program := "ytfghmbpogmcboaa", sum := "a4ca0c0b8b00d15c644d73245f3cba265abb1e6e51bc787d52256d39d616a703", func := "loop.example/g00855/laws.FnExactAllowedLetters", spec := "fnExactAllowedLetters", unfollowed := true, recurses := true, apart := false }
def FnExactAllowedLettersSaid : Prop := fnExactAllowedLettersRow.holds Try.pinned (OpenSpec.ofChange fnExactAllowedLettersSpec)

/-- ITS FALSE NEIGHBOUR: 'it returns false'. Refute it at one input. -/
def fnExactAllowedLettersWrong : ChangeSpec := { name := "fnExactAllowedLetters", fn := fun _ => fun
  | [d1, d2] => { results := [.lit (.bool false)], args := [d1, d2] }
  | _ => none }
def FnExactAllowedLettersWrongFalsely : Prop := fnExactAllowedLettersRow.holds Try.pinned (OpenSpec.ofChange fnExactAllowedLettersWrong)

/-- 'laws.FnExactRestrictTable': WHATEVER THE INPUT: true; the input reads as it did. -/
def fnExactRestrictTableSpec : ChangeSpec := { name := "fnExactRestrictTable", fn := fun _ => fun
  | [d1, d2] => { results := [.lit (.bool true)], args := [d1, d2] }
  | _ => none }
def fnExactRestrictTableRow : OpenClaim := { program := "ytfghmbpogmcboaa", sum := "a4ca0c0b8b00d15c644d73245f3cba265abb1e6e51bc787d52256d39d616a703", func := "loop.example/g00855/laws.FnExactRestrictTable", spec := "fnExactRestrictTable", apart := false }
def FnExactRestrictTableSaid : Prop := fnExactRestrictTableRow.holds Try.pinned (OpenSpec.ofChange fnExactRestrictTableSpec)

/-- ITS FALSE NEIGHBOUR: 'it returns false'. Refute it at one input. -/
def fnExactRestrictTableWrong : ChangeSpec := { name := "fnExactRestrictTable", fn := fun _ => fun
  | [d1, d2] => { results := [.lit (.bool false)], args := [d1, d2] }
  | _ => none }
def FnExactRestrictTableWrongFalsely : Prop := fnExactRestrictTableRow.holds Try.pinned (OpenSpec.ofChange fnExactRestrictTableWrong)

/-- 'laws.FnExactWordImage': WHATEVER THE INPUT: true; the input reads as it did. -/
def fnExactWordImageSpec : ChangeSpec := { name := "fnExactWordImage", fn := fun _ => fun
  | [d1, d2, d3] => { results := [.lit (.bool true)], args := [d1, d2, d3] }
  | _ => none }
def fnExactWordImageRow : OpenClaim := { program := "ytfghmbpogmcboaa", sum := "a4ca0c0b8b00d15c644d73245f3cba265abb1e6e51bc787d52256d39d616a703", func := "loop.example/g00855/laws.FnExactWordImage", spec := "fnExactWordImage", unfollowed := true, recurses := true, apart := false }
def FnExactWordImageSaid : Prop := fnExactWordImageRow.holds Try.pinned (OpenSpec.ofChange fnExactWordImageSpec)

/-- ITS FALSE NEIGHBOUR: 'it returns false'. Refute it at one input. -/
def fnExactWordImageWrong : ChangeSpec := { name := "fnExactWordImage", fn := fun _ => fun
  | [d1, d2, d3] => { results := [.lit (.bool false)], args := [d1, d2, d3] }
  | _ => none }
def FnExactWordImageWrongFalsely : Prop := fnExactWordImageRow.holds Try.pinned (OpenSpec.ofChange fnExactWordImageWrong)

/-- 'laws.FnExactSymmetries': WHATEVER THE INPUT: true; the input reads as it did. -/
def fnExactSymmetriesSpec : ChangeSpec := { name := "fnExactSymmetries", fn := fun _ => fun
  | [d] => { results := [.lit (.bool true)], args := [d] }
  | _ => none }
def fnExactSymmetriesRow : OpenClaim := { program := "ytfghmbpogmcboaa", sum := "a4ca0c0b8b00d15c644d73245f3cba265abb1e6e51bc787d52256d39d616a703", func := "loop.example/g00855/laws.FnExactSymmetries", spec := "fnExactSymmetries", unfollowed := true, recurses := true, apart := false }
def FnExactSymmetriesSaid : Prop := fnExactSymmetriesRow.holds Try.pinned (OpenSpec.ofChange fnExactSymmetriesSpec)

/-- ITS FALSE NEIGHBOUR: 'it returns false'. Refute it at one input. -/
def fnExactSymmetriesWrong : ChangeSpec := { name := "fnExactSymmetries", fn := fun _ => fun
  | [d] => { results := [.lit (.bool false)], args := [d] }
  | _ => none }
def FnExactSymmetriesWrongFalsely : Prop := fnExactSymmetriesRow.holds Try.pinned (OpenSpec.ofChange fnExactSymmetriesWrong)

/-- 'laws.FnExactAreEquivalent': WHATEVER THE INPUT: true; the input reads as it did. -/
def fnExactAreEquivalentSpec : ChangeSpec := { name := "fnExactAreEquivalent", fn := fun _ => fun
  | [d1, d2, d3] => { results := [.lit (.bool true)], args := [d1, d2, d3] }
  | _ => none }
def fnExactAreEquivalentRow : OpenClaim := { program := "ytfghmbpogmcboaa", sum := "a4ca0c0b8b00d15c644d73245f3cba265abb1e6e51bc787d52256d39d616a703", func := "loop.example/g00855/laws.FnExactAreEquivalent", spec := "fnExactAreEquivalent", unfollowed := true, recurses := true, apart := false }
def FnExactAreEquivalentSaid : Prop := fnExactAreEquivalentRow.holds Try.pinned (OpenSpec.ofChange fnExactAreEquivalentSpec)

/-- ITS FALSE NEIGHBOUR: 'it returns false'. Refute it at one input. -/
def fnExactAreEquivalentWrong : ChangeSpec := { name := "fnExactAreEquivalent", fn := fun _ => fun
  | [d1, d2, d3] => { results := [.lit (.bool false)], args := [d1, d2, d3] }
  | _ => none }
def FnExactAreEquivalentWrongFalsely : Prop := fnExactAreEquivalentRow.holds Try.pinned (OpenSpec.ofChange fnExactAreEquivalentWrong)

/-- 'laws.FnExactCanonicalState': WHATEVER THE INPUT: true; the input reads as it did. -/
def fnExactCanonicalStateSpec : ChangeSpec := { name := "fnExactCanonicalState", fn := fun _ => fun
  | [d1, d2] => { results := [.lit (.bool true)], args := [d1, d2] }
  | _ => none }
def fnExactCanonicalStateRow : OpenClaim := { program := "ytfghmbpogmcboaa", sum := "a4ca0c0b8b00d15c644d73245f3cba265abb1e6e51bc787d52256d39d616a703", func := "loop.example/g00855/laws.FnExactCanonicalState", spec := "fnExactCanonicalState", unfollowed := true, recurses := true, apart := false }
def FnExactCanonicalStateSaid : Prop := fnExactCanonicalStateRow.holds Try.pinned (OpenSpec.ofChange fnExactCanonicalStateSpec)

/-- ITS FALSE NEIGHBOUR: 'it returns false'. Refute it at one input. -/
def fnExactCanonicalStateWrong : ChangeSpec := { name := "fnExactCanonicalState", fn := fun _ => fun
  | [d1, d2] => { results := [.lit (.bool false)], args := [d1, d2] }
  | _ => none }
def FnExactCanonicalStateWrongFalsely : Prop := fnExactCanonicalStateRow.holds Try.pinned (OpenSpec.ofChange fnExactCanonicalStateWrong)

/-- 'laws.FnExactBuildTable': WHATEVER THE INPUT: true; the input reads as it did. -/
def fnExactBuildTableSpec : ChangeSpec := { name := "fnExactBuildTable", fn := fun _ => fun
  | [d1, d2] => { results := [.lit (.bool true)], args := [d1, d2] }
  | _ => none }
def fnExactBuildTableRow : OpenClaim := { program := "ytfghmbpogmcboaa", sum := "a4ca0c0b8b00d15c644d73245f3cba265abb1e6e51bc787d52256d39d616a703", func := "loop.example/g00855/laws.FnExactBuildTable", spec := "fnExactBuildTable", unfollowed := true, recurses := true, apart := false }
def FnExactBuildTableSaid : Prop := fnExactBuildTableRow.holds Try.pinned (OpenSpec.ofChange fnExactBuildTableSpec)

/-- ITS FALSE NEIGHBOUR: 'it returns false'. Refute it at one input. -/
def fnExactBuildTableWrong : ChangeSpec := { name := "fnExactBuildTable", fn := fun _ => fun
  | [d1, d2] => { results := [.lit (.bool false)], args := [d1, d2] }
  | _ => none }
def FnExactBuildTableWrongFalsely : Prop := fnExactBuildTableRow.holds Try.pinned (OpenSpec.ofChange fnExactBuildTableWrong)

/-- 'laws.FnExactIsValidTable': WHATEVER THE INPUT: true; the input reads as it did. -/
def fnExactIsValidTableSpec : ChangeSpec := { name := "fnExactIsValidTable", fn := fun _ => fun
  | [d1, d2] => { results := [.lit (.bool true)], args := [d1, d2] }
  | _ => none }
def fnExactIsValidTableRow : OpenClaim := { program := "ytfghmbpogmcboaa", sum := "a4ca0c0b8b00d15c644d73245f3cba265abb1e6e51bc787d52256d39d616a703", func := "loop.example/g00855/laws.FnExactIsValidTable", spec := "fnExactIsValidTable", unfollowed := true, recurses := true, apart := false }
def FnExactIsValidTableSaid : Prop := fnExactIsValidTableRow.holds Try.pinned (OpenSpec.ofChange fnExactIsValidTableSpec)

/-- ITS FALSE NEIGHBOUR: 'it returns false'. Refute it at one input. -/
def fnExactIsValidTableWrong : ChangeSpec := { name := "fnExactIsValidTable", fn := fun _ => fun
  | [d1, d2] => { results := [.lit (.bool false)], args := [d1, d2] }
  | _ => none }
def FnExactIsValidTableWrongFalsely : Prop := fnExactIsValidTableRow.holds Try.pinned (OpenSpec.ofChange fnExactIsValidTableWrong)

/-- 'laws.FnExactIsTableSet': WHATEVER THE INPUT: true; the input reads as it did. -/
def fnExactIsTableSetSpec : ChangeSpec := { name := "fnExactIsTableSet", fn := fun _ => fun
  | [d1, d2] => { results := [.lit (.bool true)], args := [d1, d2] }
  | _ => none }
def fnExactIsTableSetRow : OpenClaim := { program := "ytfghmbpogmcboaa", sum := "a4ca0c0b8b00d15c644d73245f3cba265abb1e6e51bc787d52256d39d616a703", func := "loop.example/g00855/laws.FnExactIsTableSet", spec := "fnExactIsTableSet", unfollowed := true, recurses := true, apart := false }
def FnExactIsTableSetSaid : Prop := fnExactIsTableSetRow.holds Try.pinned (OpenSpec.ofChange fnExactIsTableSetSpec)

/-- ITS FALSE NEIGHBOUR: 'it returns false'. Refute it at one input. -/
def fnExactIsTableSetWrong : ChangeSpec := { name := "fnExactIsTableSet", fn := fun _ => fun
  | [d1, d2] => { results := [.lit (.bool false)], args := [d1, d2] }
  | _ => none }
def FnExactIsTableSetWrongFalsely : Prop := fnExactIsTableSetRow.holds Try.pinned (OpenSpec.ofChange fnExactIsTableSetWrong)

/-- 'laws.FnExactStatesWithPattern': WHATEVER THE INPUT: true; the input reads as it did. -/
def fnExactStatesWithPatternSpec : ChangeSpec := { name := "fnExactStatesWithPattern", fn := fun _ => fun
  | [d1, d2, d3] => { results := [.lit (.bool true)], args := [d1, d2, d3] }
  | _ => none }
def fnExactStatesWithPatternRow : OpenClaim := { program := "ytfghmbpogmcboaa", sum := "a4ca0c0b8b00d15c644d73245f3cba265abb1e6e51bc787d52256d39d616a703", func := "loop.example/g00855/laws.FnExactStatesWithPattern", spec := "fnExactStatesWithPattern", unfollowed := true, recurses := true, apart := false }
def FnExactStatesWithPatternSaid : Prop := fnExactStatesWithPatternRow.holds Try.pinned (OpenSpec.ofChange fnExactStatesWithPatternSpec)

/-- ITS FALSE NEIGHBOUR: 'it returns false'. Refute it at one input. -/
def fnExactStatesWithPatternWrong : ChangeSpec := { name := "fnExactStatesWithPattern", fn := fun _ => fun
  | [d1, d2, d3] => { results := [.lit (.bool false)], args := [d1, d2, d3] }
  | _ => none }
def FnExactStatesWithPatternWrongFalsely : Prop := fnExactStatesWithPatternRow.holds Try.pinned (OpenSpec.ofChange fnExactStatesWithPatternWrong)

/-- 'laws.FnExactSatisfiesGoal': WHATEVER THE INPUT: true; the input reads as it did. -/
def fnExactSatisfiesGoalSpec : ChangeSpec := { name := "fnExactSatisfiesGoal", fn := fun _ => fun
  | [d1, d2, d3] => { results := [.lit (.bool true)], args := [d1, d2, d3] }
  | _ => none }
def fnExactSatisfiesGoalRow : OpenClaim := { program := "ytfghmbpogmcboaa", sum := "a4ca0c0b8b00d15c644d73245f3cba265abb1e6e51bc787d52256d39d616a703", func := "loop.example/g00855/laws.FnExactSatisfiesGoal", spec := "fnExactSatisfiesGoal", unfollowed := true, recurses := true, apart := false }
def FnExactSatisfiesGoalSaid : Prop := fnExactSatisfiesGoalRow.holds Try.pinned (OpenSpec.ofChange fnExactSatisfiesGoalSpec)

/-- ITS FALSE NEIGHBOUR: 'it returns false'. Refute it at one input. -/
def fnExactSatisfiesGoalWrong : ChangeSpec := { name := "fnExactSatisfiesGoal", fn := fun _ => fun
  | [d1, d2, d3] => { results := [.lit (.bool false)], args := [d1, d2, d3] }
  | _ => none }
def FnExactSatisfiesGoalWrongFalsely : Prop := fnExactSatisfiesGoalRow.holds Try.pinned (OpenSpec.ofChange fnExactSatisfiesGoalWrong)

/- THE SECOND FORM. 'bulk': how many values and letters a reading holds, each counted each time it is reached (what is shared counts as often as it is met; a slice's spare places count too). A statement '..UptoSaid' is the law's where the arguments, and the package variables that the reading takes, are together of bulk at most 1048576: NARROWER than '..Said'. Prove '..Said' where nothing that the law and all that it calls make is longer than what came in: it says more and counts as full. Else prove '..UptoSaid'. A law counts once. -/
mutual
def uptoBulk {H : Type} : DataW H → Nat
  | .lit (.string bytes) => bytes.length + 1
  | .lit _ => 1
  | .nil => 1
  | .ptr d => uptoBulk d + 1
  | .slice elems spare => uptoBulkAll elems + uptoBulkAll spare + 1
  | .agg parts => uptoBulkAll parts + 1
  | .iface _ d => uptoBulk d + 1
  | .map entries => uptoBulkEntries entries + 1
  | .held _ => 1
def uptoBulkAll {H : Type} : List (DataW H) → Nat
  | [] => 0
  | d :: r => uptoBulk d + uptoBulkAll r
def uptoBulkEntries {H : Type} : List (Lit × DataW H) → Nat
  | [] => 0
  | x :: r => uptoBulkEntry x + uptoBulkEntries r
def uptoBulkEntry {H : Type} : Lit × DataW H → Nat
  | (.string bytes, d) => bytes.length + uptoBulk d + 1
  | (_, d) => uptoBulk d + 1
 end
def uptoSmall : (H : Type) → List (DataW H) → Bool := fun _ ds => decide (uptoBulkAll ds ≤ 1048576)
def OpenSpec.upto (s : _root_.Go.ChangeSpec) : _root_.Go.OpenSpec := { _root_.Go.OpenSpec.ofChange s with cond := some uptoSmall }

/-- 'laws.FnExactAllowedLetters', WHERE WHAT IT READS IS OF BULK AT MOST 1048576: true; the input reads as it did. -/
def fnExactAllowedLettersUptoRow : OpenClaim := { program := "ytfghmbpogmcboaa", sum := "a4ca0c0b8b00d15c644d73245f3cba265abb1e6e51bc787d52256d39d616a703", func := "loop.example/g00855/laws.FnExactAllowedLetters", spec := "fnExactAllowedLetters", unfollowed := true, recurses := true, apart := false, narrowed := true }
def FnExactAllowedLettersUptoSaid : Prop := fnExactAllowedLettersUptoRow.holds Try.pinned (OpenSpec.upto fnExactAllowedLettersSpec)

/-- 'laws.FnExactRestrictTable', WHERE WHAT IT READS IS OF BULK AT MOST 1048576: true; the input reads as it did. -/
def fnExactRestrictTableUptoRow : OpenClaim := { program := "ytfghmbpogmcboaa", sum := "a4ca0c0b8b00d15c644d73245f3cba265abb1e6e51bc787d52256d39d616a703", func := "loop.example/g00855/laws.FnExactRestrictTable", spec := "fnExactRestrictTable", apart := false, narrowed := true }
def FnExactRestrictTableUptoSaid : Prop := fnExactRestrictTableUptoRow.holds Try.pinned (OpenSpec.upto fnExactRestrictTableSpec)

/-- 'laws.FnExactWordImage', WHERE WHAT IT READS IS OF BULK AT MOST 1048576: true; the input reads as it did. -/
def fnExactWordImageUptoRow : OpenClaim := { program := "ytfghmbpogmcboaa", sum := "a4ca0c0b8b00d15c644d73245f3cba265abb1e6e51bc787d52256d39d616a703", func := "loop.example/g00855/laws.FnExactWordImage", spec := "fnExactWordImage", unfollowed := true, recurses := true, apart := false, narrowed := true }
def FnExactWordImageUptoSaid : Prop := fnExactWordImageUptoRow.holds Try.pinned (OpenSpec.upto fnExactWordImageSpec)

/-- 'laws.FnExactSymmetries', WHERE WHAT IT READS IS OF BULK AT MOST 1048576: true; the input reads as it did. -/
def fnExactSymmetriesUptoRow : OpenClaim := { program := "ytfghmbpogmcboaa", sum := "a4ca0c0b8b00d15c644d73245f3cba265abb1e6e51bc787d52256d39d616a703", func := "loop.example/g00855/laws.FnExactSymmetries", spec := "fnExactSymmetries", unfollowed := true, recurses := true, apart := false, narrowed := true }
def FnExactSymmetriesUptoSaid : Prop := fnExactSymmetriesUptoRow.holds Try.pinned (OpenSpec.upto fnExactSymmetriesSpec)

/-- 'laws.FnExactAreEquivalent', WHERE WHAT IT READS IS OF BULK AT MOST 1048576: true; the input reads as it did. -/
def fnExactAreEquivalentUptoRow : OpenClaim := { program := "ytfghmbpogmcboaa", sum := "a4ca0c0b8b00d15c644d73245f3cba265abb1e6e51bc787d52256d39d616a703", func := "loop.example/g00855/laws.FnExactAreEquivalent", spec := "fnExactAreEquivalent", unfollowed := true, recurses := true, apart := false, narrowed := true }
def FnExactAreEquivalentUptoSaid : Prop := fnExactAreEquivalentUptoRow.holds Try.pinned (OpenSpec.upto fnExactAreEquivalentSpec)

/-- 'laws.FnExactCanonicalState', WHERE WHAT IT READS IS OF BULK AT MOST 1048576: true; the input reads as it did. -/
def fnExactCanonicalStateUptoRow : OpenClaim := { program := "ytfghmbpogmcboaa", sum := "a4ca0c0b8b00d15c644d73245f3cba265abb1e6e51bc787d52256d39d616a703", func := "loop.example/g00855/laws.FnExactCanonicalState", spec := "fnExactCanonicalState", unfollowed := true, recurses := true, apart := false, narrowed := true }
def FnExactCanonicalStateUptoSaid : Prop := fnExactCanonicalStateUptoRow.holds Try.pinned (OpenSpec.upto fnExactCanonicalStateSpec)

/-- 'laws.FnExactBuildTable', WHERE WHAT IT READS IS OF BULK AT MOST 1048576: true; the input reads as it did. -/
def fnExactBuildTableUptoRow : OpenClaim := { program := "ytfghmbpogmcboaa", sum := "a4ca0c0b8b00d15c644d73245f3cba265abb1e6e51bc787d52256d39d616a703", func := "loop.example/g00855/laws.FnExactBuildTable", spec := "fnExactBuildTable", unfollowed := true, recurses := true, apart := false, narrowed := true }
def FnExactBuildTableUptoSaid : Prop := fnExactBuildTableUptoRow.holds Try.pinned (OpenSpec.upto fnExactBuildTableSpec)

/-- 'laws.FnExactIsValidTable', WHERE WHAT IT READS IS OF BULK AT MOST 1048576: true; the input reads as it did. -/
def fnExactIsValidTableUptoRow : OpenClaim := { program := "ytfghmbpogmcboaa", sum := "a4ca0c0b8b00d15c644d73245f3cba265abb1e6e51bc787d52256d39d616a703", func := "loop.example/g00855/laws.FnExactIsValidTable", spec := "fnExactIsValidTable", unfollowed := true, recurses := true, apart := false, narrowed := true }
def FnExactIsValidTableUptoSaid : Prop := fnExactIsValidTableUptoRow.holds Try.pinned (OpenSpec.upto fnExactIsValidTableSpec)

/-- 'laws.FnExactIsTableSet', WHERE WHAT IT READS IS OF BULK AT MOST 1048576: true; the input reads as it did. -/
def fnExactIsTableSetUptoRow : OpenClaim := { program := "ytfghmbpogmcboaa", sum := "a4ca0c0b8b00d15c644d73245f3cba265abb1e6e51bc787d52256d39d616a703", func := "loop.example/g00855/laws.FnExactIsTableSet", spec := "fnExactIsTableSet", unfollowed := true, recurses := true, apart := false, narrowed := true }
def FnExactIsTableSetUptoSaid : Prop := fnExactIsTableSetUptoRow.holds Try.pinned (OpenSpec.upto fnExactIsTableSetSpec)

/-- 'laws.FnExactStatesWithPattern', WHERE WHAT IT READS IS OF BULK AT MOST 1048576: true; the input reads as it did. -/
def fnExactStatesWithPatternUptoRow : OpenClaim := { program := "ytfghmbpogmcboaa", sum := "a4ca0c0b8b00d15c644d73245f3cba265abb1e6e51bc787d52256d39d616a703", func := "loop.example/g00855/laws.FnExactStatesWithPattern", spec := "fnExactStatesWithPattern", unfollowed := true, recurses := true, apart := false, narrowed := true }
def FnExactStatesWithPatternUptoSaid : Prop := fnExactStatesWithPatternUptoRow.holds Try.pinned (OpenSpec.upto fnExactStatesWithPatternSpec)

/-- 'laws.FnExactSatisfiesGoal', WHERE WHAT IT READS IS OF BULK AT MOST 1048576: true; the input reads as it did. -/
def fnExactSatisfiesGoalUptoRow : OpenClaim := { program := "ytfghmbpogmcboaa", sum := "a4ca0c0b8b00d15c644d73245f3cba265abb1e6e51bc787d52256d39d616a703", func := "loop.example/g00855/laws.FnExactSatisfiesGoal", spec := "fnExactSatisfiesGoal", unfollowed := true, recurses := true, apart := false, narrowed := true }
def FnExactSatisfiesGoalUptoSaid : Prop := fnExactSatisfiesGoalUptoRow.holds Try.pinned (OpenSpec.upto fnExactSatisfiesGoalSpec)

end Rows
end Go.Proofs.Ytfghmbpogmcboaa
