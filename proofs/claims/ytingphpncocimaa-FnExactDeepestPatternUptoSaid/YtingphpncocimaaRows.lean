/-
  No cell of these rows narrows 'for every input' (looked for: loops, veiled, ifaces, maps, wideKeys, modest, calm, conditions, laid).
  DERIVED. THE GIVEN ROWS OF THIS SEAT. 12 by the template 'for every input the law returns true; each argument reads behind the call as it read before'; 0 by the template 'total and deterministic' (their statements: YtingphpncocimaaTotals.lean).
  GIVEN WITH THE SEED: the statements are not yours to turn. If you find one false, say at which input.
  Laid BY PROGRAM, IN A SANDBOX (cutbox-rows.mjs): the forced cells as the released guide's own fill.sh prints them over the translation 3bfa749ee4b18cad… (all of the seat's roots in one cut). By AI agents, Wed Nov 11 2026. No macro, syntax, notation, axiom, sorry.
-/
import Derived.Test.YtingphpncocimaaChecked
import GoSem.Claim
import GoSem.ClaimJoined
import GoSem.ClaimMapViews
import Derived.JoinedTies
import Derived.KernelRfl
namespace Go.Proofs.Ytingphpncocimaa
/- THE CELL 'sum', in the pinned program and in every row, IS THE sha256 OF THE DUMP (.gsa) THAT YtingphpncocimaaProg.lean LOADS. Nothing in Lean hashes anything: it is a label: what it is worth is what the hold of that sum in a sandbox is worth. -/
noncomputable def Try.pinned : Pinned := { name := "ytingphpncocimaa", sum := "3bfa749ee4b18cadf1811dbe2058cad4a7862dcb31b789ccffaa8940859dac3c", checked := Try.checked }
namespace Rows
def none {H : Type} : Left H := { results := [], args := [] }

/-- 'laws.FnExactSameTable': WHATEVER THE INPUT: true; the input reads as it did. -/
def fnExactSameTableSpec : ChangeSpec := { name := "fnExactSameTable", fn := fun _ => fun
  | [d1, d2] => { results := [.lit (.bool true)], args := [d1, d2] }
  | _ => none }
def fnExactSameTableRow : OpenClaim := { program := "ytingphpncocimaa", sum := "3bfa749ee4b18cadf1811dbe2058cad4a7862dcb31b789ccffaa8940859dac3c", func := "loop.example/g00855/laws.FnExactSameTable", spec := "fnExactSameTable", unfollowed := true, recurses := true, apart := false }
def FnExactSameTableSaid : Prop := fnExactSameTableRow.holds Try.pinned (OpenSpec.ofChange fnExactSameTableSpec)

/-- ITS FALSE NEIGHBOUR: 'it returns false'. Refute it at one input. -/
def fnExactSameTableWrong : ChangeSpec := { name := "fnExactSameTable", fn := fun _ => fun
  | [d1, d2] => { results := [.lit (.bool false)], args := [d1, d2] }
  | _ => none }
def FnExactSameTableWrongFalsely : Prop := fnExactSameTableRow.holds Try.pinned (OpenSpec.ofChange fnExactSameTableWrong)

/-- 'laws.FnExactIsWellFormedTable': WHATEVER THE INPUT: true; the input reads as it did. -/
def fnExactIsWellFormedTableSpec : ChangeSpec := { name := "fnExactIsWellFormedTable", fn := fun _ => fun
  | [d] => { results := [.lit (.bool true)], args := [d] }
  | _ => none }
def fnExactIsWellFormedTableRow : OpenClaim := { program := "ytingphpncocimaa", sum := "3bfa749ee4b18cadf1811dbe2058cad4a7862dcb31b789ccffaa8940859dac3c", func := "loop.example/g00855/laws.FnExactIsWellFormedTable", spec := "fnExactIsWellFormedTable", apart := false }
def FnExactIsWellFormedTableSaid : Prop := fnExactIsWellFormedTableRow.holds Try.pinned (OpenSpec.ofChange fnExactIsWellFormedTableSpec)

/-- ITS FALSE NEIGHBOUR: 'it returns false'. Refute it at one input. -/
def fnExactIsWellFormedTableWrong : ChangeSpec := { name := "fnExactIsWellFormedTable", fn := fun _ => fun
  | [d] => { results := [.lit (.bool false)], args := [d] }
  | _ => none }
def FnExactIsWellFormedTableWrongFalsely : Prop := fnExactIsWellFormedTableRow.holds Try.pinned (OpenSpec.ofChange fnExactIsWellFormedTableWrong)

/-- 'laws.FnExactIsMoveSubset': WHATEVER THE INPUT: true; the input reads as it did. -/
def fnExactIsMoveSubsetSpec : ChangeSpec := { name := "fnExactIsMoveSubset", fn := fun _ => fun
  | [d1, d2] => { results := [.lit (.bool true)], args := [d1, d2] }
  | _ => none }
def fnExactIsMoveSubsetRow : OpenClaim := { program := "ytingphpncocimaa", sum := "3bfa749ee4b18cadf1811dbe2058cad4a7862dcb31b789ccffaa8940859dac3c", func := "loop.example/g00855/laws.FnExactIsMoveSubset", spec := "fnExactIsMoveSubset", unfollowed := true, recurses := true, apart := false }
def FnExactIsMoveSubsetSaid : Prop := fnExactIsMoveSubsetRow.holds Try.pinned (OpenSpec.ofChange fnExactIsMoveSubsetSpec)

/-- ITS FALSE NEIGHBOUR: 'it returns false'. Refute it at one input. -/
def fnExactIsMoveSubsetWrong : ChangeSpec := { name := "fnExactIsMoveSubset", fn := fun _ => fun
  | [d1, d2] => { results := [.lit (.bool false)], args := [d1, d2] }
  | _ => none }
def FnExactIsMoveSubsetWrongFalsely : Prop := fnExactIsMoveSubsetRow.holds Try.pinned (OpenSpec.ofChange fnExactIsMoveSubsetWrong)

/-- 'laws.FnExactTableHistogram': WHATEVER THE INPUT: true; the input reads as it did. -/
def fnExactTableHistogramSpec : ChangeSpec := { name := "fnExactTableHistogram", fn := fun _ => fun
  | [d] => { results := [.lit (.bool true)], args := [d] }
  | _ => none }
def fnExactTableHistogramRow : OpenClaim := { program := "ytingphpncocimaa", sum := "3bfa749ee4b18cadf1811dbe2058cad4a7862dcb31b789ccffaa8940859dac3c", func := "loop.example/g00855/laws.FnExactTableHistogram", spec := "fnExactTableHistogram", apart := false }
def FnExactTableHistogramSaid : Prop := fnExactTableHistogramRow.holds Try.pinned (OpenSpec.ofChange fnExactTableHistogramSpec)

/-- ITS FALSE NEIGHBOUR: 'it returns false'. Refute it at one input. -/
def fnExactTableHistogramWrong : ChangeSpec := { name := "fnExactTableHistogram", fn := fun _ => fun
  | [d] => { results := [.lit (.bool false)], args := [d] }
  | _ => none }
def FnExactTableHistogramWrongFalsely : Prop := fnExactTableHistogramRow.holds Try.pinned (OpenSpec.ofChange fnExactTableHistogramWrong)

/-- 'laws.FnExactTableLookup': WHATEVER THE INPUT: true; the input reads as it did. -/
def fnExactTableLookupSpec : ChangeSpec := { name := "fnExactTableLookup", fn := fun _ => fun
  | [d1, d2] => { results := [.lit (.bool true)], args := [d1, d2] }
  | _ => none }
def fnExactTableLookupRow : OpenClaim := { program := "ytingphpncocimaa", sum := "3bfa749ee4b18cadf1811dbe2058cad4a7862dcb31b789ccffaa8940859dac3c", func := "loop.example/g00855/laws.FnExactTableLookup", spec := "fnExactTableLookup", unfollowed := true, recurses := true, apart := false }
def FnExactTableLookupSaid : Prop := fnExactTableLookupRow.holds Try.pinned (OpenSpec.ofChange fnExactTableLookupSpec)

/-- ITS FALSE NEIGHBOUR: 'it returns false'. Refute it at one input. -/
def fnExactTableLookupWrong : ChangeSpec := { name := "fnExactTableLookup", fn := fun _ => fun
  | [d1, d2] => { results := [.lit (.bool false)], args := [d1, d2] }
  | _ => none }
def FnExactTableLookupWrongFalsely : Prop := fnExactTableLookupRow.holds Try.pinned (OpenSpec.ofChange fnExactTableLookupWrong)

/-- 'laws.FnExactDeepestPattern': WHATEVER THE INPUT: true; the input reads as it did. -/
def fnExactDeepestPatternSpec : ChangeSpec := { name := "fnExactDeepestPattern", fn := fun _ => fun
  | [d] => { results := [.lit (.bool true)], args := [d] }
  | _ => none }
def fnExactDeepestPatternRow : OpenClaim := { program := "ytingphpncocimaa", sum := "3bfa749ee4b18cadf1811dbe2058cad4a7862dcb31b789ccffaa8940859dac3c", func := "loop.example/g00855/laws.FnExactDeepestPattern", spec := "fnExactDeepestPattern", apart := false }
def FnExactDeepestPatternSaid : Prop := fnExactDeepestPatternRow.holds Try.pinned (OpenSpec.ofChange fnExactDeepestPatternSpec)

/-- ITS FALSE NEIGHBOUR: 'it returns false'. Refute it at one input. -/
def fnExactDeepestPatternWrong : ChangeSpec := { name := "fnExactDeepestPattern", fn := fun _ => fun
  | [d] => { results := [.lit (.bool false)], args := [d] }
  | _ => none }
def FnExactDeepestPatternWrongFalsely : Prop := fnExactDeepestPatternRow.holds Try.pinned (OpenSpec.ofChange fnExactDeepestPatternWrong)

/-- 'laws.FnExactIsMethod': WHATEVER THE INPUT: true; the input reads as it did. -/
def fnExactIsMethodSpec : ChangeSpec := { name := "fnExactIsMethod", fn := fun _ => fun
  | [d1, d2] => { results := [.lit (.bool true)], args := [d1, d2] }
  | _ => none }
def fnExactIsMethodRow : OpenClaim := { program := "ytingphpncocimaa", sum := "3bfa749ee4b18cadf1811dbe2058cad4a7862dcb31b789ccffaa8940859dac3c", func := "loop.example/g00855/laws.FnExactIsMethod", spec := "fnExactIsMethod", unfollowed := true, recurses := true, apart := false }
def FnExactIsMethodSaid : Prop := fnExactIsMethodRow.holds Try.pinned (OpenSpec.ofChange fnExactIsMethodSpec)

/-- ITS FALSE NEIGHBOUR: 'it returns false'. Refute it at one input. -/
def fnExactIsMethodWrong : ChangeSpec := { name := "fnExactIsMethod", fn := fun _ => fun
  | [d1, d2] => { results := [.lit (.bool false)], args := [d1, d2] }
  | _ => none }
def FnExactIsMethodWrongFalsely : Prop := fnExactIsMethodRow.holds Try.pinned (OpenSpec.ofChange fnExactIsMethodWrong)

/-- 'laws.FnExactAllowedLetters': WHATEVER THE INPUT: true; the input reads as it did. -/
def fnExactAllowedLettersSpec : ChangeSpec := { name := "fnExactAllowedLetters", fn := fun _ => fun
  | [d1, d2] => { results := [.lit (.bool true)], args := [d1, d2] }
  | _ => none }
def fnExactAllowedLettersRow : OpenClaim := { program := "ytingphpncocimaa", sum := "3bfa749ee4b18cadf1811dbe2058cad4a7862dcb31b789ccffaa8940859dac3c", func := "loop.example/g00855/laws.FnExactAllowedLetters", spec := "fnExactAllowedLetters", unfollowed := true, recurses := true, apart := false }
def FnExactAllowedLettersSaid : Prop := fnExactAllowedLettersRow.holds Try.pinned (OpenSpec.ofChange fnExactAllowedLettersSpec)

/-- ITS FALSE NEIGHBOUR: 'it returns false'. Refute it at one input. -/
def fnExactAllowedLettersWrong : ChangeSpec := { name := "fnExactAllowedLetters", fn := fun _ => fun
  | [d1, d2] => { results := [.lit (.bool false)], args := [d1, d2] }
  | _ => none }
def FnExactAllowedLettersWrongFalsely : Prop := fnExactAllowedLettersRow.holds Try.pinned (OpenSpec.ofChange fnExactAllowedLettersWrong)

/-- 'laws.FnExactIsSymmetry': WHATEVER THE INPUT: true; the input reads as it did. -/
def fnExactIsSymmetrySpec : ChangeSpec := { name := "fnExactIsSymmetry", fn := fun _ => fun
  | [d1, d2] => { results := [.lit (.bool true)], args := [d1, d2] }
  | _ => none }
def fnExactIsSymmetryRow : OpenClaim := { program := "ytingphpncocimaa", sum := "3bfa749ee4b18cadf1811dbe2058cad4a7862dcb31b789ccffaa8940859dac3c", func := "loop.example/g00855/laws.FnExactIsSymmetry", spec := "fnExactIsSymmetry", unfollowed := true, recurses := true, apart := false }
def FnExactIsSymmetrySaid : Prop := fnExactIsSymmetryRow.holds Try.pinned (OpenSpec.ofChange fnExactIsSymmetrySpec)

/-- ITS FALSE NEIGHBOUR: 'it returns false'. Refute it at one input. -/
def fnExactIsSymmetryWrong : ChangeSpec := { name := "fnExactIsSymmetry", fn := fun _ => fun
  | [d1, d2] => { results := [.lit (.bool false)], args := [d1, d2] }
  | _ => none }
def FnExactIsSymmetryWrongFalsely : Prop := fnExactIsSymmetryRow.holds Try.pinned (OpenSpec.ofChange fnExactIsSymmetryWrong)

/-- 'laws.FnExactRestrictTable': WHATEVER THE INPUT: true; the input reads as it did. -/
def fnExactRestrictTableSpec : ChangeSpec := { name := "fnExactRestrictTable", fn := fun _ => fun
  | [d1, d2] => { results := [.lit (.bool true)], args := [d1, d2] }
  | _ => none }
def fnExactRestrictTableRow : OpenClaim := { program := "ytingphpncocimaa", sum := "3bfa749ee4b18cadf1811dbe2058cad4a7862dcb31b789ccffaa8940859dac3c", func := "loop.example/g00855/laws.FnExactRestrictTable", spec := "fnExactRestrictTable", apart := false }
def FnExactRestrictTableSaid : Prop := fnExactRestrictTableRow.holds Try.pinned (OpenSpec.ofChange fnExactRestrictTableSpec)

/-- ITS FALSE NEIGHBOUR: 'it returns false'. Refute it at one input. -/
def fnExactRestrictTableWrong : ChangeSpec := { name := "fnExactRestrictTable", fn := fun _ => fun
  | [d1, d2] => { results := [.lit (.bool false)], args := [d1, d2] }
  | _ => none }
def FnExactRestrictTableWrongFalsely : Prop := fnExactRestrictTableRow.holds Try.pinned (OpenSpec.ofChange fnExactRestrictTableWrong)

/-- 'laws.FnExactLetterImage': WHATEVER THE INPUT: true; the input reads as it did. -/
def fnExactLetterImageSpec : ChangeSpec := { name := "fnExactLetterImage", fn := fun _ => fun
  | [d1, d2, d3] => { results := [.lit (.bool true)], args := [d1, d2, d3] }
  | _ => none }
def fnExactLetterImageRow : OpenClaim := { program := "ytingphpncocimaa", sum := "3bfa749ee4b18cadf1811dbe2058cad4a7862dcb31b789ccffaa8940859dac3c", func := "loop.example/g00855/laws.FnExactLetterImage", spec := "fnExactLetterImage", unfollowed := true, recurses := true, apart := false }
def FnExactLetterImageSaid : Prop := fnExactLetterImageRow.holds Try.pinned (OpenSpec.ofChange fnExactLetterImageSpec)

/-- ITS FALSE NEIGHBOUR: 'it returns false'. Refute it at one input. -/
def fnExactLetterImageWrong : ChangeSpec := { name := "fnExactLetterImage", fn := fun _ => fun
  | [d1, d2, d3] => { results := [.lit (.bool false)], args := [d1, d2, d3] }
  | _ => none }
def FnExactLetterImageWrongFalsely : Prop := fnExactLetterImageRow.holds Try.pinned (OpenSpec.ofChange fnExactLetterImageWrong)

/-- 'laws.FnExactStateImage': WHATEVER THE INPUT: true; the input reads as it did. -/
def fnExactStateImageSpec : ChangeSpec := { name := "fnExactStateImage", fn := fun _ => fun
  | [d1, d2, d3] => { results := [.lit (.bool true)], args := [d1, d2, d3] }
  | _ => none }
def fnExactStateImageRow : OpenClaim := { program := "ytingphpncocimaa", sum := "3bfa749ee4b18cadf1811dbe2058cad4a7862dcb31b789ccffaa8940859dac3c", func := "loop.example/g00855/laws.FnExactStateImage", spec := "fnExactStateImage", unfollowed := true, recurses := true, apart := false }
def FnExactStateImageSaid : Prop := fnExactStateImageRow.holds Try.pinned (OpenSpec.ofChange fnExactStateImageSpec)

/-- ITS FALSE NEIGHBOUR: 'it returns false'. Refute it at one input. -/
def fnExactStateImageWrong : ChangeSpec := { name := "fnExactStateImage", fn := fun _ => fun
  | [d1, d2, d3] => { results := [.lit (.bool false)], args := [d1, d2, d3] }
  | _ => none }
def FnExactStateImageWrongFalsely : Prop := fnExactStateImageRow.holds Try.pinned (OpenSpec.ofChange fnExactStateImageWrong)

/- THE SECOND FORM. 'bulk': how many values and letters a reading holds, each counted each time it is reached (what is shared counts as often as it is met; a slice's spare places count too). A statement '..UptoSaid' is the law's where the arguments, and the package variables that the reading takes, are together of bulk at most 1048576: NARROWER than '..Said'. Prove '..Said' where nothing that the law and all that it calls make is longer than what came in: it says more and counts as full. Else prove '..UptoSaid'. A law counts once. -/
mutual
def uptoBulk {H : Type} : DataW H → Nat
  | .lit (.string bytes) => bytes.length + 1
  | .lit _ => 1
  | .nil => 1
  | .ptr d => uptoBulk d + 1
  | .slice elems spare => uptoBulkAll elems + uptoBulkAll spare + 1
  | .agg parts => uptoBulkAll parts + 1
  | .iface _ d => uptoBulk d + 1
  | .map entries => uptoBulkEntries entries + 1
  | .held _ => 1
def uptoBulkAll {H : Type} : List (DataW H) → Nat
  | [] => 0
  | d :: r => uptoBulk d + uptoBulkAll r
def uptoBulkEntries {H : Type} : List (Lit × DataW H) → Nat
  | [] => 0
  | x :: r => uptoBulkEntry x + uptoBulkEntries r
def uptoBulkEntry {H : Type} : Lit × DataW H → Nat
  | (.string bytes, d) => bytes.length + uptoBulk d + 1
  | (_, d) => uptoBulk d + 1
 end
def uptoSmall : (H : Type) → List (DataW H) → Bool := fun _ ds => decide (uptoBulkAll ds ≤ 1048576)
def OpenSpec.upto (s : _root_.Go.ChangeSpec) : _root_.Go.OpenSpec := { _root_.Go.OpenSpec.ofChange s with cond := some uptoSmall }

/-- 'laws.FnExactSameTable', WHERE WHAT IT READS IS OF BULK AT MOST 1048576: true; the input reads as it did. -/
def fnExactSameTableUptoRow : OpenClaim := { program := "ytingphpncocimaa", sum := "3bfa749ee4b18cadf1811dbe2058cad4a7862dcb31b789ccffaa8940859dac3c", func := "loop.example/g00855/laws.FnExactSameTable", spec := "fnExactSameTable", unfollowed := true, recurses := true, apart := false, narrowed := true }
def FnExactSameTableUptoSaid : Prop := fnExactSameTableUptoRow.holds Try.pinned (OpenSpec.upto fnExactSameTableSpec)

/-- 'laws.FnExactIsWellFormedTable', WHERE WHAT IT READS IS OF BULK AT MOST 1048576: true; the input reads as it did. -/
def fnExactIsWellFormedTableUptoRow : OpenClaim := { program := "ytingphpncocimaa", sum := "3bfa749ee4b18cadf1811dbe2058cad4a7862dcb31b789ccffaa8940859dac3c", func := "loop.example/g00855/laws.FnExactIsWellFormedTable", spec := "fnExactIsWellFormedTable", apart := false, narrowed := true }
def FnExactIsWellFormedTableUptoSaid : Prop := fnExactIsWellFormedTableUptoRow.holds Try.pinned (OpenSpec.upto fnExactIsWellFormedTableSpec)

/-- 'laws.FnExactIsMoveSubset', WHERE WHAT IT READS IS OF BULK AT MOST 1048576: true; the input reads as it did. -/
def fnExactIsMoveSubsetUptoRow : OpenClaim := { program := "ytingphpncocimaa", sum := "3bfa749ee4b18cadf1811dbe2058cad4a7862dcb31b789ccffaa8940859dac3c", func := "loop.example/g00855/laws.FnExactIsMoveSubset", spec := "fnExactIsMoveSubset", unfollowed := true, recurses := true, apart := false, narrowed := true }
def FnExactIsMoveSubsetUptoSaid : Prop := fnExactIsMoveSubsetUptoRow.holds Try.pinned (OpenSpec.upto fnExactIsMoveSubsetSpec)

/-- 'laws.FnExactTableHistogram', WHERE WHAT IT READS IS OF BULK AT MOST 1048576: true; the input reads as it did. -/
def fnExactTableHistogramUptoRow : OpenClaim := { program := "ytingphpncocimaa", sum := "3bfa749ee4b18cadf1811dbe2058cad4a7862dcb31b789ccffaa8940859dac3c", func := "loop.example/g00855/laws.FnExactTableHistogram", spec := "fnExactTableHistogram", apart := false, narrowed := true }
def FnExactTableHistogramUptoSaid : Prop := fnExactTableHistogramUptoRow.holds Try.pinned (OpenSpec.upto fnExactTableHistogramSpec)

/-- 'laws.FnExactTableLookup', WHERE WHAT IT READS IS OF BULK AT MOST 1048576: true; the input reads as it did. -/
def fnExactTableLookupUptoRow : OpenClaim := { program := "ytingphpncocimaa", sum := "3bfa749ee4b18cadf1811dbe2058cad4a7862dcb31b789ccffaa8940859dac3c", func := "loop.example/g00855/laws.FnExactTableLookup", spec := "fnExactTableLookup", unfollowed := true, recurses := true, apart := false, narrowed := true }
def FnExactTableLookupUptoSaid : Prop := fnExactTableLookupUptoRow.holds Try.pinned (OpenSpec.upto fnExactTableLookupSpec)

/-- 'laws.FnExactDeepestPattern', WHERE WHAT IT READS IS OF BULK AT MOST 1048576: true; the input reads as it did. -/
def fnExactDeepestPatternUptoRow : OpenClaim := { program := "ytingphpncocimaa", sum := "3bfa749ee4b18cadf1811dbe2058cad4a7862dcb31b789ccffaa8940859dac3c", func := "loop.example/g00855/laws.FnExactDeepestPattern", spec := "fnExactDeepestPattern", apart := false, narrowed := true }
def FnExactDeepestPatternUptoSaid : Prop := fnExactDeepestPatternUptoRow.holds Try.pinned (OpenSpec.upto fnExactDeepestPatternSpec)

/-- 'laws.FnExactIsMethod', WHERE WHAT IT READS IS OF BULK AT MOST 1048576: true; the input reads as it did. -/
def fnExactIsMethodUptoRow : OpenClaim := { program := "ytingphpncocimaa", sum := "3bfa749ee4b18cadf1811dbe2058cad4a7862dcb31b789ccffaa8940859dac3c", func := "loop.example/g00855/laws.FnExactIsMethod", spec := "fnExactIsMethod", unfollowed := true, recurses := true, apart := false, narrowed := true }
def FnExactIsMethodUptoSaid : Prop := fnExactIsMethodUptoRow.holds Try.pinned (OpenSpec.upto fnExactIsMethodSpec)

/-- 'laws.FnExactAllowedLetters', WHERE WHAT IT READS IS OF BULK AT MOST 1048576: true; the input reads as it did. -/
def fnExactAllowedLettersUptoRow : OpenClaim := { program := "ytingphpncocimaa", sum := "3bfa749ee4b18cadf1811dbe2058cad4a7862dcb31b789ccffaa8940859dac3c", func := "loop.example/g00855/laws.FnExactAllowedLetters", spec := "fnExactAllowedLetters", unfollowed := true, recurses := true, apart := false, narrowed := true }
def FnExactAllowedLettersUptoSaid : Prop := fnExactAllowedLettersUptoRow.holds Try.pinned (OpenSpec.upto fnExactAllowedLettersSpec)

/-- 'laws.FnExactIsSymmetry', WHERE WHAT IT READS IS OF BULK AT MOST 1048576: true; the input reads as it did. -/
def fnExactIsSymmetryUptoRow : OpenClaim := { program := "ytingphpncocimaa", sum := "3bfa749ee4b18cadf1811dbe2058cad4a7862dcb31b789ccffaa8940859dac3c", func := "loop.example/g00855/laws.FnExactIsSymmetry", spec := "fnExactIsSymmetry", unfollowed := true, recurses := true, apart := false, narrowed := true }
def FnExactIsSymmetryUptoSaid : Prop := fnExactIsSymmetryUptoRow.holds Try.pinned (OpenSpec.upto fnExactIsSymmetrySpec)

/-- 'laws.FnExactRestrictTable', WHERE WHAT IT READS IS OF BULK AT MOST 1048576: true; the input reads as it did. -/
def fnExactRestrictTableUptoRow : OpenClaim := { program := "ytingphpncocimaa", sum := "3bfa749ee4b18cadf1811dbe2058cad4a7862dcb31b789ccffaa8940859dac3c", func := "loop.example/g00855/laws.FnExactRestrictTable", spec := "fnExactRestrictTable", apart := false, narrowed := true }
def FnExactRestrictTableUptoSaid : Prop := fnExactRestrictTableUptoRow.holds Try.pinned (OpenSpec.upto fnExactRestrictTableSpec)

/-- 'laws.FnExactLetterImage', WHERE WHAT IT READS IS OF BULK AT MOST 1048576: true; the input reads as it did. -/
def fnExactLetterImageUptoRow : OpenClaim := { program := "ytingphpncocimaa", sum := "3bfa749ee4b18cadf1811dbe2058cad4a7862dcb31b789ccffaa8940859dac3c", func := "loop.example/g00855/laws.FnExactLetterImage", spec := "fnExactLetterImage", unfollowed := true, recurses := true, apart := false, narrowed := true }
def FnExactLetterImageUptoSaid : Prop := fnExactLetterImageUptoRow.holds Try.pinned (OpenSpec.upto fnExactLetterImageSpec)

/-- 'laws.FnExactStateImage', WHERE WHAT IT READS IS OF BULK AT MOST 1048576: true; the input reads as it did. -/
def fnExactStateImageUptoRow : OpenClaim := { program := "ytingphpncocimaa", sum := "3bfa749ee4b18cadf1811dbe2058cad4a7862dcb31b789ccffaa8940859dac3c", func := "loop.example/g00855/laws.FnExactStateImage", spec := "fnExactStateImage", unfollowed := true, recurses := true, apart := false, narrowed := true }
def FnExactStateImageUptoSaid : Prop := fnExactStateImageUptoRow.holds Try.pinned (OpenSpec.upto fnExactStateImageSpec)

end Rows
end Go.Proofs.Ytingphpncocimaa
