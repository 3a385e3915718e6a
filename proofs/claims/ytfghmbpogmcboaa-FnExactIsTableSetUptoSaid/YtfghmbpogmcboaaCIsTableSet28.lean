/-
  Part 29 of the proof that the statement FnExactIsTableSet holds.
-/
import Derived.Test.YtfghmbpogmcboaaCIsTableSet27
import Derived.Test.YtfghmbpogmcboaaProg
import Derived.KernelRfl
namespace Go.Proofs.Ytfghmbpogmcboaa
open Go.RowKit

abbrev tI : Ty := .int .i64
abbrev tL : Ty := .slice tI
abbrev tLL : Ty := .slice tL
abbrev tTable : Ty := .pair tL (.pair tLL (.pair tL .unit))
abbrev tPuzzle : Ty := .pair tI (.pair .str (.pair tLL .unit))
abbrev tSearch : Ty := .pair tLL (.pair tL (.pair tL (.pair .bool .unit)))

def tab : Tab where
  ty := fun t => match t with
    | 2 => some tI
    | 3 => some tI
    | 4 => some .bool
    | 5 => some (.int .u8)
    | 9 => some .str
    | 26 => some tL
    | 22 => some tLL
    | 115 => some (.slice (.int .u8))
    | 90 => some tL
    | 144 => some (.slice tLL)
    | 59 => some (.slice tTable)
    | 62 => some (.slice tTable)
    | 80 => some (.smap tI)
    | 102 => some (.smap tI)
    | 137 => some (.smap .bool)
    | 36 => some tTable
    | 38 => some tTable
    | 24 => some tPuzzle
    | 28 => some tPuzzle
    | 92 => some tSearch
    | _ => none
  elem := fun t => match t with
    | 26 => some 2
    | 22 => some 26
    | 115 => some 5
    | 90 => some 3
    | 144 => some 22
    | 59 => some 36
    | 62 => some 38
    | _ => none
  mapOf := fun t => match t with
    | 80 => some tI
    | 102 => some tI
    | 137 => some .bool
    | _ => none
  off := fun s f => match s, f with
    | 36, 0 => some (0, 26)
    | 36, 1 => some (1, 22)
    | 36, 2 => some (2, 26)
    | 38, 0 => some (0, 26)
    | 38, 1 => some (1, 22)
    | 38, 2 => some (2, 26)
    | 24, 0 => some (0, 2)
    | 24, 1 => some (1, 9)
    | 24, 2 => some (2, 22)
    | 28, 0 => some (0, 2)
    | 28, 1 => some (1, 9)
    | 28, 2 => some (2, 22)
    | 92, 0 => some (0, 22)
    | 92, 1 => some (1, 26)
    | 92, 2 => some (2, 90)
    | 92, 3 => some (3, 4)
    | _, _ => none

def fieldsOf (P : Program) (s : TypeId) : Array Field := match P.underlying s with | some (.struct fs) => fs | _ => #[]

theorem info_of {P : Program} {t : TypeId} {τ : Ty} {b : Nat} (h : (P.info? t).map (fun i => (i.size, i.bytes, i.zero)) = some (τ.size, b, some (mkVal τ (zeroVals τ)))) (hb : b ≤ 256) :
    ∃ i : TypeInfo, P.info? t = some i ∧ i.size = τ.size ∧ i.bytes ≤ 256 ∧ i.zero = some (mkVal τ (zeroVals τ)) := by
  cases hi : P.info? t with
  | none => rw [hi] at h; cases h
  | some i =>
    rw [hi] at h
    simp only [Option.map_some, Option.some.injEq, Prod.mk.injEq] at h
    exact ⟨i, rfl, h.1, by rw [h.2.1]; exact hb, h.2.2⟩

theorem size_of_info {P : Program} {t : TypeId} {n : Nat} (h : (P.info? t).map (·.size) = some n) (hn : n ≠ 0) : ∃ i : TypeInfo, P.info? t = some i ∧ i.size ≠ 0 := by
  cases hi : P.info? t with
  | none => rw [hi] at h; cases h
  | some i => rw [hi] at h; simp only [Option.map_some, Option.some.injEq] at h; exact ⟨i, rfl, by omega⟩
theorem tabTy : ∀ t τ, tab.ty t = some τ → TyOK Try.prog tab t τ := by
  intro t τ h
  simp only [tab] at h
  split at h
  · cases h; exact ⟨info_of (b := 8) (by kernel_rfl) (by omega), (by kernel_rfl : Try.prog.underlying 2 = some (.int .i64))⟩
  · cases h; exact ⟨info_of (b := 8) (by kernel_rfl) (by omega), (by kernel_rfl : Try.prog.underlying 3 = some (.int .i64))⟩
  · cases h; exact ⟨info_of (b := 1) (by kernel_rfl) (by omega), (by kernel_rfl : Try.prog.underlying 4 = some (.bool))⟩
  · cases h; exact ⟨info_of (b := 1) (by kernel_rfl) (by omega), (by kernel_rfl : Try.prog.underlying 5 = some (.int .u8))⟩
  · cases h; exact ⟨info_of (b := 16) (by kernel_rfl) (by omega), (by kernel_rfl : Try.prog.underlying 9 = some (.string))⟩
  · cases h; exact ⟨info_of (b := 24) (by kernel_rfl) (by omega), ⟨2, by kernel_rfl, rfl, rfl⟩⟩
  · cases h; exact ⟨info_of (b := 24) (by kernel_rfl) (by omega), ⟨26, by kernel_rfl, rfl, rfl⟩⟩
  · cases h; exact ⟨info_of (b := 24) (by kernel_rfl) (by omega), ⟨5, by kernel_rfl, rfl, rfl⟩⟩
  · cases h; exact ⟨info_of (b := 24) (by kernel_rfl) (by omega), ⟨3, by kernel_rfl, rfl, rfl⟩⟩
  · cases h; exact ⟨info_of (b := 24) (by kernel_rfl) (by omega), ⟨22, by kernel_rfl, rfl, rfl⟩⟩
  · cases h; exact ⟨info_of (b := 24) (by kernel_rfl) (by omega), ⟨36, by kernel_rfl, rfl, rfl⟩⟩
  · cases h; exact ⟨info_of (b := 24) (by kernel_rfl) (by omega), ⟨38, by kernel_rfl, rfl, rfl⟩⟩
  · cases h; exact ⟨info_of (b := 8) (by kernel_rfl) (by omega), ⟨9, 3, by kernel_rfl⟩⟩
  · cases h; exact ⟨info_of (b := 8) (by kernel_rfl) (by omega), ⟨9, 2, by kernel_rfl⟩⟩
  · cases h; exact ⟨info_of (b := 8) (by kernel_rfl) (by omega), ⟨9, 4, by kernel_rfl⟩⟩
  · cases h; exact ⟨info_of (b := 72) (by kernel_rfl) (by omega), ⟨fieldsOf Try.prog 36, by kernel_rfl⟩⟩
  · cases h; exact ⟨info_of (b := 72) (by kernel_rfl) (by omega), ⟨fieldsOf Try.prog 38, by kernel_rfl⟩⟩
  · cases h; exact ⟨info_of (b := 48) (by kernel_rfl) (by omega), ⟨fieldsOf Try.prog 24, by kernel_rfl⟩⟩
  · cases h; exact ⟨info_of (b := 48) (by kernel_rfl) (by omega), ⟨fieldsOf Try.prog 28, by kernel_rfl⟩⟩
  · cases h; exact ⟨info_of (b := 80) (by kernel_rfl) (by omega), ⟨fieldsOf Try.prog 92, by kernel_rfl⟩⟩
  · cases h

theorem tabElem : ∀ t te, tab.elem t = some te → Try.prog.underlying t = some (.slice te) := by
  intro t te h
  simp only [tab] at h
  split at h
  · cases h; kernel_rfl
  · cases h; kernel_rfl
  · cases h; kernel_rfl
  · cases h; kernel_rfl
  · cases h; kernel_rfl
  · cases h; kernel_rfl
  · cases h; kernel_rfl
  · cases h

theorem tabMap : ∀ t v, tab.mapOf t = some v → ∃ k e, Try.prog.underlying t = some (.map k e) ∧ Try.prog.underlying k = some .string ∧ tab.ty e = some v ∧ v.flat = true ∧ v.isStruct = false := by
  intro t v h
  simp only [tab] at h
  split at h
  · cases h; exact ⟨9, 3, by kernel_rfl, by kernel_rfl, rfl, rfl, rfl⟩
  · cases h; exact ⟨9, 2, by kernel_rfl, by kernel_rfl, rfl, rfl, rfl⟩
  · cases h; exact ⟨9, 4, by kernel_rfl, by kernel_rfl, rfl, rfl, rfl⟩
  · cases h

theorem off_of {P : Program} {s : TypeId} {f o : Nat} {t : TypeId} (hu : P.underlying s = some (.struct (fieldsOf P s))) (hf : ((fieldsOf P s)[f]?).map (fun fd => (fd.offset, fd.type)) = some (o, t)) (hi : (P.info? t).map (·.size) = some 1) :
    ∃ (fs : Array Field) (fd : Field), P.underlying s = some (.struct fs) ∧ fs[f]? = some fd ∧ fd.offset = o ∧ fd.type = t ∧ ∃ i : TypeInfo, P.info? t = some i ∧ i.size ≠ 0 := by
  cases h : (fieldsOf P s)[f]? with
  | none => rw [h] at hf; cases hf
  | some fd =>
    rw [h] at hf
    simp only [Option.map_some, Option.some.injEq, Prod.mk.injEq] at hf
    exact ⟨fieldsOf P s, fd, hu, h, hf.1, hf.2, size_of_info hi (by decide)⟩

theorem tabOff : ∀ s f o t, tab.off s f = some (o, t) → ∃ (fs : Array Field) (fd : Field), Try.prog.underlying s = some (.struct fs) ∧ fs[f]? = some fd ∧ fd.offset = o ∧ fd.type = t ∧ ∃ i : TypeInfo, Try.prog.info? t = some i ∧ i.size ≠ 0 := by
  intro s f o t h
  simp only [tab] at h
  split at h
  · cases h; exact off_of (by kernel_rfl) (by kernel_rfl) (by kernel_rfl)
  · cases h; exact off_of (by kernel_rfl) (by kernel_rfl) (by kernel_rfl)
  · cases h; exact off_of (by kernel_rfl) (by kernel_rfl) (by kernel_rfl)
  · cases h; exact off_of (by kernel_rfl) (by kernel_rfl) (by kernel_rfl)
  · cases h; exact off_of (by kernel_rfl) (by kernel_rfl) (by kernel_rfl)
  · cases h; exact off_of (by kernel_rfl) (by kernel_rfl) (by kernel_rfl)
  · cases h; exact off_of (by kernel_rfl) (by kernel_rfl) (by kernel_rfl)
  · cases h; exact off_of (by kernel_rfl) (by kernel_rfl) (by kernel_rfl)
  · cases h; exact off_of (by kernel_rfl) (by kernel_rfl) (by kernel_rfl)
  · cases h; exact off_of (by kernel_rfl) (by kernel_rfl) (by kernel_rfl)
  · cases h; exact off_of (by kernel_rfl) (by kernel_rfl) (by kernel_rfl)
  · cases h; exact off_of (by kernel_rfl) (by kernel_rfl) (by kernel_rfl)
  · cases h; exact off_of (by kernel_rfl) (by kernel_rfl) (by kernel_rfl)
  · cases h; exact off_of (by kernel_rfl) (by kernel_rfl) (by kernel_rfl)
  · cases h; exact off_of (by kernel_rfl) (by kernel_rfl) (by kernel_rfl)
  · cases h; exact off_of (by kernel_rfl) (by kernel_rfl) (by kernel_rfl)
  · cases h

theorem fill_of {P : Program} {t : TypeId} (hu : P.underlying t = some (.struct (fieldsOf P t))) (places : Array (Nat × Nat)) (hp : ∀ w, (placesOf (fieldsOf P t)).run P w = .ok places w)
    (h : ∀ f o u ρ, tab.off t f = some (o, u) → tab.ty u = some ρ → places[f]? = some (o, ρ.size)) :
    ∃ (fs : Array Field) (places : Array (Nat × Nat)), P.underlying t = some (.struct fs) ∧ (∀ w, (placesOf fs).run P w = .ok places w) ∧ ∀ f o u ρ, tab.off t f = some (o, u) → tab.ty u = some ρ → places[f]? = some (o, ρ.size) :=
  ⟨fieldsOf P t, places, hu, hp, h⟩

/-- All fields take one cell: the places are counted up. -/
def ones (n : Nat) : Array (Nat × Nat) := (Array.range n).map fun i => (i, 1)
def cntOf (t : TypeId) : Nat := match t with
  | 36 => 3
  | 38 => 3
  | 24 => 3
  | 28 => 3
  | 92 => 4
  | _ => 0
theorem tabFill : ∀ t τ, tab.ty t = some τ → τ.isStruct = true → ∃ (fs : Array Field) (places : Array (Nat × Nat)), Try.prog.underlying t = some (.struct fs) ∧ (∀ w, (placesOf fs).run Try.prog w = .ok places w) ∧
    ∀ f o u ρ, tab.off t f = some (o, u) → tab.ty u = some ρ → places[f]? = some (o, ρ.size) := by
  intro t τ h hs
  have offs : ∀ t f o u, tab.off t f = some (o, u) → (f < cntOf t ∧ o = f) ∧ ∀ ρ, tab.ty u = some ρ → ρ.size = 1 := by
    intro t f o u ho
    simp only [tab] at ho
    split at ho
    all_goals first
      | (cases ho; exact ⟨⟨by decide, rfl⟩, fun ρ hu => by cases hu; rfl⟩)
      | cases ho
  have all : ∀ t, ∀ f o u ρ, tab.off t f = some (o, u) → tab.ty u = some ρ → (ones (cntOf t))[f]? = some (o, ρ.size) := by
    intro t f o u ρ ho hu
    obtain ⟨⟨hf, rfl⟩, h2⟩ := offs t f o u ho
    rw [h2 ρ hu]
    simp [ones, hf]
  simp only [tab] at h
  split at h
  · cases h; simp [Ty.isStruct] at hs
  · cases h; simp [Ty.isStruct] at hs
  · cases h; simp [Ty.isStruct] at hs
  · cases h; simp [Ty.isStruct] at hs
  · cases h; simp [Ty.isStruct] at hs
  · cases h; simp [Ty.isStruct] at hs
  · cases h; simp [Ty.isStruct] at hs
  · cases h; simp [Ty.isStruct] at hs
  · cases h; simp [Ty.isStruct] at hs
  · cases h; simp [Ty.isStruct] at hs
  · cases h; simp [Ty.isStruct] at hs
  · cases h; simp [Ty.isStruct] at hs
  · cases h; simp [Ty.isStruct] at hs
  · cases h; simp [Ty.isStruct] at hs
  · cases h; simp [Ty.isStruct] at hs
  · exact fill_of (by kernel_rfl) (ones (cntOf 36)) (fun w => by kernel_rfl) (all _)
  · exact fill_of (by kernel_rfl) (ones (cntOf 38)) (fun w => by kernel_rfl) (all _)
  · exact fill_of (by kernel_rfl) (ones (cntOf 24)) (fun w => by kernel_rfl) (all _)
  · exact fill_of (by kernel_rfl) (ones (cntOf 28)) (fun w => by kernel_rfl) (all _)
  · exact fill_of (by kernel_rfl) (ones (cntOf 92)) (fun w => by kernel_rfl) (all _)
  · cases h

theorem tabOK : TabOK Try.prog tab := ⟨tabFill, tabTy, tabElem, tabMap, tabOff⟩

/-- The same table; it is followed which rows are trees. -/
def tabT : Tab := { tab with fr0 := true, tr0 := true }
theorem tabTOK : TabOK Try.prog tabT := tabOK.flags true true
/-- For functions in which rows go through calls. -/
def tabW : Tab := { tabT with marks := [weakMark] }
theorem tabWOK : TabOK Try.prog tabW := tabTOK.withMarks [weakMark]
def tabM (l : List Nat) : Tab := { tabT with marks := l }
theorem tabMOK (l : List Nat) : TabOK Try.prog (tabM l) := tabTOK.withMarks l
theorem mixed : Try.prog.follows .mixedOrders = true := by kernel_rfl
end Go.Proofs.Ytfghmbpogmcboaa
