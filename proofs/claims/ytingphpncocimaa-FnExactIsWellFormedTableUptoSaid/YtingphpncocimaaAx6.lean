/-
  AX, part 6: the quiet operations are what the machine does.
-/
import Derived.Test.YtingphpncocimaaAx5
import Derived.WalkKit
import Derived.Laws.Slices
namespace Go.Proofs.Ytingphpncocimaa
open Go.RowKit

/-- The zero value's cells. -/
def zeroVals : Ty → List Value
  | .int k => [.int k 0]
  | .bool => [.bool false]
  | .str => [.string ByteArray.empty]
  | .slice _ => [.slice none 0 0]
  | .ptr _ => [.pointer none]
  | .unit => []
  | .pair a r => zeroVals a ++ zeroVals r

structure TyOK (P : Program) (T : Tab) (t : TypeId) (τ : Ty) : Prop where
  info : ∃ i : TypeInfo, P.info? t = some i ∧ i.size = τ.size ∧ i.bytes ≤ 256 ∧ i.zero = some (mkVal τ (zeroVals τ))
  desc : match τ with
    | .int k => P.underlying t = some (.int k)
    | .bool => P.underlying t = some .bool
    | .str => P.underlying t = some .string
    | .slice e => ∃ te, P.underlying t = some (.slice te) ∧ T.elem t = some te ∧ T.ty te = some e
    | .ptr _ => ∃ u, P.underlying t = some (.pointer u)
    | .unit | .pair _ _ => ∃ fs, P.underlying t = some (.struct fs)

/-- What 'build' reckons of a struct's fields. -/
def placesOf (fs : Array Field) : Sem (Array (Nat × Nat)) := fs.mapM fun f => do pure (f.offset, ← sizeOf f.type)

structure TabOK (P : Program) (T : Tab) : Prop where
  fill : ∀ t τ, T.ty t = some τ → τ.isStruct = true → ∃ (fs : Array Field) (places : Array (Nat × Nat)), P.underlying t = some (.struct fs) ∧ (∀ w, (placesOf fs).run P w = .ok places w) ∧
    ∀ f o u ρ, T.off t f = some (o, u) → T.ty u = some ρ → places[f]? = some (o, ρ.size)
  ty : ∀ t τ, T.ty t = some τ → TyOK P T t τ
  elem : ∀ t te, T.elem t = some te → P.underlying t = some (.slice te)
  off : ∀ s f o t, T.off s f = some (o, t) → ∃ (fs : Array Field) (fd : Field), P.underlying s = some (.struct fs) ∧ fs[f]? = some fd ∧ fd.offset = o ∧ fd.type = t ∧ ∃ i : TypeInfo, P.info? t = some i ∧ i.size ≠ 0

section
variable {P : Program} {T : Tab} {X : Ctx} {w w' : World} {π : Pi} {H : List (Nat × OB)}

theorem run_isAgg {t : TypeId} {d : TypeDesc} (h : P.underlying t = some d) : (isAgg t).run P w = .ok (match d with | .struct _ | .array _ _ => true | _ => false) w := by
  unfold isAgg
  rw [Sem.run_bind, run_underlying h]
  cases d <;> rfl

theorem TyOK.agg {t : TypeId} {τ : Ty} (h : TyOK P T t τ) : (isAgg t).run P w = .ok τ.isStruct w := by
  have hd := h.desc
  cases τ <;> simp only at hd
  case int k => rw [run_isAgg hd]; rfl
  case bool => rw [run_isAgg hd]; rfl
  case str => rw [run_isAgg hd]; rfl
  case slice e => obtain ⟨te, hd, _⟩ := hd; rw [run_isAgg hd]; rfl
  case ptr e => obtain ⟨te, hd⟩ := hd; rw [run_isAgg hd]; rfl
  case unit => obtain ⟨te, hd⟩ := hd; rw [run_isAgg hd]; rfl
  case pair e r => obtain ⟨te, hd⟩ := hd; rw [run_isAgg hd]; rfl

theorem TyOK.size {t : TypeId} {τ : Ty} (h : TyOK P T t τ) : (sizeOf t).run P w = .ok τ.size w := by
  obtain ⟨i, hi, hs, _⟩ := h.info
  simp [sizeOf, typeInfo, hi, hs]

/-! ### Reading a value as plain data -/
theorem RepVal.of_cells {S : Nat → Prop} {τ : Ty} {v : Value} {x : τ.den} (hτ : τ.isStruct = false) (h : RepVal w S τ v x) : Cells w S τ [v] x := by
  obtain ⟨cs, hc, rfl⟩ := h
  have hl := Cells.len τ cs x hc
  have h1 : τ.size = 1 := by cases τ <;> simp_all [Ty.isStruct, Ty.size]
  rw [h1] at hl
  obtain ⟨c, rfl⟩ := List.length_eq_one_iff.1 hl
  simpa [mkVal, hτ] using hc
theorem RepVal.mk_cells {S : Nat → Prop} {τ : Ty} {v : Value} {x : τ.den} (hτ : τ.isStruct = false) (h : Cells w S τ [v] x) : RepVal w S τ v x :=
  ⟨[v], h, by simp [mkVal, hτ]⟩

/-- Which blocks a reading may be asked to avoid: none of the call's own; and where the flag is down, only the caller's. -/
def Apart (X : Ctx) (S : Nat → Prop) (fr : Bool) : Prop := (∀ k, S k → k < X.w0.heap.size) ∧ (fr = true ∨ ∀ k, S k → X.Sc k)

theorem Apart.avoid {S : Nat → Prop} {fr : Bool} (h : Apart X S fr) (k : Nat) (hk : S k) : Avoid X.w0.heap.size X.Sc π fr k := by
  rcases h.2 with h2 | h2
  · exact .inr (.inr ⟨h2, h.1 k hk⟩)
  · exact .inr (.inl (h2 k hk))
theorem Apart.and_left {S : Nat → Prop} {f1 f2 : Bool} (h : Apart X S (f1 && f2)) : Apart X S f1 :=
  ⟨h.1, h.2.imp (fun h => by simp at h; exact h.1) id⟩
theorem Apart.and_right {S : Nat → Prop} {f1 f2 : Bool} (h : Apart X S (f1 && f2)) : Apart X S f2 :=
  ⟨h.1, h.2.imp (fun h => by simp at h; exact h.2) id⟩

theorem Rep.apart {S : Nat → Prop} {fr : Bool} {τ : Ty} {cs : List Value} {x : τ.den} (hS : Apart X S (fr || τ.flat)) (h : Cells w (Avoid X.w0.heap.size X.Sc π fr) τ cs x) : Cells w S τ cs x := by
  cases hf : τ.flat with
  | true => exact Cells.flat τ cs x hf h
  | false =>
    rw [hf, Bool.or_false] at hS
    exact Cells.keep (Nat.le_refl _) (fun _ _ _ => rfl) (fun k _ hk => hS.avoid k hk) τ cs x h

theorem viewAC_data (st : St) (τ : Ty) (fr : Bool) (τ' : Ty) (x : τ'.den) : viewAC st τ (.data fr τ' x) = if h : τ' = τ then some (fr || τ.flat, h ▸ x) else none := by
  cases τ <;> rfl
theorem viewAV_data (st : St) (τ : Ty) (fr : Bool) (τ' : Ty) (x : τ'.den) : viewAV st τ (.at (.data fr τ' x)) = if h : τ' = τ then some (fr || τ.flat, h ▸ x) else none := rfl

theorem viewAC_gen {st : St} (h : RelH X w π st.heap) {S : Nat → Prop} (τ : Ty) (c : AC) (v : Value) (fr : Bool) (x : τ.den) (hτ : τ.isStruct = false) (hc : RepAC X w π st.heap c v)
    (hv : viewAC st τ c = some (fr, x)) (hS : Apart X S fr) : Cells w S τ [v] x := by
  cases c with
  | data fr' τ' y =>
    rw [viewAC_data] at hv
    split at hv
    · rename_i ht; subst ht
      simp only [Option.some.injEq, Prod.mk.injEq] at hv
      obtain ⟨rfl, rfl⟩ := hv
      exact Rep.apart hS (RepVal.of_cells hτ hc)
    · cases hv
  | nilv =>
    cases τ with
    | slice e =>
      simp only [viewAC, Option.some.injEq, Prod.mk.injEq] at hv
      obtain ⟨_, rfl⟩ := hv
      exact ⟨none, 0, 0, by rw [show v = _ from hc], rfl, Nat.le_refl _, .inl rfl⟩
    | _ => simp [viewAC] at hv
  | own l off len =>
    cases τ with
    | slice e =>
      simp only [viewAC] at hv
      split at hv
      · rename_i fr' e' tid xs hl
        split at hv
        · rename_i he; subst he
          simp only [Option.some.injEq, Prod.mk.injEq] at hv
          obtain ⟨rfl, rfl⟩ := hv
          obtain ⟨fr2, e2, tid2, xs2, h1, h2, h3⟩ := hc
          have h1' := h1
          unfold St.at at hl
          rw [hl] at h1'; cases h1'
          exact own_cells h hl h2 h3 (fun k hk ⟨r, hr, hrk⟩ => by have := (h.lt hr).2; have := hS.1 k hk; omega) (fun k _ hk => hS.avoid k hk)
        · cases hv
      · cases hv
    | _ => simp [viewAC] at hv
  | _ => cases τ <;> simp [viewAC] at hv

theorem viewCells_one {st : St} {τ : Ty} (hτ : τ.isStruct = false) (cs : List AC) : viewCells st τ cs = match cs with | [c] => viewAC st τ c | _ => none := by
  cases τ <;> simp [Ty.isStruct] at hτ <;> rcases cs with _ | ⟨c, _ | ⟨d, r⟩⟩ <;> rfl

theorem viewCells_gen {st : St} (h : RelH X w π st.heap) {S : Nat → Prop} : ∀ (τ : Ty) (cs : List AC) (us : List Value) (fr : Bool) (x : τ.den), RepACs X w π st.heap cs us →
    viewCells st τ cs = some (fr, x) → Apart X S fr → Cells w S τ us x := by
  have one : ∀ (τ : Ty) (cs : List AC) (us : List Value) (fr : Bool) (x : τ.den), τ.isStruct = false → RepACs X w π st.heap cs us →
      viewCells st τ cs = some (fr, x) → Apart X S fr → Cells w S τ us x := by
    intro τ cs us fr x hτ hr hv hS
    rw [viewCells_one hτ] at hv
    split at hv
    · rename_i c
      obtain ⟨u, hu, _, hc⟩ := hr.2 0 c rfl
      have hl : us.length = 1 := hr.1
      obtain ⟨u', rfl⟩ := List.length_eq_one_iff.1 hl
      simp at hu; subst hu
      exact viewAC_gen h τ c _ fr x hτ hc hv hS
    · cases hv
  intro τ
  induction τ with
  | unit =>
    intro cs us fr x hr hv hS
    cases cs with
    | nil => have : us = [] := List.eq_nil_of_length_eq_zero hr.1; exact this
    | cons c cs => simp [viewCells] at hv
  | pair a r iha ihr =>
    intro cs us fr x hr hv hS
    simp only [viewCells] at hv
    split at hv
    · rename_i f1 y f2 z h1 h2
      simp only [Option.some.injEq, Prod.mk.injEq] at hv
      obtain ⟨rfl, rfl⟩ := hv
      have hr1 : RepACs X w π st.heap (cs.take a.size) (us.take a.size) :=
        ⟨by simp [hr.1], fun i c hc => by
          rw [List.getElem?_take] at hc ⊢
          split at hc
          · rename_i hi; simp only [hi, if_true]; exact hr.2 i c hc
          · cases hc⟩
      have hr2 : RepACs X w π st.heap (cs.drop a.size) (us.drop a.size) :=
        ⟨by simp [hr.1], fun i c hc => by
          rw [List.getElem?_drop] at hc ⊢
          exact hr.2 _ c hc⟩
      exact ⟨us.take a.size, us.drop a.size, (List.take_append_drop _ _).symm, iha _ _ _ _ hr1 h1 hS.and_left, ihr _ _ _ _ hr2 h2 hS.and_right⟩
    · cases hv
  | _ => exact fun cs us fr x hr hv hS => one _ cs us fr x rfl hr hv hS

theorem viewAV_gen {st : St} (h : RelH X w π st.heap) {S : Nat → Prop} (τ : Ty) (c : AV) (v : Value) (fr : Bool) (x : τ.den) (hc : RepAV X w π st.heap c v)
    (hv : viewAV st τ c = some (fr, x)) (hS : Apart X S fr) : RepVal w S τ v x := by
  have hother : ∀ c : AC, (∀ fr τ y, c ≠ .data fr τ y) → RepAC X w π st.heap c v → (if τ.isStruct then none else viewAC st τ c) = some (fr, x) → RepVal w S τ v x := by
    intro c _ hc hv
    split at hv
    · cases hv
    · rename_i hτ
      simp only [Bool.not_eq_true] at hτ
      exact RepVal.mk_cells hτ (viewAC_gen h τ c v fr x hτ hc hv hS)
  cases c with
  | «at» c =>
    cases c with
    | data fr' τ' y =>
      rw [viewAV_data] at hv
      split at hv
      · rename_i ht; subst ht
        simp only [Option.some.injEq, Prod.mk.injEq] at hv
        obtain ⟨rfl, rfl⟩ := hv
        obtain ⟨cs, h1, h2⟩ := hc
        exact ⟨cs, Rep.apart hS h1, h2⟩
      · cases hv
    | undef => exact hother .undef (by simp) hc hv
    | skip => exact hother .skip (by simp) hc hv
    | nilv => exact hother .nilv (by simp) hc hv
    | nilp => exact hother .nilp (by simp) hc hv
    | own l off len => exact hother (.own l off len) (by simp) hc hv
    | vptr l i => exact hother (.vptr l i) (by simp) hc hv
    | eptr l i => exact hother (.eptr l i) (by simp) hc hv
  | agg cs =>
    simp only [viewAV] at hv
    split at hv
    · rename_i hτ
      obtain ⟨us, rfl, hr⟩ := hc
      exact ⟨us, viewCells_gen h τ cs us fr x hr hv hS, by simp [mkVal, hτ]⟩
    · cases hv
  | tup fr' τ' y => simp [viewAV] at hv

theorem viewArgs_gen {st : St} (h : RelH X w π st.heap) {S : Nat → Prop} : ∀ (τ : Ty) (cs : List AV) (vs : List Value) (fr : Bool) (x : τ.den), cs.length = vs.length →
    (∀ (i : Nat) c v, cs[i]? = some c → vs[i]? = some v → RepAV X w π st.heap c v) → viewArgs st τ cs = some (fr, x) → Apart X S fr → RepArgs w S τ vs x
  | .unit, [], vs, fr, x, hl, hr, hv, hS => by
    have : vs = [] := List.eq_nil_of_length_eq_zero hl.symm
    subst this; trivial
  | .unit, _ :: _, vs, fr, x, hl, hr, hv, hS => by simp [viewArgs] at hv
  | .pair a r, [], vs, fr, x, hl, hr, hv, hS => by simp [viewArgs] at hv
  | .pair a r, c :: cs, [], fr, x, hl, hr, hv, hS => by simp at hl
  | .pair a r, c :: cs, v :: vs, fr, x, hl, hr, hv, hS => by
    simp only [viewArgs] at hv
    split at hv
    · rename_i f1 y f2 z h1 h2
      simp only [Option.some.injEq, Prod.mk.injEq] at hv
      obtain ⟨rfl, rfl⟩ := hv
      exact ⟨viewAV_gen h a c v f1 y (hr 0 c v rfl rfl) h1 hS.and_left, viewArgs_gen h r cs vs f2 z (by simpa using hl) (fun i c' v' hc hv' => hr (i + 1) c' v' hc hv') h2 hS.and_right⟩
    · cases hv
  | .int _, cs, vs, fr, x, hl, hr, hv, hS => by cases cs <;> simp [viewArgs] at hv
  | .bool, cs, vs, fr, x, hl, hr, hv, hS => by cases cs <;> simp [viewArgs] at hv
  | .str, cs, vs, fr, x, hl, hr, hv, hS => by cases cs <;> simp [viewArgs] at hv
  | .slice _, cs, vs, fr, x, hl, hr, hv, hS => by cases cs <;> simp [viewArgs] at hv
  | .ptr _, cs, vs, fr, x, hl, hr, hv, hS => by cases cs <;> simp [viewArgs] at hv

end
end Go.Proofs.Ytingphpncocimaa
