/-
  Part 28 of the proof that the statement FnExactIsTableSet holds.
-/
import Derived.Test.YtfghmbpogmcboaaCIsTableSet26
import Derived.Laws.BitsLemmas
namespace Go.Proofs.Ytfghmbpogmcboaa
open Go.RowKit

/-- Contracts, listed. -/
instance : Coe Spec ASpec := ⟨.q⟩
instance : Coe MSpec ASpec := ⟨.m⟩
def look : List (FuncId × ASpec) → Env
  | [], _ => none
  | (g, s) :: r, f => if g = f then some s else look r f
theorem envNil {P : Program} : EnvOK P (look []) := fun _ _ h => by cases h
theorem envCons {P : Program} {g : FuncId} {s : Spec} {r : List (FuncId × ASpec)} (h : Sound P g s) (hr : EnvOK P (look r)) : EnvOK P (look ((g, .q s) :: r)) := by
  intro f t hf
  simp only [look] at hf
  split at hf
  · rename_i hg
    injection hf with hf
    rw [← hg, ← hf]
    exact h
  · exact hr f t hf
theorem envConsM {P : Program} {g : FuncId} {s : MSpec} {r : List (FuncId × ASpec)} (h : MSound P g s) (hr : EnvOK P (look r)) : EnvOK P (look ((g, .m s) :: r)) := by
  intro f t hf
  simp only [look] at hf
  split at hf
  · rename_i hg
    injection hf with hf
    rw [← hg, ← hf]
    exact h
  · exact hr f t hf
/-- The flags of a table say nothing of the program. -/
theorem TabOK.flags {P : Program} {T : Tab} (h : TabOK P T) (f t : Bool) : TabOK P { T with fr0 := f, tr0 := t } :=
  ⟨h.fill, fun a b hab => ⟨(h.ty a b hab).info, (h.ty a b hab).desc⟩, h.elem, h.mapOf, h.off⟩
theorem TabOK.withMarks {P : Program} {T : Tab} (h : TabOK P T) (r : List Nat) : TabOK P { T with marks := r } :=
  ⟨h.fill, fun a b hab => ⟨(h.ty a b hab).info, (h.ty a b hab).desc⟩, h.elem, h.mapOf, h.off⟩
/-- A contract with a condition and a value. -/
noncomputable def mkS (arg res : Ty) (multi fresh : Bool) (pre : arg.den → Prop) (val : arg.den → res.den) : Spec :=
  { arg := arg, res := res, multi := multi, fresh := fresh, fn := fun x => open Classical in if pre x then some (val x) else none }
theorem Sound.mkS {P : Program} {T : Tab} {Γ : Env} (hT : TabOK P T) (hΓ : EnvOK P Γ) (hm : P.follows .mixedOrders = true) {f : FuncId} {fn : Func} (hf : P.funcs[f]? = some fn) (hn : (fn.name == "runtime.NumGoroutine") = false)
    (hb : fn.body.isNone = false) {arg res : Ty} {multi fresh : Bool} {pre : arg.den → Prop} {val : arg.den → res.den} (h : ∀ x, pre x → fnW T Γ (Go.Proofs.Ytfghmbpogmcboaa.mkS arg res multi fresh pre val) fn x (fun z => z = val x)) : Sound P f (Go.Proofs.Ytfghmbpogmcboaa.mkS arg res multi fresh pre val) :=
  Sound.ofW hT hΓ hm hf hn hb _ fun x y hy => by
    have hp : pre x := Classical.byContradiction fun hn => by
      have : (Go.Proofs.Ytfghmbpogmcboaa.mkS arg res multi fresh pre val).fn x = none := if_neg hn
      rw [this] at hy
      cases hy
    have hv : (Go.Proofs.Ytfghmbpogmcboaa.mkS arg res multi fresh pre val).fn x = some (val x) := if_pos hp
    rw [hv] at hy
    injection hy with hy
    rw [← hy]
    exact h x hp

/-- A contract of the second kind, with a condition and a value. -/
noncomputable def mkM (shapes : List (Option Nat)) (ins : List (Bool × CK)) (multi : Bool) (rshapes : List (Option Nat)) (outs : List CK) (pre : Ins.den ins → Prop) (val : Ins.den ins → CKs.den outs × IOs.den ins) : MSpec :=
  { shapes := shapes, ins := ins, multi := multi, rshapes := rshapes, outs := outs, fn := fun x => open Classical in if pre x then some (val x) else none }
theorem MSound.mkM {P : Program} {T : Tab} {Γ : Env} (hT : TabOK P T) (hΓ : EnvOK P Γ) (hm : P.follows .mixedOrders = true) {f : FuncId} {fn : Func} (hf : P.funcs[f]? = some fn) (hn : (fn.name == "runtime.NumGoroutine") = false)
    (hb : fn.body.isNone = false) {shapes : List (Option Nat)} {ins : List (Bool × CK)} {multi : Bool} {rshapes : List (Option Nat)} {outs : List CK} {pre : Ins.den ins → Prop} {val : Ins.den ins → CKs.den outs × IOs.den ins}
    (h : ∀ x, pre x → fnMW T Γ (Go.Proofs.Ytfghmbpogmcboaa.mkM shapes ins multi rshapes outs pre val) fn x (fun z => z = val x)) : MSound P f (Go.Proofs.Ytfghmbpogmcboaa.mkM shapes ins multi rshapes outs pre val) :=
  MSound.ofW hT hΓ hm hf hn hb _ fun x y hy => by
    have hp : pre x := Classical.byContradiction fun hn => by
      have : (Go.Proofs.Ytfghmbpogmcboaa.mkM shapes ins multi rshapes outs pre val).fn x = none := if_neg hn
      rw [this] at hy
      cases hy
    have hv : (Go.Proofs.Ytfghmbpogmcboaa.mkM shapes ins multi rshapes outs pre val).fn x = some (val x) := if_pos hp
    rw [hv] at hy
    injection hy with hy
    rw [← hy]
    exact h x hp

/-- Every slice reads as one of which it is told whether it is nil. -/
theorem RepVal.told {w : World} {S : Nat → Prop} {e : Ty} {v : Value} {xs : List e.den} (h : RepVal w S (.slice e) v xs) : ∃ o : Option (List e.den), RepVal w S (.oslice e) v o ∧ o.getD [] = xs := by
  obtain ⟨cs, hc, rfl⟩ := h
  simp only [Cells] at hc
  obtain ⟨a, len, cap, rfl, h1, h2, h3⟩ := hc
  cases a with
  | none =>
    rcases h3 with rfl | ⟨g, o, h, _⟩
    · exact ⟨none, ⟨_, .inl ⟨rfl, cap, by rw [h1]; rfl⟩, rfl⟩, rfl⟩
    · cases h
  | some ad =>
    refine ⟨some xs, ⟨_, .inr ⟨xs, ad, len, cap, rfl, rfl, h1, h2, h3.imp id fun ⟨g, o, h, h4⟩ => ⟨g, o, Option.some.inj h, h4⟩⟩, rfl⟩, rfl⟩
/-- A contract over slices, from one that is told whether its first argument is nil. -/
theorem MSound.ofO {P : Program} {f : FuncId} {sh : List (Option Nat)} {e : Ty} {ins : List (Bool × CK)} {multi : Bool} {rsh : List (Option Nat)} {outs : List CK}
    {pre : Ins.den ((false, .dat (.oslice e)) :: ins) → Prop} {val : Ins.den ((false, .dat (.oslice e)) :: ins) → CKs.den outs × IOs.den ins} {pre' : Ins.den ((false, .dat (.slice e)) :: ins) → Prop} {val' : Ins.den ((false, .dat (.slice e)) :: ins) → CKs.den outs × IOs.den ins}
    (h : MSound P f (Go.Proofs.Ytfghmbpogmcboaa.mkM sh ((false, .dat (.oslice e)) :: ins) multi rsh outs pre val))
    (hp : ∀ (o : Option (List e.den)) (r : Ins.den ins), pre' (o.getD [], r) → pre (o, r) ∧ val (o, r) = val' (o.getD [], r)) : MSound P f (Go.Proofs.Ytfghmbpogmcboaa.mkM sh ((false, .dat (.slice e)) :: ins) multi rsh outs pre' val') := by
  refine ⟨h.enter, fun w S π us x r o h1 h2 h3 hS h4 h5 => ?_⟩
  obtain ⟨xs, rest⟩ := x
  cases us with
  | nil => exact h2.elim
  | cons u us =>
    obtain ⟨⟨h6, h7⟩, h8⟩ := h2
    obtain ⟨ox, h9, rfl⟩ := h7.told
    have hpre : pre' (ox.getD [], rest) := Classical.byContradiction fun hn => by
      have : (Go.Proofs.Ytfghmbpogmcboaa.mkM sh ((false, .dat (.slice e)) :: ins) multi rsh outs pre' val').fn (ox.getD [], rest) = none := if_neg hn
      rw [this] at h5; cases h5
    obtain ⟨k1, k2⟩ := hp ox rest hpre
    have hv : (Go.Proofs.Ytfghmbpogmcboaa.mkM sh ((false, .dat (.slice e)) :: ins) multi rsh outs pre' val').fn (ox.getD [], rest) = some (val' (ox.getD [], rest)) := if_pos hpre
    rw [hv] at h5
    have h5 := Option.some.inj h5
    exact h.calls w S π (u :: us) (ox, rest) r o h1 ⟨⟨h6, h9⟩, h8⟩ h3 hS h4 ((if_pos k1).trans (by rw [k2]; exact congrArg some h5))

theorem Br.of {b : Bool} {A B : Prop} (t : b = true → A) (f : b = false → B) : Br b A B := ⟨t, f⟩
theorem Br.dec {p : Prop} [Decidable p] {A B : Prop} (t : p → A) (f : ¬ p → B) : Br (decide p) A B := ⟨fun h => t (of_decide_eq_true h), fun h => f (of_decide_eq_false h)⟩

/-- A loop that counts up. -/
theorem loop_range {V : Type} {step : V → (V → Prop) → Prop} {v0 : V} (len : Nat) (at' : V → Int) (R : Nat → V → Prop) (h0 : at' v0 = 0) (hR : R 0 v0)
    (hs : ∀ (j : Nat) (v : V) (K : V → Prop), j ≤ len → at' v = j → R j v → (j < len → ∀ v', at' v' = ((j + 1 : Nat) : Int) → R (j + 1) v' → K v') → step v K) : WLoop step v0 := by
  refine ⟨fun v => ∃ j : Nat, j ≤ len ∧ at' v = j ∧ R j v, fun v => len - (at' v).toNat, ⟨0, Nat.zero_le _, h0, hR⟩, ?_⟩
  rintro v ⟨j, h1, h2, h3⟩
  refine hs j v _ h1 h2 h3 fun hl v' h4 h5 => ⟨⟨j + 1, hl, h4, h5⟩, ?_⟩
  rw [h2, h4]
  simp only [Int.toNat_natCast]
  omega

theorem wrap_id {n : Int} (h1 : -9223372036854775808 ≤ n) (h2 : n < 9223372036854775808) : IntKind.i64.wrap n = n := by rw [IntKind.wrap_i64]; omega
theorem wrap_nat {n : Nat} (h2 : n < 9223372036854775807) : IntKind.i64.wrap ((n : Int) + 1) = ((n + 1 : Nat) : Int) := by
  rw [wrap_id (by omega) (by omega)]; rfl
theorem idx_nat {α : Type} {xs : List α} {j : Nat} (h : j < xs.length) : idx xs (j : Int) = some xs[j] := by
  unfold idx
  rw [if_pos (by omega), Int.toNat_natCast, List.getElem?_eq_getElem h]
end Go.Proofs.Ytfghmbpogmcboaa
