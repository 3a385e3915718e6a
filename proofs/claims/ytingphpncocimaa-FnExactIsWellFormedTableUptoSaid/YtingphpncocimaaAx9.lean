/-
  AX, part 9: calls; every quiet operation.
-/
import Derived.Test.YtingphpncocimaaAx8
namespace Go.Proofs.Ytingphpncocimaa
open Go.RowKit

section
variable {P : Program} {T : Tab} {X : Ctx} {w w' : World} {π : Pi} {H : List (Nat × OB)}

theorem RepVal.weak {S S' : Nat → Prop} {τ : Ty} {v : Value} {x : τ.den} (h : RepVal w S τ v x) (hS : ∀ k, k < w.heap.size → S' k → S k) : RepVal w S' τ v x :=
  let ⟨cs, hc, hv⟩ := h
  ⟨cs, Cells.keep (Nat.le_refl _) (fun _ _ _ => rfl) hS τ cs x hc, hv⟩
theorem RepArgs.weak {S S' : Nat → Prop} {τ : Ty} {vs : List Value} {x : τ.den} (h : RepArgs w S τ vs x) (hS : ∀ k, k < w.heap.size → S' k → S k) : RepArgs w S' τ vs x :=
  RepArgs.keep ⟨Nat.le_refl _, fun _ _ _ => rfl⟩ hS τ vs x h
theorem RepArgs.flat {S S' : Nat → Prop} : ∀ (τ : Ty) (vs : List Value) (x : τ.den), τ.flat = true → RepArgs w S τ vs x → RepArgs w S' τ vs x
  | .pair a r, [], x, _, h => h
  | .pair a r, v :: vs, x, hf, h => by
    simp only [Ty.flat, Bool.and_eq_true] at hf
    exact ⟨h.1.flat hf.1, RepArgs.flat r vs x.2 hf.2 h.2⟩
  | .unit, [], _, _, _ => trivial
  | .unit, _ :: _, _, _, h => h
  | .int _, _, _, _, h => by simp [RepArgs] at h
  | .bool, _, _, _, h => by simp [RepArgs] at h
  | .str, _, _, _, h => by simp [RepArgs] at h
  | .slice _, _, _, _, h => by simp [RepArgs] at h
  | .ptr _, _, _, _, h => by simp [RepArgs] at h

/-- What is settled reads as data that avoids all that is owned. -/
theorem viewAC_settled {st : St} (τ : Ty) (c : AC) (v : Value) (fr : Bool) (x : τ.den) (hτ : τ.isStruct = false) (hs : c.settled = true) (hc : RepAC X w π st.heap c v)
    (hv : viewAC st τ c = some (fr, x)) : Cells w (Avoid X.w0.heap.size X.Sc π fr) τ [v] x := by
  cases c with
  | data fr' τ' y =>
    rw [viewAC_data] at hv
    split at hv
    · rename_i ht; subst ht
      simp only [Option.some.injEq, Prod.mk.injEq] at hv
      obtain ⟨rfl, rfl⟩ := hv
      have h1 := RepVal.of_cells hτ hc
      cases hf : τ'.flat with
      | true => exact Cells.flat τ' _ _ hf h1
      | false => rw [Bool.or_false]; exact h1
    · cases hv
  | nilv =>
    cases τ with
    | slice e =>
      simp only [viewAC, Option.some.injEq, Prod.mk.injEq] at hv
      obtain ⟨_, rfl⟩ := hv
      exact ⟨none, 0, 0, by rw [show v = _ from hc], rfl, Nat.le_refl _, .inl rfl⟩
    | _ => simp [viewAC] at hv
  | nilp => cases τ <;> simp [viewAC] at hv
  | _ => simp [AC.settled] at hs

theorem Cells.and_left {f1 f2 : Bool} {τ : Ty} {cs : List Value} {x : τ.den} (h : Cells w (Avoid X.w0.heap.size X.Sc π f1) τ cs x) : Cells w (Avoid X.w0.heap.size X.Sc π (f1 && f2)) τ cs x :=
  Cells.keep (Nat.le_refl _) (fun _ _ _ => rfl) (fun k _ hk => by
    rcases hk with h1 | h1 | ⟨h1, h2⟩
    · exact .inl h1
    · exact .inr (.inl h1)
    · simp at h1; exact .inr (.inr ⟨h1.1, h2⟩)) τ cs x h
theorem Cells.and_right {f1 f2 : Bool} {τ : Ty} {cs : List Value} {x : τ.den} (h : Cells w (Avoid X.w0.heap.size X.Sc π f2) τ cs x) : Cells w (Avoid X.w0.heap.size X.Sc π (f1 && f2)) τ cs x :=
  Cells.keep (Nat.le_refl _) (fun _ _ _ => rfl) (fun k _ hk => by
    rcases hk with h1 | h1 | ⟨h1, h2⟩
    · exact .inl h1
    · exact .inr (.inl h1)
    · simp at h1; exact .inr (.inr ⟨h1.2, h2⟩)) τ cs x h

theorem viewCells_settled {st : St} : ∀ (τ : Ty) (cs : List AC) (us : List Value) (fr : Bool) (x : τ.den), cs.all (·.settled) = true → RepACs X w π st.heap cs us →
    viewCells st τ cs = some (fr, x) → Cells w (Avoid X.w0.heap.size X.Sc π fr) τ us x := by
  have one : ∀ (τ : Ty) (cs : List AC) (us : List Value) (fr : Bool) (x : τ.den), τ.isStruct = false → cs.all (·.settled) = true → RepACs X w π st.heap cs us →
      viewCells st τ cs = some (fr, x) → Cells w (Avoid X.w0.heap.size X.Sc π fr) τ us x := by
    intro τ cs us fr x hτ hs hr hv
    rw [viewCells_one hτ] at hv
    split at hv
    · rename_i c
      obtain ⟨u, hu, _, hc⟩ := hr.2 0 c rfl
      have hl : us.length = 1 := hr.1
      obtain ⟨u', rfl⟩ := List.length_eq_one_iff.1 hl
      simp at hu; subst hu
      exact viewAC_settled τ c _ fr x hτ (by simpa using hs) hc hv
    · cases hv
  intro τ
  induction τ with
  | unit =>
    intro cs us fr x hs hr hv
    cases cs with
    | nil => have : us = [] := List.eq_nil_of_length_eq_zero hr.1; exact this
    | cons c cs => simp [viewCells] at hv
  | pair a r iha ihr =>
    intro cs us fr x hs hr hv
    simp only [viewCells] at hv
    split at hv
    · rename_i f1 y f2 z h1 h2
      simp only [Option.some.injEq, Prod.mk.injEq] at hv
      obtain ⟨rfl, rfl⟩ := hv
      have hr1 : RepACs X w π st.heap (cs.take a.size) (us.take a.size) := by have := repACs_take hr 0 a.size; simpa using this
      have hr2 : RepACs X w π st.heap (cs.drop a.size) (us.drop a.size) :=
        ⟨by simp [hr.1], fun i c hc => by
          rw [List.getElem?_drop] at hc ⊢
          exact hr.2 _ c hc⟩
      have hs1 : (cs.take a.size).all (·.settled) = true := List.all_eq_true.2 fun c hc => List.all_eq_true.1 hs c (List.mem_of_mem_take hc)
      have hs2 : (cs.drop a.size).all (·.settled) = true := List.all_eq_true.2 fun c hc => List.all_eq_true.1 hs c (List.mem_of_mem_drop hc)
      exact ⟨us.take a.size, us.drop a.size, (List.take_append_drop _ _).symm, (iha _ _ _ _ hs1 hr1 h1).and_left, (ihr _ _ _ _ hs2 hr2 h2).and_right⟩
    · cases hv
  | _ => exact fun cs us fr x hs hr hv => one _ cs us fr x rfl hs hr hv

theorem viewAV_settled {st : St} (τ : Ty) (c : AV) (v : Value) (fr : Bool) (x : τ.den) (hs : c.settled = true) (hc : RepAV X w π st.heap c v)
    (hv : viewAV st τ c = some (fr, x)) : RepVal w (Avoid X.w0.heap.size X.Sc π fr) τ v x := by
  have hother : ∀ c : AC, c.settled = true → RepAC X w π st.heap c v → (if τ.isStruct then none else viewAC st τ c) = some (fr, x) → RepVal w (Avoid X.w0.heap.size X.Sc π fr) τ v x := by
    intro c hs hc hv
    split at hv
    · cases hv
    · rename_i hτ
      simp only [Bool.not_eq_true] at hτ
      exact RepVal.mk_cells hτ (viewAC_settled τ c v fr x hτ hs hc hv)
  cases c with
  | «at» c =>
    cases c with
    | data fr' τ' y =>
      rw [viewAV_data] at hv
      split at hv
      · rename_i ht; subst ht
        simp only [Option.some.injEq, Prod.mk.injEq] at hv
        obtain ⟨rfl, rfl⟩ := hv
        cases hf : τ'.flat with
        | true => exact RepVal.flat hf hc
        | false => rw [Bool.or_false]; exact hc
      · cases hv
    | nilv => exact hother .nilv hs hc hv
    | nilp => exact hother .nilp hs hc hv
    | undef => simp [AV.settled, AC.settled] at hs
    | skip => simp [AV.settled, AC.settled] at hs
    | own l off len => simp [AV.settled, AC.settled] at hs
    | vptr l i => simp [AV.settled, AC.settled] at hs
    | eptr l i => simp [AV.settled, AC.settled] at hs
  | agg cs =>
    simp only [viewAV] at hv
    split at hv
    · rename_i hτ
      obtain ⟨us, rfl, hr⟩ := hc
      exact ⟨us, viewCells_settled τ cs us fr x hs hr hv, by simp [mkVal, hτ]⟩
    · cases hv
  | tup fr' τ' y => simp [viewAV] at hv

theorem viewArgs_settled {st : St} : ∀ (τ : Ty) (cs : List AV) (vs : List Value) (fr : Bool) (x : τ.den), cs.length = vs.length → cs.all (·.settled) = true →
    (∀ (i : Nat) c v, cs[i]? = some c → vs[i]? = some v → RepAV X w π st.heap c v) → viewArgs st τ cs = some (fr, x) → RepArgs w (Avoid X.w0.heap.size X.Sc π false) τ vs x
  | .unit, [], vs, fr, x, hl, hs, hr, hv => by
    have : vs = [] := List.eq_nil_of_length_eq_zero hl.symm
    subst this; trivial
  | .unit, _ :: _, vs, fr, x, hl, hs, hr, hv => by simp [viewArgs] at hv
  | .pair a r, [], vs, fr, x, hl, hs, hr, hv => by simp [viewArgs] at hv
  | .pair a r, c :: cs, [], fr, x, hl, hs, hr, hv => by simp at hl
  | .pair a r, c :: cs, v :: vs, fr, x, hl, hs, hr, hv => by
    simp only [viewArgs] at hv
    split at hv
    · rename_i f1 y f2 z h1 h2
      simp only [Option.some.injEq, Prod.mk.injEq] at hv
      obtain ⟨rfl, rfl⟩ := hv
      simp only [List.all_cons, Bool.and_eq_true] at hs
      exact ⟨(viewAV_settled a c v f1 y hs.1 (hr 0 c v rfl rfl) h1).weak (fun k _ hk => by
          rcases hk with h | h | ⟨h, _⟩
          · exact .inl h
          · exact .inr (.inl h)
          · cases h),
        viewArgs_settled r cs vs f2 z (by simpa using hl) hs.2 (fun i c' v' hc hv' => hr (i + 1) c' v' hc hv') h2⟩
    · cases hv
  | .int _, cs, vs, fr, x, hl, hs, hr, hv => by cases cs <;> simp [viewArgs] at hv
  | .bool, cs, vs, fr, x, hl, hs, hr, hv => by cases cs <;> simp [viewArgs] at hv
  | .str, cs, vs, fr, x, hl, hs, hr, hv => by cases cs <;> simp [viewArgs] at hv
  | .slice _, cs, vs, fr, x, hl, hs, hr, hv => by cases cs <;> simp [viewArgs] at hv
  | .ptr _, cs, vs, fr, x, hl, hs, hr, hv => by cases cs <;> simp [viewArgs] at hv

theorem evalCall_rep {Γ : Env} (hΓ : EnvOK P Γ) {st : St} {a : Act} (h : RelAt X π st a w) (f : FuncId) (args : List Operand) (av : AV) (he : evalCall Γ st f (args.map st.ev) = some av) :
    (∀ vs w, (callFunc f vs).run P w = .ok (.enter f vs) w) ∧
    Calls P f (args.map a.eval).toArray w (fun e w'' => ∃ v, e = .returned v ∧ Below w.heap.size w w'' ∧ RepAV X w'' π st.heap av v) := by
  unfold evalCall at he
  split at he
  · cases he
  · rename_i s hs
    have snd := hΓ f s hs
    refine ⟨snd.enter, ?_⟩
    split at he
    · rename_i hcond
      split at he
      · cases he
      · rename_i fr0 x hx
        cases hy : s.fn x with
        | none => rw [hy] at he; cases he
        | some y =>
          rw [hy] at he
          simp only [Option.map_some, Option.some.injEq] at he
          have hreps : ∀ (i : Nat) c v, (args.map st.ev)[i]? = some c → (args.map a.eval)[i]? = some v → RepAV X w π st.heap c v := by
            intro i c v hc hv
            rw [List.getElem?_map] at hc hv
            cases hi : args[i]? with
            | none => rw [hi] at hc; cases hc
            | some o =>
              rw [hi] at hc hv
              simp only [Option.map_some, Option.some.injEq] at hc hv
              subst hc; subst hv
              exact ev_rep h.2 o
          have hres : ∀ (S : Nat → Prop), (∀ k, S k → k < w.heap.size) → RepArgs w S s.arg (args.map a.eval) x → (s.fresh = true ∨ s.res.flat = true ∨ ∀ k, Avoid X.w0.heap.size X.Sc π false k → S k) →
              Calls P f (args.map a.eval).toArray w (fun e w'' => ∃ v, e = .returned v ∧ Below w.heap.size w w'' ∧ RepAV X w'' π st.heap av v) := by
            intro S hSlt hargs hwhy
            refine (snd.calls w S _ x y hSlt hargs hy).mono ?_
            rintro e w'' ⟨v, rfl, hb, hr⟩
            refine ⟨v, rfl, hb, ?_⟩
            have hA : s.res.flat = true ∨ ∀ k, k < w''.heap.size → Avoid X.w0.heap.size X.Sc π (s.fresh || s.res.flat) k → (S k ∨ (s.fresh = true ∧ k < w.heap.size)) := by
              cases hf : s.res.flat with
              | true => exact .inl rfl
              | false =>
                right
                intro k _ hk
                cases hfr : s.fresh with
                | true =>
                  right
                  refine ⟨rfl, ?_⟩
                  rcases hk with ⟨l, r, hl, hg⟩ | hk | ⟨_, hk⟩
                  · have := (h.1.lt hl).1; omega
                  · have := h.1.sc k hk; have := h.1.below.size; omega
                  · have := h.1.below.size; omega
                | false =>
                  left
                  have hk' : Avoid X.w0.heap.size X.Sc π false k := by simpa [hfr, hf] using hk
                  rcases hwhy with h1 | h1 | h1
                  · rw [hfr] at h1; cases h1
                  · rw [hf] at h1; cases h1
                  · exact h1 k hk'
            unfold RepRes at hr
            subst he
            split
            · rename_i hm
              rw [if_pos hm] at hr
              obtain ⟨us, rfl, hr⟩ := hr
              refine ⟨us, rfl, ?_⟩
              rcases hA with hf | hA
              · exact RepArgs.flat _ _ _ hf hr
              · exact hr.weak hA
            · rename_i hm
              rw [if_neg hm] at hr
              rcases hA with hf | hA
              · exact RepVal.flat hf hr
              · exact hr.weak hA
          cases hff : (s.fresh || s.res.flat) with
          | true =>
            refine hres (fun _ => False) (fun _ h => h.elim) (viewArgs_gen h.1 s.arg _ _ fr0 x (by simp) hreps hx ⟨fun _ h => h.elim, .inr fun _ h => h.elim⟩) ?_
            simp only [Bool.or_eq_true] at hff
            rcases hff with h1 | h1
            · exact .inl h1
            · exact .inr (.inl h1)
          | false =>
            rw [hff, Bool.false_or] at hcond
            refine hres (Avoid X.w0.heap.size X.Sc π false) (fun k hk => ?_) (viewArgs_settled s.arg _ _ fr0 x (by simp) hcond hreps hx) (.inr (.inr fun _ hk => hk))
            rcases hk with ⟨l, r, hl, hg⟩ | hk | ⟨hk, _⟩
            · have := (h.1.lt hl).1; omega
            · have := h.1.sc k hk; have := h.1.below.size; omega
            · cases hk
    · cases he

theorem run_call_value (ρ : Operand → Value) (f : FuncId) (args : Array Operand) (ts : Array TypeId) (dst : Option Tmp) (ty : TypeId) (pos : String) (af : Array Edge) (gd : Option (Nat × Bool))
    (hρ : ρ (.func f) = .func (.func f) #[] #[]) (hc : ∀ vs w, (callFunc f vs).run P w = .ok (.enter f vs) w) :
    (execOp ρ ⟨dst, .call { callee := .value (.func f), args := args, argTypes := ts }, ty, pos, af, gd⟩).run P w = .ok (.enter f (args.map ρ)) w := by
  simp [execOp, resolve, Deferred.ofValue, hρ, invoke, hc]

theorem tupAt_rep {fr : Bool} : ∀ (τ : Ty) (x : τ.den) (vs : List Value) (i : Nat) (av : AV), RepArgs w (Avoid X.w0.heap.size X.Sc π fr) τ vs x → tupAt fr τ x i = some av →
    ∃ v, vs[i]? = some v ∧ RepAV X w π H av v
  | .pair a r, x, [], i, av, h, he => h.elim
  | .pair a r, x, v :: vs, 0, av, h, he => by
    simp only [tupAt, Option.some.injEq] at he; subst he
    exact ⟨v, rfl, h.1⟩
  | .pair a r, x, v :: vs, i + 1, av, h, he => by
    obtain ⟨u, hu, hr⟩ := tupAt_rep r x.2 vs i av h.2 he
    exact ⟨u, hu, hr⟩
  | .int _, _, _, i, _, _, he => by cases i <;> simp [tupAt] at he
  | .bool, _, _, i, _, _, he => by cases i <;> simp [tupAt] at he
  | .str, _, _, i, _, _, he => by cases i <;> simp [tupAt] at he
  | .slice _, _, _, i, _, _, he => by cases i <;> simp [tupAt] at he
  | .ptr _, _, _, i, _, _, he => by cases i <;> simp [tupAt] at he
  | .unit, _, _, i, _, _, he => by cases i <;> simp [tupAt] at he

theorem lenSl_rep (x : AV) (vx : Value) (n : Int) (hx : RepAV X w π H x vx) (h : lenSl x = some n) : ∃ a len cap, vx = .slice a len cap ∧ n = len := by
  unfold lenSl at h
  split at h
  · simp only [Option.some.injEq] at h; subst h
    exact ⟨none, 0, 0, hx, rfl⟩
  · simp only [Option.some.injEq] at h; subst h
    obtain ⟨cs, hc, rfl⟩ := hx
    simp only [Cells] at hc
    obtain ⟨a, len, cap, rfl, hl, _⟩ := hc
    exact ⟨a, len, cap, by simp [mkVal, Ty.isStruct], by rw [hl]⟩
  · rename_i l off len
    simp only [Option.some.injEq] at h; subst h
    obtain ⟨fr, e, tid, xs, _, _, ho⟩ := hx
    cases hp : π l with
    | none => rw [hp] at ho; obtain ⟨rfl, _, rfl⟩ := ho; exact ⟨none, 0, 0, rfl, rfl⟩
    | some r => rw [hp] at ho; obtain ⟨ad, rfl, _⟩ := ho; exact ⟨some ad, len, _, rfl, rfl⟩
  · cases h
theorem lenSt_rep (x : AV) (vx : Value) (n : Int) (hx : RepAV X w π H x vx) (h : lenSt x = some n) : ∃ s, vx = .string s ∧ n = s.size := by
  unfold lenSt at h
  split at h
  · simp only [Option.some.injEq] at h; subst h
    exact ⟨_, rep_str hx, rfl⟩
  · cases h

theorem evalMM_rep {st : St} {a : Act} (h : RelAt X π st a w) (mx : Bool) (args : List Operand) (av : AV) (ts : Array TypeId) (ty : TypeId) (he : evalMM mx (args.map st.ev) = some av) :
    ∃ v, (if mx then Builtin.max_ ts ty (args.map a.eval).toArray else Builtin.min_ ts ty (args.map a.eval).toArray).run P w = .ok v w ∧ RepAV X w π st.heap av v := by
  unfold evalMM at he
  split at he
  · rename_i k n k' m heq
    cases args with
    | nil => simp at heq
    | cons x r =>
      cases r with
      | nil => simp at heq
      | cons y r =>
        simp only [List.map_cons, List.cons.injEq, List.map_eq_nil_iff] at heq
        obtain ⟨hx, hy, rfl⟩ := heq
        split at he
        · rename_i hk; subst hk
          simp only [bInt, Option.some.injEq] at he; subst he
          have e1 := ev_rep h.2 x; rw [hx] at e1
          have e2 := ev_rep h.2 y; rw [hy] at e2
          have e1 := rep_int e1
          have e2 := rep_int e2
          refine ⟨_, ?_, mk_int _ _ _⟩
          cases mx <;> simp [Builtin.max_, Builtin.min_, Builtin.max2, Builtin.min2, e1, e2]
        · cases he
  · cases he

/-- **Every quiet operation is what the machine does.** -/
theorem evalQ_sound {Γ : Env} (hT : TabOK P T) (hΓ : EnvOK P Γ) {st : St} {a : Act} (h : RelAt X π st a w) (o : Oper) (av : AV) (he : evalQ T Γ st o = some av) :
    GoodQ P X π st.heap w av ((execOp a.eval o).run P w) := by
  obtain ⟨dst, op, ty, pos, af, gd⟩ := o
  have val : ∀ (s : Sem Value) (v : Value), s.run P w = .ok v w → RepAV X w π st.heap av v → (execOp a.eval ⟨dst, op, ty, pos, af, gd⟩ = do pure (.value (← s))) →
      GoodQ P X π st.heap w av ((execOp a.eval ⟨dst, op, ty, pos, af, gd⟩).run P w) := by
    intro s v h1 h2 h3
    rw [h3, Sem.run_bind, h1]
    exact ⟨rfl, h2⟩
  unfold evalQ at he
  split at he
  all_goals (rename_i hop; dsimp only at hop; try subst hop)
  · -- move
    simp only [Option.some.injEq] at he; subst he
    exact ⟨rfl, ev_rep h.2 _⟩
  · -- assign
    simp only [Option.some.injEq] at he; subst he
    exact ⟨rfl, ev_rep h.2 _⟩
  · -- pick
    rename_i c x y
    unfold evalPick at he
    split at he
    · rename_i fr b hc
      simp only [Option.some.injEq] at he; subst he
      have e := ev_rep h.2 c
      rw [hc] at e
      have e := rep_bool e
      have : (execOp a.eval ⟨dst, .pick c x y, ty, pos, af, gd⟩).run P w = .ok (.value (if b then a.eval x else a.eval y)) w := by
        simp [execOp, e, asBool]
      rw [this]
      refine ⟨rfl, ?_⟩
      cases b
      · exact ev_rep h.2 y
      · exact ev_rep h.2 x
    · cases he
  · -- load
    obtain ⟨v, h1, h2⟩ := evalLoad_rep hT h _ _ _ _ (ev_rep h.2 _) he
    exact val _ v h1 h2 rfl
  · -- nilCheck
    rename_i x
    have e := ev_rep h.2 x
    split at he
    · rename_i fr τ y hx
      simp only [Option.some.injEq] at he; subst he
      rw [hx] at e
      have e' := e
      obtain ⟨cs, hc, hv⟩ := e
      simp only [Cells] at hc
      obtain ⟨g, o, rfl, _⟩ := hc
      simp only [mkVal, Ty.isStruct, Bool.false_eq_true, if_false, List.headD_cons] at hv
      have : (execOp a.eval ⟨dst, .nilCheck x, ty, pos, af, gd⟩).run P w = .ok (.value (a.eval x)) w := by simp [execOp, hv]
      rw [this]; exact ⟨rfl, e'⟩
    · rename_i l i hx
      simp only [Option.some.injEq] at he; subst he
      rw [hx] at e
      have e' := e
      obtain ⟨r, tid, vs, _, _, hv⟩ := e
      have : (execOp a.eval ⟨dst, .nilCheck x, ty, pos, af, gd⟩).run P w = .ok (.value (a.eval x)) w := by simp [execOp, hv]
      rw [this]; exact ⟨rfl, e'⟩
    · rename_i l i hx
      simp only [Option.some.injEq] at he; subst he
      rw [hx] at e
      have e' := e
      obtain ⟨r, fr, e0, tid, xs, _, _, _, hv⟩ := e
      have : (execOp a.eval ⟨dst, .nilCheck x, ty, pos, af, gd⟩).run P w = .ok (.value (a.eval x)) w := by simp [execOp, hv]
      rw [this]; exact ⟨rfl, e'⟩
    · cases he
  · -- binOp
    obtain ⟨v, h1, h2⟩ := evalBinT_rep (P := P) hT _ _ _ _ _ _ _ _ av (ev_rep h.2 _) (ev_rep h.2 _) he
    exact val _ v h1 h2 rfl
  · -- unOp
    obtain ⟨v, h1, h2⟩ := evalUn_rep (P := P) _ _ _ av (ev_rep h.2 _) he
    exact val _ v h1 h2 rfl
  · -- convert
    rename_i s t x
    split at he
    · rename_i σ k fr1 k1 n hs ht hx
      simp only [bInt, Option.some.injEq] at he; subst he
      have e := ev_rep h.2 x
      rw [hx] at e
      have e := rep_int e
      have hd : P.underlying t = some (.int k) := (hT.ty _ _ ht).desc
      have hsrc : (P.underlying s).isSome = true := by
        obtain ⟨i, hi, _⟩ := (hT.ty _ _ hs).info
        have := (hT.ty _ _ hs).desc
        cases σ <;> simp only at this
        all_goals first
          | (rw [this]; rfl)
          | (obtain ⟨_, this, _⟩ := this; rw [this]; rfl)
          | (obtain ⟨_, this⟩ := this; rw [this]; rfl)
      exact val _ (.int k (k.wrap n)) (by
        obtain ⟨d, hd0⟩ := Option.isSome_iff_exists.1 hsrc
        rw [e]; simp [convert, run_underlying hd0, run_underlying hd, Conv.intToInt]) (mk_int _ _ _) rfl
    · cases he
  · -- slice
    rename_i t x lo hi mx
    split at he
    · cases he
    · rename_i hmx
      simp only [Bool.not_eq_true, Option.isSome_eq_false_iff, Option.isNone_iff_eq_none] at hmx
      subst hmx
      obtain ⟨v, h1, h2⟩ := evalSlice_rep hT h t _ _ lo hi av (ev_rep h.2 x) he
      exact val _ v h1 h2 rfl
  · -- fieldAddr
    obtain ⟨v, h1, h2⟩ := evalFieldAddr_rep hT _ _ _ _ av (ev_rep h.2 _) he
    exact val _ v h1 h2 rfl
  · -- field
    obtain ⟨v, h1, h2⟩ := evalField_rep hT _ _ _ _ av (ev_rep h.2 _) he
    exact val _ v h1 h2 rfl
  · -- indexAddr
    obtain ⟨v, h1, h2⟩ := evalIndexAddr_rep hT h _ _ _ _ _ av (ev_rep h.2 _) (ev_rep h.2 _) he
    exact val _ v h1 h2 rfl
  · -- index
    rename_i t x i
    unfold evalIndex at he
    split at he
    · rename_i fr1 s fr2 k n hx hi
      split at he
      · rename_i hty
        split at he
        · rename_i h0
          cases hb : s[n.toNat]? with
          | none => rw [hb] at he; cases he
          | some b =>
            rw [hb] at he
            simp only [Option.map_some, Option.some.injEq] at he; subst he
            have e1 := ev_rep h.2 x; rw [hx] at e1
            have e2 := ev_rep h.2 i; rw [hi] at e2
            have e1 := rep_str e1
            have e2 := rep_int e2
            have hu : P.underlying t = some .string := (hT.ty _ _ hty).desc
            have h0' : (0 : Int) ≤ n := h0
            exact val _ (.int .u8 b.toNat) (by
              rw [e1, e2]
              simp only [Instr.index, Sem.run_bind, asIntOf, Sem.run_pure, Result.andThen_ok, run_underlying hu]
              simp only [if_pos h0', hb, Sem.run_pure]) (mk_int _ _ _) rfl
        · cases he
      · cases he
    · cases he
  · -- extract
    rename_i x i
    split at he
    · rename_i fr τ y hx
      have e := ev_rep h.2 x
      rw [hx] at e
      obtain ⟨vs, hv, hr⟩ := e
      obtain ⟨u, hu, hr'⟩ := tupAt_rep (H := st.heap) τ y vs i av hr he
      exact val _ u (by rw [hv]; simp [Instr.extract, hu]) hr' rfl
    · cases he
  · -- call
    rename_i f args ts
    have := evalCall_rep hΓ h f args.toList av (by simpa using he)
    rw [run_call_value a.eval f args ts dst ty pos af gd rfl this.1]
    refine ⟨rfl, ?_⟩
    have h2 := this.2
    rwa [show (args.toList.map a.eval).toArray = args.map a.eval from by apply Array.ext'; simp] at h2
  · -- len
    rename_i args ts
    split at he
    · rename_i x t hargs hts
      have e1 : args = #[x] := by apply Array.ext'; simpa using hargs
      have e2 : ts = #[t] := by apply Array.ext'; simpa using hts
      subst e1; subst e2
      split at he
      · rename_i e hty
        cases hn : lenSl (st.ev x) with
        | none => rw [hn] at he; cases he
        | some n =>
          rw [hn] at he
          simp only [Option.bind_some, bInt, Option.some.injEq] at he; subst he
          obtain ⟨te, hu, _⟩ := (hT.ty _ _ hty).desc
          obtain ⟨ad, len, cap, hv, rfl⟩ := lenSl_rep _ _ n (ev_rep h.2 x) hn
          refine val (Builtin.len_ #[t] ty #[a.eval x]) (.int .i64 len) ?_ (mk_int _ _ _) ?_
          · rw [hv]; simp [Builtin.len_, run_underlying hu, goInt]
          · simp [execOp, resolve, invoke, builtin]
      · rename_i hty
        cases hn : lenSt (st.ev x) with
        | none => rw [hn] at he; cases he
        | some n =>
          rw [hn] at he
          simp only [Option.bind_some, bInt, Option.some.injEq] at he; subst he
          have hu : P.underlying t = some .string := (hT.ty _ _ hty).desc
          obtain ⟨s, hv, rfl⟩ := lenSt_rep _ _ n (ev_rep h.2 x) hn
          refine val (Builtin.len_ #[t] ty #[a.eval x]) (.int .i64 s.size) ?_ (mk_int _ _ _) ?_
          · rw [hv]; simp [Builtin.len_, run_underlying hu, goInt]
          · simp [execOp, resolve, invoke, builtin]
      · cases he
    · cases he
  · -- min
    rename_i args ts
    obtain ⟨v, h1, h2⟩ := evalMM_rep (P := P) h false args.toList av ts ty he
    rw [show (args.toList.map a.eval).toArray = args.map a.eval from by apply Array.ext'; simp] at h1
    refine val (Builtin.min_ ts ty (args.map a.eval)) v (by simpa only [Bool.false_eq_true, if_false, if_true] using h1) h2 ?_
    simp [execOp, resolve, invoke, builtin]
  · -- max
    rename_i args ts
    obtain ⟨v, h1, h2⟩ := evalMM_rep (P := P) h true args.toList av ts ty he
    rw [show (args.toList.map a.eval).toArray = args.map a.eval from by apply Array.ext'; simp] at h1
    refine val (Builtin.max_ ts ty (args.map a.eval)) v (by simpa only [Bool.false_eq_true, if_false, if_true] using h1) h2 ?_
    simp [execOp, resolve, invoke, builtin]
  · cases he
end
end Go.Proofs.Ytingphpncocimaa
