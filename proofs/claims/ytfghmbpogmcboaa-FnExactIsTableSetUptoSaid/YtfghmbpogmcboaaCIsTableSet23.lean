/-
  Part 24 of the proof that the statement FnExactIsTableSet holds.
-/
import Derived.Test.YtfghmbpogmcboaaCIsTableSet22
namespace Go.Proofs.Ytfghmbpogmcboaa
open Go.RowKit

/-- What is known of a slot as data stays. -/
def Holds (st st' : St) : Prop := ∀ (t : Nat) (fr : Bool) (τ : Ty) (x : τ.den), st.get t = .at (.data fr τ x) → st'.get t = .at (.data fr τ x)

theorem Holds.rfl' {st : St} : Holds st st := fun _ _ _ _ h => h
theorem Holds.trans {a b c : St} (h1 : Holds a b) (h2 : Holds b c) : Holds a c := fun t fr τ x h => h2 t fr τ x (h1 t fr τ x h)
theorem Holds.of_tmps {a b : St} (h : b.tmps = a.tmps) : Holds a b := fun t fr τ x hx => by
  simp only [St.get] at hx ⊢
  rw [h]
  exact hx
theorem keeps_mapAC (st : St) (f : AC → AC) (hu : f .undef = .undef) (hd : ∀ fr (τ : Ty) (x : τ.den), f (.data fr τ x) = .data fr τ x) : Holds st (st.mapAC f) := by
  intro t fr τ x h
  simp only [St.mapAC, St.get]
  rw [getD_map_av f hu, show st.tmps.getD t .undef = _ from h]
  simp only [AV.map, hd]
theorem keeps_forget (st : St) (l : Nat) : Holds st (st.forget l) :=
  (keeps_mapAC st (forgetAC l) rfl fun _ _ _ => rfl).trans (Holds.of_tmps rfl)
theorem keeps_freeze (st : St) (l : Nat) (fr : Bool) (e : Ty) (xs : List e.den) : Holds st (st.freeze l fr e xs) :=
  (keeps_mapAC st (freezeAC l fr e xs) rfl fun _ _ _ => rfl).trans (Holds.of_tmps rfl)
theorem keeps_freezeMap (st : St) (l : Nat) (v : Ty) (m : ByteArray → Option v.den) : Holds st (st.freezeMap l v m) :=
  (keeps_mapAC st (freezeM l v m) rfl fun _ _ _ => rfl).trans (Holds.of_tmps rfl)
theorem keeps_new (st : St) (l : Nat) (b : OB) : Holds st (st.new l b) := (keeps_forget st l).trans (Holds.of_tmps rfl)
theorem keeps_setB (st : St) (l : Nat) (b : OB) : Holds st (st.setB l b) := Holds.of_tmps rfl
theorem keeps_promoteNil (f0 t0 : Bool) (key l i : Nat) (te : TypeId) (e : Ty) (st : St) : Holds st (promoteNil f0 t0 key l i te e st) := by
  unfold promoteNil
  split
  · split
    · dsimp only
      split
      · exact (keeps_new _ _ _).trans (keeps_setB _ _ _)
      · exact keeps_new _ _ _
    · exact Holds.rfl'
  · exact Holds.rfl'
theorem keeps_promote (T : Tab) (l : Nat) (t : TypeId) (τ : Ty) : ∀ (n i : Nat) (st : St), Holds st (promote T l t τ n i st)
  | 0, _, _ => Holds.rfl'
  | n + 1, i, st => by
    simp only [promote]
    refine Holds.trans ?_ (keeps_promote T l t τ n (i + 1) _)
    split
    · exact keeps_promoteNil _ _ _ _ _ _ _ _
    · exact Holds.rfl'
theorem keeps_promoteS (T : Tab) (l off : Nat) (t : TypeId) (τ : Ty) : ∀ (n i : Nat) (st : St), Holds st (promoteS T l off t τ n i st)
  | 0, _, _ => Holds.rfl'
  | n + 1, i, st => by
    simp only [promoteS]
    refine Holds.trans ?_ (keeps_promoteS T l off t τ n (i + 1) _)
    split
    · exact keeps_promoteNil _ _ _ _ _ _ _ _
    · exact Holds.rfl'
theorem keeps_settleCells : ∀ (n : Nat) (st : St) (cs cs' : List AC) (st' : St), settleCells n st cs = some (cs', st') → Holds st st'
  | 0, st, cs, cs', st', h => by
    simp only [settleCells] at h
    split at h
    · injection h with h; injection h with h1 h2; subst h2; exact Holds.rfl'
    · cases h
  | n + 1, st, cs, cs', st', h => by
    simp only [settleCells] at h
    split at h
    · injection h with h; injection h with h1 h2; subst h2; exact Holds.rfl'
    · split at h
      · exact (keeps_freeze _ _ _ _ _).trans (keeps_settleCells n _ _ _ _ h)
      · exact (keeps_freeze _ _ _ _ _).trans (keeps_settleCells n _ _ _ _ h)
      · cases h
    · split at h
      · exact (keeps_freezeMap _ _ _ _).trans (keeps_settleCells n _ _ _ _ h)
      · cases h
    · cases h
theorem keeps_settle {st st' : St} {v v' : AV} (h : settle st v = some (v', st')) : Holds st st' := by
  unfold settle at h
  split at h
  · split at h
    · injection h with h; injection h with h1 h2; subst h2; exact keeps_freeze _ _ _ _ _
    · injection h with h; injection h with h1 h2; subst h2; exact keeps_freeze _ _ _ _ _
    · cases h
  · split at h
    · injection h with h; injection h with h1 h2; subst h2; exact keeps_freezeMap _ _ _ _
    · cases h
  · split at h
    · injection h with h; injection h with h1 h2; subst h2; exact Holds.rfl'
    · cases h
  · rename_i cs
    cases hs : settleCells cs.length st cs with
    | none => rw [hs] at h; cases h
    | some p => rw [hs] at h; injection h with h; injection h with h1 h2; subst h2; exact keeps_settleCells _ _ _ _ _ hs
  · injection h with h; injection h with h1 h2; subst h2; exact Holds.rfl'
  · cases h
theorem keeps_mkVar {T : Tab} {st st' : St} {l : Nat} {t : TypeId} {τ : Ty} {cs : List AC} {v : AV} (h : mkVar T st l t τ cs = some (v, st')) : Holds st st' := by
  unfold mkVar at h
  split at h
  · cases h
  dsimp only at h
  split at h
  · injection h with h; injection h with h1 h2; subst h2; exact (keeps_new _ _ _).trans (keeps_promote _ _ _ _ _ _ _)
  · cases h
theorem keeps_store {T : Tab} {st st' : St} {t : TypeId} {p v : AV} (h : evalStore T st t p v = some st') : Holds st st' := by
  unfold evalStore at h
  split at h
  · split at h
    · split at h
      · injection h with h
        split at h
        · subst h; exact (keeps_setB _ _ _).trans (keeps_promoteS _ _ _ _ _ _ _ _)
        · subst h; exact keeps_setB _ _ _
      · cases h
    · cases h
  · split at h
    · rename_i hs
      split at h
      · split at h
        · split at h
          · injection h with h; subst h; exact (keeps_settle hs).trans (keeps_setB _ _ _)
          · cases h
        · cases h
      · cases h
    · cases h
  · cases h
theorem keeps_append {T : Tab} {st st' : St} {d : Nat} {t : TypeId} {x y : Operand} {v : AV} (h : evalAppend T st d t x y = some (v, st')) : Holds st st' := by
  unfold evalAppend at h
  split at h
  · cases h
  · split at h
    · rename_i hs
      split at h
      · cases h
      · split at h
        · split at h
          · injection h with h; injection h with h1 h2; subst h2; exact ((keeps_settle hs).trans (keeps_new _ _ _)).trans (keeps_new _ _ _)
          · cases h
        · split at h
          · split at h
            · split at h
              · injection h with h; injection h with h1 h2; subst h2; exact (keeps_settle hs).trans (keeps_new _ _ _)
              · cases h
            · cases h
          · cases h
        · cases h
    · cases h
theorem keeps_make {T : Tab} {st st' : St} {d : Nat} {t : TypeId} {l c v : AV} (h : evalMake T st d t l c = some (v, st')) : Holds st st' := by
  unfold evalMake at h
  split at h
  · split at h
    · split at h
      · injection h with h; injection h with h1 h2; subst h2; exact keeps_new _ _ _
      · cases h
    · cases h
  · cases h
theorem keeps_parts (e : Ty) : ∀ (l : List (Nat × Operand)) (i : Nat) (st st' : St) (fr tr : Bool) (ys : List e.den), buildParts e i l st = some (fr, tr, ys, st') → Holds st st'
  | [], _, _, _, _, _, _, h => by
    simp only [buildParts] at h
    injection h with h; injection h with h1 h2; injection h2 with h2 h3; injection h3 with h3 h4; subst h4; exact Holds.rfl'
  | (j, x) :: r, i, st, st', fr, tr, ys, h => by
    simp only [buildParts] at h
    split at h
    · split at h
      · rename_i hs
        split at h
        · split at h
          · rename_i hp
            injection h with h; injection h with h1 h2; injection h2 with h2 h3; injection h3 with h3 h4; subst h4
            exact (keeps_settle hs).trans (keeps_parts e r _ _ _ _ _ _ hp)
          · cases h
        · cases h
      · cases h
    · cases h
theorem keeps_buildSlice {T : Tab} {st st' : St} {d : Nat} {t : TypeId} {n : Nat} {parts : Array (Nat × Operand)} {v : AV} (h : evalBuildSlice T st d t n parts = some (v, st')) : Holds st st' := by
  unfold evalBuildSlice at h
  split at h
  · cases h
  · split at h
    · cases h
    · split at h
      · split at h
        · rename_i hp
          injection h with h; injection h with h1 h2; subst h2; exact (keeps_parts _ _ _ _ _ _ _ _ hp).trans (keeps_new _ _ _)
        · cases h
      · cases h
theorem keeps_makeMap {T : Tab} {st st' : St} {d : Nat} {t : TypeId} {v : AV} (h : evalMakeMap T st d t = some (v, st')) : Holds st st' := by
  unfold evalMakeMap at h
  split at h
  · split at h
    · injection h with h; injection h with h1 h2; subst h2; exact keeps_new _ _ _
    · cases h
  · cases h
theorem keeps_mapSet {T : Tab} {st st' : St} {t : TypeId} {m k x : AV} (h : evalMapSet T st t m k x = some st') : Holds st st' := by
  unfold evalMapSet at h
  split at h
  · split at h
    · split at h
      · injection h with h; subst h; exact keeps_setB _ _ _
      · cases h
    · cases h
  · cases h
theorem keeps_copy {T : Tab} {st st' : St} {t t' : TypeId} {x y v : AV} (h : evalCopy T st t t' x y = some (v, st')) : Holds st st' := by
  unfold evalCopy at h
  split at h
  · split at h
    · split at h
      · split at h
        · injection h with h; injection h with h1 h2; subst h2; exact keeps_setB _ _ _
        · cases h
      · cases h
    · cases h
  · cases h
theorem keeps_clear {T : Tab} {st st' : St} {t : TypeId} {x : AV} (h : evalClear T st t x = some st') : Holds st st' := by
  unfold evalClear at h
  split at h
  · split at h
    · split at h
      · split at h
        · injection h with h; subst h; exact keeps_setB _ _ _
        · cases h
      · cases h
    · cases h
  · cases h
theorem putC_tmps {st st' : St} {c : CK} {ys : c.den} {a : AC} (h : putC st c ys a = some st') : st'.tmps = st.tmps := by
  unfold putC at h
  repeat' split at h
  all_goals first | (cases h; done) | (simp only [Option.some.injEq] at h; subst h; rfl) | skip
theorem putP_tmps {st st' : St} {e : Ty} {ys : List e.den} {a : AC} (h : putP st e ys a = some st') : st'.tmps = st.tmps := by
  unfold putP at h
  repeat' split at h
  all_goals first | (cases h; done) | (simp only [Option.some.injEq] at h; subst h; rfl) | skip
theorem putIO_tmps : ∀ (cs : List (Bool × CK)) (o : IOs.den cs) (as : List AC) (st st' : St), putIO cs o as st = some st' → st'.tmps = st.tmps
  | [], _, _, st, st', h => by simp only [putIO, Option.some.injEq] at h; subst h; rfl
  | (true, .dat _) :: r, o, [], st, st', h => by simp [putIO] at h
  | (true, .row _ _) :: r, o, [], st, st', h => by simp [putIO] at h
  | (true, .xrow _ _) :: r, o, [], st, st', h => by simp [putIO] at h
  | (true, .part _ _) :: r, o, [], st, st', h => by simp [putIO] at h
  | (false, _) :: r, o, [], st, st', h => by simp [putIO] at h
  | (true, .dat _) :: r, o, a :: as, st, st', h => putIO_tmps r o as st st' (by simpa only [putIO] using h)
  | (false, _) :: r, o, a :: as, st, st', h => putIO_tmps r o as st st' (by simpa only [putIO] using h)
  | (true, .row _ _) :: r, o, a :: as, st, st', h => by
    simp only [putIO] at h
    split at h
    · rename_i hc; exact (putIO_tmps r o.2 as _ st' h).trans (putC_tmps hc)
    · cases h
  | (true, .part _ _) :: r, o, a :: as, st, st', h => by
    simp only [putIO] at h
    split at h
    · rename_i hc; exact (putIO_tmps r o.2 as _ st' h).trans (putP_tmps hc)
    · cases h
  | (true, .xrow _ _) :: r, o, a :: as, st, st', h => by
    simp only [putIO] at h
    split at h
    · rename_i hc; exact (putIO_tmps r o.2 as _ st' h).trans (putC_tmps hc)
    · cases h
theorem keeps_callM {st st' : St} {d : Option Nat} {s : MSpec} {args : List AV} {v : AV} (h : evalCallM st d s args = some (v, st')) : Holds st st' := by
  unfold evalCallM at h
  split at h
  · cases h
  split at h
  · cases h
  split at h
  · split at h
    · cases h
    split at h
    · cases h
    rename_i st1 hp
    dsimp only at h
    cases hr : retA s.multi s.rshapes _ with
    | none => rw [hr] at h; cases h
    | some u =>
      rw [hr] at h
      simp only [Option.map_some, Option.some.injEq, Prod.mk.injEq] at h
      obtain ⟨_, rfl⟩ := h
      refine Holds.trans (Holds.of_tmps (putIO_tmps _ _ _ _ _ hp)) ?_
      refine Holds.trans (keeps_mapAC st1 (forgetLs _ _) (by simp [forgetLs, AC.refs]) fun fr τ x => by simp [forgetLs, AC.refs]) (Holds.of_tmps rfl)
  · cases h
theorem keeps_map {st st' : St} {v : AV} {o : Option AV} (h : o.map (fun v => (v, st)) = some (v, st')) : Holds st st' := by
  cases o with
  | none => cases h
  | some u => injection h with h; injection h with h1 h2; subst h2; exact Holds.rfl'
theorem keeps_settleOps : ∀ (l : List Operand) {st st1 : St}, settleOps l st = some st1 → Holds st st1
  | [], st, st1, h => by
    simp only [settleOps, Option.some.injEq] at h
    subst h
    exact Holds.rfl'
  | x :: r, st, st1, h => by
    simp only [settleOps] at h
    cases hs : settle st (st.ev x) with
    | none => rw [hs] at h; cases h
    | some p =>
      rw [hs] at h
      exact (keeps_settle (v' := p.1) (st' := p.2) hs).trans (keeps_settleOps r h)
theorem evalOp_keeps {T : Tab} {Γ : Env} {st st' : St} {o : Oper} {v : AV} (h : evalOp T Γ st o = some (v, st')) : Holds st st' := by
  unfold evalOp at h
  split at h
  · split at h
    · split at h
      · injection h with h; injection h with h1 h2; subst h2; exact keeps_new _ _ _
      · cases h
    · injection h with h; injection h with h1 h2; subst h2; exact Holds.rfl'
  · split at h
    · exact keeps_mkVar h
    · cases h
  · split at h
    · split at h
      · exact keeps_mkVar h
      · cases h
    · cases h
  · rename_i t p x _
    cases hs : evalStore T st t (st.ev p) (st.ev x) with
    | none => rw [hs] at h; cases h
    | some s => rw [hs] at h; injection h with h; injection h with h1 h2; subst h2; exact keeps_store hs
  · split at h
    · exact keeps_make h
    · cases h
  · split at h
    · exact keeps_makeMap h
    · cases h
  · rename_i t m k x _
    cases hs : evalMapSet T st t (st.ev m) (st.ev k) (st.ev x) with
    | none => rw [hs] at h; cases h
    | some s => rw [hs] at h; injection h with h; injection h with h1 h2; subst h2; exact keeps_mapSet hs
  · rename_i t m k x _
    cases hs : evalMapSet T st t (st.ev m) (st.ev k) (st.ev x) with
    | none => rw [hs] at h; cases h
    | some s => rw [hs] at h; injection h with h; injection h with h1 h2; subst h2; exact keeps_mapSet hs
  · split at h
    · exact keeps_buildSlice h
    · cases h
  · exact keeps_map h
  · split at h
    · split at h
      · exact keeps_append h
      · cases h
    · cases h
  · split at h
    · exact keeps_copy h
    · cases h
  · split at h
    · rename_i x t _ _
      cases hs : evalClear T st t (st.ev x) with
      | none => rw [hs] at h; cases h
      | some s => rw [hs] at h; injection h with h; injection h with h1 h2; subst h2; exact keeps_clear hs
    · cases h
  · split at h
    · exact keeps_callM h
    · split at h
      · rename_i args _ _ _ _ _ _
        cases hs : settleOps args.toList st with
        | none => rw [hs] at h; cases h
        | some st1 =>
          rw [hs] at h
          exact (keeps_settleOps _ hs).trans (keeps_map h)
      · exact keeps_map h
    · exact keeps_map h
  · exact keeps_map h

/-- The slots that code writes. -/
def writesOps : List Oper → List Nat
  | [] => []
  | o :: r => (match o.dst with | some d => [d] | none => []) ++ writesOps r
def writes : Code → List Nat
  | .region _ ops _ => writesOps ops.toList
  | .seq a b => writes a ++ writes b
  | .cond _ a b => writes a ++ writes b
  | .block _ c => writes c
  | .loop c => writes c
  | _ => []

def HoldsOn (P : Nat → Prop) (st st' : St) : Prop := ∀ (t : Nat) (fr : Bool) (τ : Ty) (x : τ.den), P t → st.get t = .at (.data fr τ x) → st'.get t = .at (.data fr τ x)
theorem HoldsOn.trans {P : Nat → Prop} {a b c : St} (h1 : HoldsOn P a b) (h2 : HoldsOn P b c) : HoldsOn P a c := fun t fr τ x hp h => h2 t fr τ x hp (h1 t fr τ x hp h)
theorem HoldsOn.mono {P Q : Nat → Prop} {a b : St} (h1 : HoldsOn P a b) (h : ∀ t, Q t → P t) : HoldsOn Q a b := fun t fr τ x hp hx => h1 t fr τ x (h t hp) hx
theorem Holds.on {P : Nat → Prop} {a b : St} (h : Holds a b) : HoldsOn P a b := fun t fr τ x _ hx => h t fr τ x hx

theorem get_put_ne (st : St) {t d : Nat} (v : AV) (h : t ≠ d) : (st.put (some d) v).get t = st.get t := by
  simp only [St.put, St.get]
  rw [setL_getD]
  rw [if_neg (by rintro ⟨rfl, _⟩; exact h rfl)]
theorem keepsOn_put (st : St) (dst : Option Tmp) (v : AV) : HoldsOn (fun t => dst ≠ some t) st (st.put dst v) := by
  intro t fr τ x hp hx
  cases dst with
  | none => exact hx
  | some d => rw [get_put_ne st v (fun h => hp (by rw [h]))]; exact hx

theorem evalStep_keeps {T : Tab} {Γ : Env} {ops : Array Oper} {st st' : St} {o : Oper} (h : evalStep T Γ ops st o = some st') : HoldsOn (fun t => o.dst ≠ some t) st st' := by
  have key : ∀ s, (evalOp T Γ st o).map (fun r => r.2.put o.dst r.1) = some s → HoldsOn (fun t => o.dst ≠ some t) st s := by
    intro s hs
    cases he : evalOp T Γ st o with
    | none => rw [he] at hs; cases hs
    | some p => rw [he] at hs; injection hs with hs; subst hs; exact (evalOp_keeps (v := p.1) (st' := p.2) he).on.trans (keepsOn_put _ _ _)
  unfold evalStep at h
  split at h
  · exact key _ h
  · split at h
    · split at h
      · exact key _ h
      · injection h with h; subst h; exact keepsOn_put _ _ _
    · injection h with h; subst h; exact keepsOn_put _ _ _
    · cases h

theorem evalOps_keeps {T : Tab} {Γ : Env} {ops : Array Oper} : ∀ (l : List Oper) (st st' : St), evalOps T Γ ops l st = some st' → HoldsOn (fun t => t ∉ writesOps l) st st'
  | [], st, st', h => by injection h with h; subst h; exact Holds.rfl'.on
  | o :: r, st, st', h => by
    simp only [evalOps] at h
    split at h
    · rename_i s hs
      refine HoldsOn.trans ((evalStep_keeps hs).mono fun t ht => ?_) ((evalOps_keeps r _ _ h).mono fun t ht => ?_)
      · intro hd; apply ht; simp [writesOps, hd]
      · intro hd; apply ht; simp [writesOps, hd]
    · cases h
theorem mem_writesOps : ∀ (l : List Oper) (o : Oper) (d : Nat), o ∈ l → o.dst = some d → d ∈ writesOps l
  | [], _, _, h, _ => by cases h
  | p :: r, o, d, h, hd => by
    cases h with
    | head => simp [writesOps, hd]
    | tail _ h => simp only [writesOps, List.mem_append]; exact .inr (mem_writesOps r o d h hd)
theorem opsAt_mem {ops : Array Oper} {i : Nat} {o : Oper} (h : ops[i]? = some o) : o ∈ ops.toList := by
  rw [Array.getElem?_eq_some_iff] at h
  obtain ⟨h1, h2⟩ := h
  rw [← h2]
  simp
theorem evalIdx_keeps {T : Tab} {Γ : Env} {ops : Array Oper} : ∀ (l : List Nat) (st st' : St), evalIdx T Γ ops l st = some st' → HoldsOn (fun t => t ∉ writesOps ops.toList) st st'
  | [], st, st', h => by injection h with h; subst h; exact Holds.rfl'.on
  | i :: r, st, st', h => by
    simp only [evalIdx] at h
    split at h
    · cases h
    · rename_i o ho
      split at h
      · rename_i s hs
        exact ((evalStep_keeps hs).mono fun t ht hd => ht (mem_writesOps _ _ _ (opsAt_mem ho) hd)).trans (evalIdx_keeps r _ _ h)
      · cases h
theorem evalOpsQ_keeps {T : Tab} {Γ : Env} {ops : Array Oper} : ∀ (l : List Nat) (st st' : St), evalOpsQ T Γ ops l st = some st' → HoldsOn (fun t => t ∉ writesOps ops.toList) st st'
  | [], st, st', h => by injection h with h; subst h; exact Holds.rfl'.on
  | i :: r, st, st', h => by
    simp only [evalOpsQ] at h
    split at h
    · cases h
    · rename_i o ho
      split at h
      · exact ((keepsOn_put _ _ _).mono fun t ht hd => ht (mem_writesOps _ _ _ (opsAt_mem ho) hd)).trans (evalOpsQ_keeps r _ _ h)
      · cases h

theorem keeps_forgetAll : ∀ (l : List Nat) (st : St), Holds st (forgetAll l st)
  | [], _ => Holds.rfl'
  | a :: r, st => (keeps_forget st a).trans (keeps_forgetAll r _)
theorem clearTmps_live (live : List Nat) : ∀ (i : Nat) (l : List AV) (t : Nat), i + t ∈ live → (clearTmps live i l).getD t .undef = l.getD t .undef
  | _, [], _, _ => rfl
  | i, v :: r, 0, h => by simp [clearTmps]; intro hn; exact absurd h hn
  | i, v :: r, t + 1, h => by
    simp only [clearTmps, List.getD_cons_succ]
    exact clearTmps_live live (i + 1) r t (by rw [show i + 1 + t = i + (t + 1) by omega]; exact h)
theorem keeps_rename (l k : Nat) (st : St) : Holds st (st.rename l k) := by
  unfold St.rename
  split
  · split
    · exact (keeps_mapAC st (renAC l k) rfl fun _ _ _ => rfl).trans (Holds.of_tmps rfl)
    · exact Holds.rfl'
  · exact Holds.rfl'
theorem keeps_renameRows : ∀ (n t : Nat) (st : St), Holds st (renameRows n t st)
  | 0, _, _ => Holds.rfl'
  | n + 1, t, st => by
    simp only [renameRows]
    refine Holds.trans ?_ (keeps_renameRows n (t + 1) _)
    split
    · split
      · split
        · exact Holds.rfl'
        · exact keeps_rename _ _ _
      · exact Holds.rfl'
    · exact Holds.rfl'
theorem keepsOn_clean (live : List Nat) (st : St) : HoldsOn (fun t => t ∈ live) st (st.clean live) := by
  intro t fr τ x hp hx
  unfold St.clean
  have key : ∀ s : St, s.get t = .at (.data fr τ x) → (if live.contains renMark then renameRows s.tmps.length 0 s else s).get t = .at (.data fr τ x) := by
    intro s hs
    split
    · exact keeps_renameRows _ _ s t fr τ x hs
    · exact hs
  have key0 : ∀ s : St, s.get t = .at (.data fr τ x) → (if live.any (fun t => Nat.ble weakMark t) then s.weak live else s).get t = .at (.data fr τ x) := by
    intro s hs
    split <;> exact hs
  refine key0 _ (key _ (keeps_forgetAll _ _ t fr τ x ?_))
  simp only [St.get] at hx ⊢
  rw [clearTmps_live live 0 st.tmps t (by simpa using hp)]
  exact hx

/-- A slot that no loop within lets go. -/
def keptIn (live : Nat → List Nat) : Code → Nat → Bool
  | .seq a b, t => keptIn live a t && keptIn live b t
  | .cond _ a b, t => keptIn live a t && keptIn live b t
  | .block _ c, t => keptIn live c t
  | .loop c, t => (live (headId c)).contains t && keptIn live c t
  | _, _ => true
theorem and_left' {a b : Bool} (h : (a && b) = true) : a = true := by cases a <;> simp_all
theorem and_right' {a b : Bool} (h : (a && b) = true) : b = true := by cases a <;> simp_all

theorem evalRegion_keeps {T : Tab} {Γ : Env} {ops : Array Oper} {draw : Bool} {st st' : St} (h : evalRegion T Γ ops draw st = some st') : HoldsOn (fun t => t ∉ writes (.region 0 ops draw)) st st' := by
  unfold evalRegion at h
  have go : ∀ q, (match evalOpsQ T Γ ops (headOps q Γ ops) st with
      | some s => evalIdx T Γ ops (tailOps q Γ ops) s
      | none => none) = some st' → HoldsOn (fun t => t ∉ writes (.region 0 ops draw)) st st' := by
    intro q h
    split at h
    · rename_i s hs
      exact (evalOpsQ_keeps _ _ _ hs).trans (evalIdx_keeps _ _ _ h)
    · cases h
  split at h
  · split at h
    · exact go false h
    · split at h
      · exact go true h
      · cases h
  · exact evalOps_keeps _ _ _ h
theorem anyS_keeps {T : Tab} {Γ : Env} {ops : Array Oper} {draw : Bool} {K : St → Prop} (s0 : St) : ∀ (f : Nat) (listed : Array Bool) (st : St), HoldsOn (fun t => t ∉ writes (.region 0 ops draw)) s0 st → anyS T Γ ops K f listed st → anyS T Γ ops (fun s => K s ∧ HoldsOn (fun t => t ∉ writes (.region 0 ops draw)) s0 s) f listed st
  | 0, _, _, hk, h => ⟨h.1, h.2, hk⟩
  | f + 1, listed, st, hk, h => ⟨h.1, fun i hi => by
    obtain ⟨o, st', h1, h2, h3⟩ := h.2 i hi
    have h4 : evalIdx T Γ ops [i] st = some st' := by simp only [evalIdx, h1, h2]
    exact ⟨o, st', h1, h2, anyS_keeps s0 f _ _ (hk.trans (evalIdx_keeps _ _ _ h4)) h3⟩⟩
theorem RegR.keeps {T : Tab} {Γ : Env} {ops : Array Oper} {draw : Bool} {st : St} {K : St → Prop} (h : RegR T Γ ops draw st K) : RegR T Γ ops draw st (fun s => K s ∧ HoldsOn (fun t => t ∉ writes (.region 0 ops draw)) st s) := by
  rcases h with ⟨st', h1, h2⟩ | ⟨h1, h2, st0, h3, h4⟩
  · exact .inl ⟨st', h1, h2, evalRegion_keeps h1⟩
  · exact .inr ⟨h1, h2, st0, h3, anyS_keeps st _ _ _ (evalOpsQ_keeps _ _ _ h3) h4⟩

theorem runs_keeps {T : Tab} {Γ : Env} {live : Nat → List Nat} {c : Code} {st : St} {Q : AExit → St → Prop} (h : Runs T Γ live c st Q) : ∀ (s0 : St) (p : Nat → Prop), HoldsOn p s0 st → (∀ t, p t → t ∉ writes c ∧ keptIn live c t = true) → Runs T Γ live c st (fun e s => Q e s ∧ HoldsOn p s0 s) := by
  induction h with
  | skip h => exact fun s0 p hk _ => .skip ⟨h, hk⟩
  | label h => exact fun s0 p hk _ => .label ⟨h, hk⟩
  | exit h => exact fun s0 p hk _ => .exit ⟨h, hk⟩
  | ret h => exact fun s0 p hk _ => .ret ⟨h, hk⟩
  | region h =>
    exact fun s0 p hk hp => .region (h.keeps.mono fun s hs => ⟨hs.1, hk.trans (hs.2.mono fun t ht => (hp t ht).1)⟩)
  | seq Q1 _ _ h3 ih1 ih2 =>
    exact fun s0 p hk hp => .seq _ (ih1 s0 p hk fun t ht => ⟨fun hm => (hp t ht).1 (by simp [writes, hm]), and_left' (hp t ht).2⟩)
      (fun s hs => ih2 s hs.1 s0 p hs.2 fun t ht => ⟨fun hm => (hp t ht).1 (by simp [writes, hm]), and_right' (hp t ht).2⟩) fun e s he hs => ⟨h3 e s he hs.1, hs.2⟩
  | cond hc _ _ ih1 ih2 =>
    exact fun s0 p hk hp => .cond hc (fun ht => ih1 ht s0 p hk fun t h => ⟨fun hm => (hp t h).1 (by simp [writes, hm]), and_left' (hp t h).2⟩)
      fun ht => ih2 ht s0 p hk fun t h => ⟨fun hm => (hp t h).1 (by simp [writes, hm]), and_right' (hp t h).2⟩
  | block Q1 _ h2 ih =>
    exact fun s0 p hk hp => .block _ (ih s0 p hk fun t ht => ⟨fun hm => (hp t ht).1 (by simpa [writes] using hm), by simpa [keptIn] using (hp t ht).2⟩) fun e s hs => by
      have h := h2 e s hs.1
      cases e with
      | normal => exact ⟨h, hs.2⟩
      | ret => exact ⟨h, hs.2⟩
      | exit id' =>
        simp only [inBlk] at h ⊢
        split at h
        · rename_i hi; rw [if_pos hi]; exact ⟨h, hs.2⟩
        · rename_i hi; rw [if_neg hi]; exact ⟨h, hs.2⟩
  | loop Q1 _ _ h3 ih1 ih2 =>
    intro s0 p hk hp
    refine .loop _ (ih1 s0 p (hk.trans ((keepsOn_clean _ _).mono fun t ht => by simpa using and_left' (hp t ht).2)) fun t ht => ⟨fun hm => (hp t ht).1 (by simpa [writes] using hm), and_right' (hp t ht).2⟩)
      (fun s hs => ih2 s hs.1 s0 p hs.2 hp) fun e s he hs => ⟨h3 e s he hs.1, hs.2⟩
end Go.Proofs.Ytfghmbpogmcboaa
