/-
  Part 7 of the proof that the statement FnExactIsTableSet holds.
-/
import Derived.Test.YtfghmbpogmcboaaCIsTableSet05
namespace Go.Proofs.Ytfghmbpogmcboaa
open Go.RowKit

section
variable {P : Program} {T : Tab} {X : Ctx} {w w' : World} {π : Pi} {H : List (Nat × OB)}

/-- What a quiet operation comes to: the value in the very world; or a call that turns no old block. -/
def GoodQ (P : Program) (X : Ctx) (π : Pi) (H : List (Nat × OB)) (w : World) (av : AV) : Result Next → Prop
  | .ok (.value v) w' => w' = w ∧ RepAV X w π H av v
  | .ok (.enter f args) w' => w' = w ∧ Calls P f args w (fun e w'' => ∃ v, e = .returned v ∧ Below w.heap.size w w'' ∧ RepAV X w'' π H av v)
  | _ => False

def RepRes (s : Spec) (w : World) (S : Nat → Prop) (v : Value) (y : s.res.den) : Prop :=
  if s.multi then ∃ us : List Value, v = .tuple us.toArray ∧ RepArgs w S s.res us y else RepVal w S s.res v y

/-- **A function does what its plain form says**: wherever that form gives a result. -/
structure Sound (P : Program) (f : FuncId) (s : Spec) : Prop where
  enter : ∀ args w, (callFunc f args).run P w = .ok (.enter f args) w
  calls : ∀ (w : World) (S : Nat → Prop) (vs : List Value) (x : s.arg.den) (y : s.res.den), (∀ k, S k → k < w.heap.size) → RepArgs w S s.arg vs x → s.fn x = some y →
    Calls P f vs.toArray w fun e w' => ∃ v, e = .returned v ∧ Below w.heap.size w w' ∧ RepRes s w' (fun b => S b ∨ (s.fresh = true ∧ b < w.heap.size)) v y

/-- A row; its elements meet no block of D. -/
def FArr (w : World) (D : Nat → Prop) (r : Option Real) (e : Ty) (xs : List e.den) : Prop :=
  match r with
  | none => xs = []
  | some r => (r.foot r.g ∧ (∀ b, r.foot b → b = r.g)) ∧ ∃ (cur : Array Value) (ti : TypeId), w.heap[r.g]? = some (.cells cur ti (0, 0)) ∧ cur.size = (r.o + r.cap) * e.size ∧ r.cap ≤ maxLen ∧ xs.length ≤ r.cap ∧
      (∀ (i : Nat) (x : e.den), xs[i]? = some x → ∃ es : List Value, es.length = e.size ∧ (∀ j u, es[j]? = some u → cur[(r.o + i) * e.size + j]? = some u) ∧ Cells w D e es x)
/-- A contract's row in the world. -/
def RowAt (w : World) (D : Nat → Prop) (r : Option Real) : (c : CK) → c.den → Prop
  | .dat _, _ => r = none
  | .row e _, xs => FArr w D r e xs
  | .xrow e te, xs => XArrAt w r e te xs
  | .part e _, x => e.flat = true ∧ FArr w D r e x.1
/-- A contract's cell in the world. -/
def CKAt (w : World) (D : Nat → Prop) (r : Option Real) (v : Value) : (c : CK) → c.den → Prop
  | .dat τ, x => r = none ∧ RepVal w D τ v x
  | .row e te, xs => OwnVal r e.size 0 (List.length xs) v ∧ RowAt w D r (.row e te) xs
  | .xrow e te, xs => OwnVal r e.size 0 (List.length xs) v ∧ RowAt w D r (.xrow e te) xs
  | .part e te, x => (OwnVal r e.size x.2.1 x.2.2 v ∧ x.2.1 + x.2.2 ≤ List.length x.1) ∧ RowAt w D r (.part e te) x
def InAt (w : World) (D : Nat → Prop) (π : Pi) : (k : Nat) → (cs : List (Bool × CK)) → Ins.den cs → List Value → Prop
  | _, [], _, [] => True
  | k, p :: r, x, u :: us => CKAt w D (π (rowL p.1 k)) u p.2 x.1 ∧ InAt w D π (k + 1) r x.2 us
  | _, _, _, _ => False
def IOAt (w : World) (D : Nat → Prop) (π : Pi) : (k : Nat) → (cs : List (Bool × CK)) → IOs.den cs → Prop
  | _, [], _ => True
  | k, (true, .dat _) :: r, x => IOAt w D π (k + 1) r x
  | k, (true, .row e te) :: r, x => RowAt w D (π (rowL true k)) (.row e te) x.1 ∧ IOAt w D π (k + 1) r x.2
  | k, (true, .xrow e te) :: r, x => RowAt w D (π (rowL true k)) (.xrow e te) x.1 ∧ IOAt w D π (k + 1) r x.2
  | k, (true, .part e te) :: r, x => RowAt w D (π (rowL true k)) (.row e te) x.1 ∧ IOAt w D π (k + 1) r x.2
  | k, (false, _) :: r, x => IOAt w D π (k + 1) r x
def OutAt (w : World) (D : Nat → Prop) (ρ : Pi) : (k : Nat) → (cs : List CK) → CKs.den cs → List Value → Prop
  | _, [], _, [] => True
  | k, c :: r, x, u :: us => CKAt w D (ρ (resL k)) u c x.1 ∧ OutAt w D ρ (k + 1) r x.2 us
  | _, _, _, _ => False
/-- Rows lie apart. -/
structure Places (π : Pi) (A : Nat → Prop) : Prop where
  at' : ∀ l r b, π l = some r → r.foot b → A b
  inj : ∀ l l' r r' b, π l = some r → π l' = some r' → r.foot b → r'.foot b → l = l'
/-- Every struct's cells are there. -/
def shapeOK : List (Option Nat) → List Value → Prop
  | [], [] => True
  | none :: s, _ :: us => shapeOK s us
  | some n :: s, us => n ≤ us.length ∧ (∀ u ∈ us.take n, u.oneCell' = true) ∧ shapeOK s (us.drop n)
  | _, _ => False
def retV (multi : Bool) (sh : List (Option Nat)) (us : List Value) (v : Value) : Prop := if multi then v = .tuple (groupV sh us).toArray else groupV sh us = [v] ∨ groupV sh us = []
/-- What the data that are handed back meet no block of: the caller's, the rows that go back to their places, the new rows. -/
def DOut (S : Nat → Prop) (π ρ : Pi) (b : Nat) : Prop := S b ∨ (∃ l q, pinFrom ≤ l ∧ π l = some q ∧ q.foot b) ∨ Own ρ b
/-- **A function of the second kind does what its plain form says.** -/
structure MSound (P : Program) (f : FuncId) (s : MSpec) : Prop where
  enter : ∀ args w, (callFunc f args).run P w = .ok (.enter f args) w
  calls : ∀ (w : World) (S : Nat → Prop) (π : Pi) (us : List Value) (x : Ins.den s.ins) (r : CKs.den s.outs) (o : IOs.den s.ins),
    shapeOK s.shapes us → InAt w (fun b => Own π b ∨ S b) π 0 s.ins x us → Places π (fun b => b < w.heap.size) → (∀ b, S b → b < w.heap.size ∧ ¬ Own π b) → (∀ l, hget (inOB 0 s.ins x) l = none → π l = none) → s.fn x = some (r, o) →
    Calls P f (groupV s.shapes us).toArray w fun e w' => ∃ v us' ρ, e = .returned v ∧ retV s.multi s.rshapes us' v ∧ shapeOK s.rshapes us' ∧ BelowG w.heap.size (Own π) w w' ∧ IOAt w' (DOut S π ρ) π 0 s.ins o ∧ OutAt w' (DOut S π ρ) ρ 0 s.outs r us' ∧
      Places ρ (fun b => b < w'.heap.size ∧ (w.heap.size ≤ b ∨ ∃ l q, l < pinFrom ∧ π l = some q ∧ q.foot b)) ∧ (∀ l, (∀ k, k < s.outs.length → l ≠ resL k) → ρ l = none)

def ASound (P : Program) (f : FuncId) : ASpec → Prop
  | .q s => Sound P f s
  | .m s => MSound P f s
  | .b s m => Sound P f s ∧ MSound P f m
def EnvOK (P : Program) (Γ : Env) : Prop := ∀ f s, Γ f = some s → ASound P f s
theorem EnvOK.reg {P : Program} {Γ : Env} (h : EnvOK P Γ) (draw : Bool) : EnvOK P (regEnv Γ draw) := fun f s hs => by
  unfold regEnv at hs
  split at hs
  · rename_i s0 m hΓ
    have := h f _ hΓ
    cases draw with
    | true => simp only [if_true, Option.some.injEq] at hs; subst hs; exact this.1
    | false => simp only [Bool.false_eq_true, if_false, Option.some.injEq] at hs; subst hs; exact this.2
  · exact h f s hs

theorem rep_int {k : IntKind} {n : Int} {fr : Bool} {v : Value} (h : RepAV X w π H (.at (.data fr (.int k) n)) v) : v = .int k n := by
  obtain ⟨cs, h1, rfl⟩ := h; simp only [Cells] at h1; subst h1; rfl
theorem rep_bool {b : Bool} {fr : Bool} {v : Value} (h : RepAV X w π H (.at (.data fr .bool b)) v) : v = .bool b := by
  obtain ⟨cs, h1, rfl⟩ := h; simp only [Cells] at h1; subst h1; rfl
theorem rep_str {s : ByteArray} {fr : Bool} {v : Value} (h : RepAV X w π H (.at (.data fr .str s)) v) : v = .string s := by
  obtain ⟨cs, h1, rfl⟩ := h; simp only [Cells] at h1; subst h1; rfl
theorem mk_int (k : IntKind) (n : Int) (fr : Bool) : RepAV X w π H (.at (.data fr (.int k) n)) (.int k n) := ⟨[.int k n], rfl, rfl⟩
theorem mk_bool (b : Bool) (fr : Bool) : RepAV X w π H (.at (.data fr .bool b)) (.bool b) := ⟨[.bool b], rfl, rfl⟩
theorem mk_str (s : ByteArray) (fr : Bool) : RepAV X w π H (.at (.data fr .str s)) (.string s) := ⟨[.string s], rfl, rfl⟩

theorem mk_clo (f : FuncId) : RepAV X w π H (.at (.clo f [])) (.func (.func f) #[] #[]) := ⟨[], rfl, rfl, fun i p hi => by simp at hi⟩

theorem const_rep (v : Value) : RepAV X w π H (constAV v) v := by
  unfold constAV
  split
  · exact mk_int _ _ _
  · exact mk_bool _ _
  · exact mk_str _ _
  · rfl
  · rfl
  · trivial

theorem ev_rep {st : St} {a : Act} (h : RelT X w π st a) (x : Operand) : RepAV X w π st.heap (st.ev x) (a.eval x) := by
  cases x with
  | tmp t => exact h.tmps t
  | const v => exact const_rep v
  | global g => trivial
  | func f => exact mk_clo f

theorem intBin_rep (op : BinOp) (k : IntKind) (a b : Int) (t : TypeId) (av : AV) (h : intBin op k a b = some av) :
    ∃ v, (binOp op t (.int k a) (.int k b)).run P w = .ok v w ∧ RepAV X w π H av v := by
  cases op <;> simp only [intBin, bInt, bBool] at h
  case add => cases h; exact ⟨_, by simp [binOp, Op.intArith], mk_int _ _ _⟩
  case sub => cases h; exact ⟨_, by simp [binOp, Op.intArith], mk_int _ _ _⟩
  case mul => cases h; exact ⟨_, by simp [binOp, Op.intArith], mk_int _ _ _⟩
  case quo => split at h <;> cases h; rename_i hb; exact ⟨_, by simp [binOp, Op.intDiv, hb], mk_int _ _ _⟩
  case rem => split at h <;> cases h; rename_i hb; exact ⟨_, by simp [binOp, Op.intDiv, hb], mk_int _ _ _⟩
  case and => cases h; exact ⟨_, by simp [binOp, Op.intBits], mk_int _ _ _⟩
  case or => cases h; exact ⟨_, by simp [binOp, Op.intBits], mk_int _ _ _⟩
  case eql => cases h; exact ⟨_, by simp [binOp, Op.intCmp], mk_bool _ _⟩
  case neq => cases h; exact ⟨_, by simp [binOp, Op.intCmp], mk_bool _ _⟩
  case lss => cases h; exact ⟨_, by simp [binOp, Op.intCmp], mk_bool _ _⟩
  case leq => cases h; exact ⟨_, by simp [binOp, Op.intCmp], mk_bool _ _⟩
  case gtr => cases h; exact ⟨_, by simp [binOp, Op.intCmp], mk_bool _ _⟩
  case geq => cases h; exact ⟨_, by simp [binOp, Op.intCmp], mk_bool _ _⟩
  all_goals cases h

theorem evalBin_rep (op : BinOp) (x y : AV) (vx vy : Value) (ox oy : Operand) (t : TypeId) (av : AV) (hx : RepAV X w π H x vx) (hy : RepAV X w π H y vy) (h : evalBin op x y = some av) :
    ∃ v, (do eqGuard op t ox oy vx vy; binOp op t vx vy : Sem Value).run P w = .ok v w ∧ RepAV X w π H av v := by
  unfold evalBin at h
  split at h
  · rename_i k a _ k' b
    have := rep_int hx; subst this
    have := rep_int hy; subst this
    have hg : ∀ op, (eqGuard op t ox oy (.int k a) (.int k' b)).run P w = .ok () w := by intro op; cases op <;> simp [eqGuard]
    split at h
    · split at h
      · cases h
      · rename_i hb
        simp only [bInt, Option.some.injEq] at h; subst h
        exact ⟨_, by rw [Sem.run_bind, hg]; simp [binOp, Op.shift, hb], mk_int _ _ _⟩
    · split at h
      · cases h
      · rename_i hb
        simp only [bInt, Option.some.injEq] at h; subst h
        exact ⟨_, by rw [Sem.run_bind, hg]; simp [binOp, Op.shift, hb], mk_int _ _ _⟩
    · split at h
      · rename_i hk; subst hk
        obtain ⟨v, h1, h2⟩ := intBin_rep (P := P) (w := w) (X := X) (π := π) (H := H) op k a b t av h
        exact ⟨v, by rw [Sem.run_bind, hg]; exact h1, h2⟩
      · cases h
  · rename_i a _ b
    have := rep_str hx; subst this
    have := rep_str hy; subst this
    have hg : ∀ op, (eqGuard op t ox oy (.string a) (.string b)).run P w = .ok () w := by intro op; cases op <;> simp [eqGuard]
    split at h
    · simp only [bBool, Option.some.injEq] at h; subst h
      exact ⟨_, by rw [Sem.run_bind, hg]; simp [binOp, Op.stringOp], mk_bool _ _⟩
    · simp only [bBool, Option.some.injEq] at h; subst h
      exact ⟨_, by rw [Sem.run_bind, hg]; simp [binOp, Op.stringOp], mk_bool _ _⟩
    · split at h
      · rename_i hl
        simp only [Option.some.injEq] at h; subst h
        exact ⟨_, by rw [Sem.run_bind, hg]; simp only [Result.andThen_ok, binOp]; exact run_string_add_sum w a b (by omega), mk_str _ _⟩
      · cases h
    · cases h
  · cases h

theorem run_bool_equal {t : TypeId} (h : P.underlying t = some .bool) (a b : Bool) (w : World) : (Op.equal t (.bool a) (.bool b)).run P w = .ok (a == b) w := by
  unfold Op.equal
  rw [show Op.maxDepth = 9999 + 1 from rfl]
  unfold Op.equalIn
  rw [Sem.run_bind, run_underlying h]
  rfl
theorem nilS_rep (hT : TabOK P T) {x : AV} {vx : Value} {b : Bool} {t : TypeId} (hx : RepAV X w π H x vx) (h : evalNilS x = some b) (ht : (T.elem t).isSome = true) :
    (∃ a len cap, vx = .slice a len cap ∧ (match a with | none => true | some _ => false) = b) ∧ (Op.equal t vx (.slice none 0 0)).run P w = .ok b w := by
  have h1 : ∃ a len cap, vx = .slice a len cap ∧ (match a with | none => true | some _ => false) = b := by
    unfold evalNilS at h
    split at h
    · simp only [Option.some.injEq] at h; subst h
      have hx : vx = .slice none 0 0 := hx
      exact ⟨none, 0, 0, hx, rfl⟩
    · simp only [Option.some.injEq] at h; subst h
      obtain ⟨cs, hc, rfl⟩ := hx
      simp only [Cells] at hc
      rcases hc with ⟨rfl, c, rfl⟩ | ⟨xs, ad, len, cap, rfl, rfl, _⟩
      · exact ⟨none, 0, c, by simp [mkVal, Ty.isStruct], rfl⟩
      · exact ⟨some ad, len, cap, by simp [mkVal, Ty.isStruct], rfl⟩
    · cases h
  refine ⟨h1, ?_⟩
  obtain ⟨a, len, cap, rfl, rfl⟩ := h1
  obtain ⟨te, hte⟩ := Option.isSome_iff_exists.1 ht
  have hu := hT.elem t te hte
  unfold Op.equal
  rw [show Op.maxDepth = 9999 + 1 from rfl]
  unfold Op.equalIn
  rw [Sem.run_bind, run_underlying hu]
  cases a <;> rfl
theorem nilP_rep (hT : TabOK P T) {x : AV} {vx : Value} {b : Bool} {t : TypeId} (hx : RepAV X w π H x vx) (h : evalNilP x = some b) (ht : isPtr (T.ty t) = true) :
    (∃ a, vx = .pointer a ∧ (match a with | none => true | some _ => false) = b) ∧ (Op.equal t vx (.pointer none)).run P w = .ok b w := by
  have h1 : ∃ a, vx = .pointer a ∧ (match a with | none => true | some _ => false) = b := by
    unfold evalNilP at h
    split at h
    · simp only [Option.some.injEq] at h; subst h
      have hx : vx = .pointer none := hx
      exact ⟨none, hx, rfl⟩
    · simp only [Option.some.injEq] at h; subst h
      obtain ⟨r, tid, vs, _, _, rfl⟩ := hx
      exact ⟨_, rfl, rfl⟩
    · simp only [Option.some.injEq] at h; subst h
      obtain ⟨cs, hc, rfl⟩ := hx
      simp only [Cells] at hc
      rcases hc with ⟨rfl, rfl⟩ | ⟨xs, g, o, rfl, rfl, _⟩
      · exact ⟨none, by simp [mkVal, Ty.isStruct], rfl⟩
      · exact ⟨some ⟨g, o, none⟩, by simp [mkVal, Ty.isStruct], rfl⟩
    · simp only [Option.some.injEq] at h; subst h
      obtain ⟨cs, hc, rfl⟩ := hx
      simp only [Cells] at hc
      obtain ⟨g, o, rfl, _⟩ := hc
      exact ⟨some ⟨g, o, none⟩, by simp [mkVal, Ty.isStruct], rfl⟩
    · cases h
  refine ⟨h1, ?_⟩
  obtain ⟨a, rfl, rfl⟩ := h1
  have hu : ∃ u, P.underlying t = some (.pointer u) := by
    cases hty : T.ty t with
    | none => rw [hty] at ht; cases ht
    | some τ =>
      have hd := (hT.ty t τ hty).desc
      rw [hty] at ht
      cases τ <;> first | exact hd | cases ht
  obtain ⟨u, hu⟩ := hu
  unfold Op.equal
  rw [show Op.maxDepth = 9999 + 1 from rfl]
  unfold Op.equalIn
  rw [Sem.run_bind, run_underlying hu]
  cases a <;> rfl
theorem evalBinT_rep {T : Tab} (hT : TabOK P T) (op : BinOp) (x y : AV) (vx vy : Value) (ox oy : Operand) (t : TypeId) (av : AV) (hx : RepAV X w π H x vx) (hy : RepAV X w π H y vy) (h : evalBinT T op t x y = some av) :
    ∃ v, (do eqGuard op t ox oy vx vy; binOp op t vx vy : Sem Value).run P w = .ok v w ∧ RepAV X w π H av v := by
  unfold evalBinT at h
  split at h
  · split at h
    · rename_i ht
      cases hn : evalNilS x with
      | none => rw [hn] at h; cases h
      | some b =>
        rw [hn] at h
        simp only [Option.bind_some, bBool, Option.some.injEq] at h; subst h
        have hy : vy = .slice none 0 0 := hy
        subst hy
        obtain ⟨⟨a, len, cap, rfl, _⟩, h2⟩ := nilS_rep hT hx hn ht
        exact ⟨.bool b, by rw [Sem.run_bind]; simp [eqGuard, binOp, h2], mk_bool _ _⟩
    · cases h
  · split at h
    · rename_i ht
      cases hn : evalNilP x with
      | none => rw [hn] at h; cases h
      | some b =>
        rw [hn] at h
        simp only [Option.bind_some, bBool, Option.some.injEq] at h; subst h
        have hy : vy = .pointer none := hy
        subst hy
        obtain ⟨⟨a, rfl, _⟩, h2⟩ := nilP_rep hT hx hn ht
        exact ⟨.bool b, by rw [Sem.run_bind]; simp [eqGuard, binOp, h2], mk_bool _ _⟩
    · cases h
  · split at h
    · rename_i ht
      cases hn : evalNilS x with
      | none => rw [hn] at h; cases h
      | some b =>
        rw [hn] at h
        simp only [Option.bind_some, bBool, Option.some.injEq] at h; subst h
        have hy : vy = .slice none 0 0 := hy
        subst hy
        obtain ⟨⟨a, len, cap, rfl, _⟩, h2⟩ := nilS_rep hT hx hn ht
        exact ⟨.bool (!b), by rw [Sem.run_bind]; simp [eqGuard, binOp, h2], mk_bool _ _⟩
    · cases h
  · split at h
    · rename_i ht
      cases hn : evalNilP x with
      | none => rw [hn] at h; cases h
      | some b =>
        rw [hn] at h
        simp only [Option.bind_some, bBool, Option.some.injEq] at h; subst h
        have hy : vy = .pointer none := hy
        subst hy
        obtain ⟨⟨a, rfl, _⟩, h2⟩ := nilP_rep hT hx hn ht
        exact ⟨.bool (!b), by rw [Sem.run_bind]; simp [eqGuard, binOp, h2], mk_bool _ _⟩
    · cases h
  · rename_i a _ b
    have := rep_bool hx; subst this
    have := rep_bool hy; subst this
    split at h
    · rename_i ht
      simp only [bBool, Option.some.injEq] at h; subst h
      have hu : P.underlying t = some .bool := (hT.ty t _ ht).desc
      exact ⟨_, by rw [Sem.run_bind]; simp [eqGuard, binOp, run_bool_equal hu], mk_bool _ _⟩
    · cases h
  · rename_i a _ b
    have := rep_bool hx; subst this
    have := rep_bool hy; subst this
    split at h
    · rename_i ht
      simp only [bBool, Option.some.injEq] at h; subst h
      have hu : P.underlying t = some .bool := (hT.ty t _ ht).desc
      exact ⟨_, by rw [Sem.run_bind]; simp [eqGuard, binOp, run_bool_equal hu], mk_bool _ _⟩
    · cases h
  · exact evalBin_rep op x y vx vy ox oy t av hx hy h

theorem evalUn_rep (op : UnOp) (x : AV) (vx : Value) (av : AV) (hx : RepAV X w π H x vx) (h : evalUn op x = some av) :
    ∃ v, (Op.unary op vx).run P w = .ok v w ∧ RepAV X w π H av v := by
  unfold evalUn at h
  split at h
  · have := rep_bool hx; subst this
    simp only [bBool, Option.some.injEq] at h; subst h
    exact ⟨_, by simp [Op.unary], mk_bool _ _⟩
  · have := rep_int hx; subst this
    simp only [bInt, Option.some.injEq] at h; subst h
    exact ⟨_, by simp [Op.unary, Op.intArith], mk_int _ _ _⟩
  · cases h

/-- Loading what lies at an address, cell by cell. -/
theorem run_loadVar_cells {t : TypeId} {τ : Ty} (ht : TyOK P T t τ) (g o : Nat) (es : List Value) (hl : es.length = τ.size) (hc : ∀ j u, es[j]? = some u → w.cell? ⟨g, o + j, none⟩ = some u) :
    (loadVar t ⟨g, o, none⟩).run P w = .ok (mkVal τ es) w := by
  unfold loadVar
  rw [Sem.run_bind, ht.agg, Result.andThen_ok]
  cases hs : τ.isStruct with
  | true =>
    simp only [if_true, Sem.run_bind, ht.size, Result.andThen_ok]
    rw [← hl, run_loadCells_list w ⟨g, o, none⟩ es (fun j v hv => by rw [Addr.add_lit]; exact hc j v hv)]
    simp [mkVal, hs]
  | false =>
    have h1 : τ.size = 1 := by cases τ <;> simp_all [Ty.isStruct, Ty.size]
    rw [h1] at hl
    obtain ⟨u, rfl⟩ := List.length_eq_one_iff.1 hl
    have := hc 0 u rfl
    simp only [Nat.add_zero] at this
    simp [this, mkVal, hs]

theorem rep_up {fr : Bool} {τ : Ty} {x : τ.den} {v : Value} (h : RepAV X w π H (.at (.data fr τ x)) v) : RepAV X w π H (.at (.data (fr || τ.flat) τ x)) v := by
  cases hf : τ.flat with
  | true => exact RepVal.flat hf h
  | false => rw [Bool.or_false]; exact h
theorem repACs_append {cs ds : List AC} {us vs : List Value} (h1 : RepACs X w π H cs us) (h2 : RepACs X w π H ds vs) : RepACs X w π H (cs ++ ds) (us ++ vs) := by
  have e1 := h1.1
  refine ⟨by simp [h1.1, h2.1], fun i c hc => ?_⟩
  by_cases hi : i < cs.length
  · rw [List.getElem?_append_left hi] at hc
    obtain ⟨u, hu, h3⟩ := h1.2 i c hc
    exact ⟨u, by rw [List.getElem?_append_left (by omega)]; exact hu, h3⟩
  · rw [List.getElem?_append_right (by omega)] at hc
    obtain ⟨u, hu, h3⟩ := h2.2 _ c hc
    exact ⟨u, by rw [List.getElem?_append_right (by omega), e1]; exact hu, h3⟩
theorem repACs_one {c : AC} {u : Value} (h1 : u.oneCell' = true) (h2 : RepAC X w π H c u) : RepACs X w π H [c] [u] := ⟨rfl, fun i c' hc => by
  rcases i with _ | i
  · simp at hc; subst hc; exact ⟨u, rfl, h1, h2⟩
  · simp at hc⟩

/-- The cells of an element whose blocks are the call's own. -/
theorem subACs_rep {l i : Nat} {e : Ty} {tid : TypeId} {xs : List e.den} {r : Real} (hl : hget H l = some (.xarr e tid xs)) (hp : π l = some r) (hi : i < xs.length) : ∀ (τ : Ty) (c : Nat) (F : List Nat) (us : List Value) (x : τ.den),
    TCells w F τ us x → c + τ.size ≤ e.size → (∀ j u, us[j]? = some u → w.cell? ⟨r.g, (r.o + i) * e.size + (c + j), none⟩ = some u) → RepACs X w π H (subACs l i c τ x) us := by
  intro τ
  induction τ with
  | unit => intro c F us x h _ _; simp only [TCells] at h; obtain ⟨_, rfl⟩ := h; exact ⟨rfl, fun i c hc => by simp [subACs] at hc⟩
  | pair a r iha ihr =>
    intro c F us x h hle hc
    have hcs := TCells.cells (S := fun _ => False) F _ us x h (fun _ _ h => h)
    simp only [TCells] at h
    obtain ⟨c1, c2, F1, F2, rfl, rfl, h1, h2⟩ := h
    have hl1 : c1.length = a.size := Cells.len a c1 x.1 (TCells.cells (S := fun _ => False) F1 a c1 x.1 h1 (fun _ _ h => h))
    simp only [Ty.size] at hle
    refine repACs_append (iha c F1 c1 x.1 h1 (by omega) fun j u hu => hc j u (by rw [List.getElem?_append_left (List.getElem?_eq_some_iff.1 hu).1]; exact hu)) (ihr (c + a.size) F2 c2 x.2 h2 (by omega) fun j u hu => ?_)
    have := hc (a.size + j) u (by rw [List.getElem?_append_right (by omega), hl1]; simpa using hu)
    rw [show c + a.size + j = c + (a.size + j) by omega]; exact this
  | int k => intro c F us x h _ _; simp only [TCells] at h; obtain ⟨_, rfl⟩ := h; exact repACs_one rfl (mk_int (H := H) k x true)
  | bool => intro c F us x h _ _; simp only [TCells] at h; obtain ⟨_, rfl⟩ := h; exact repACs_one rfl (mk_bool (H := H) x true)
  | str => intro c F us x h _ _; simp only [TCells] at h; obtain ⟨_, rfl⟩ := h; exact repACs_one rfl (mk_str (H := H) x true)
  | slice e' =>
    intro c F us x h hle hc
    simp only [TCells] at h
    obtain ⟨a, len, cap, rfl, _⟩ := h
    exact repACs_one rfl ⟨r, e, tid, xs, hl, hp, hi, ⟨by simp only [Ty.size] at hle; omega, _, _, _, rfl⟩, by simpa using hc 0 _ rfl⟩
  | _ => intro c F us x h; simp only [TCells] at h

theorem evalLoad_rep (hT : TabOK P T) {st : St} {a : Act} (h : RelAt X π st a w) (t : TypeId) (p : AV) (vp : Value) (av : AV) (hp : RepAV X w π st.heap p vp) (he : evalLoad T st t p = some av) :
    ∃ v, (Instr.loadAt t vp).run P w = .ok v w ∧ RepAV X w π st.heap av v := by
  unfold evalLoad at he
  split at he
  · rename_i τ fr τ' x ht
    split at he
    · rename_i hτ
      subst hτ
      simp only [Option.some.injEq] at he; subst he
      have hty := hT.ty _ _ ht
      obtain ⟨cs, hc, rfl⟩ := hp
      simp only [Cells] at hc
      obtain ⟨g, o, rfl, hg, hn, es, hl, hcell, hrec⟩ := hc
      refine ⟨mkVal τ' es, ?_, rep_up (show RepAV X w π st.heap (.at (.data fr τ' _)) (mkVal τ' es) from ⟨es, hrec, rfl⟩)⟩
      have hr := run_loadVar_cells (P := P) (w := w) hty g o es hl hcell
      show (do loadVar t (← Instr.sureAddr (.pointer (some ⟨g, o, none⟩))) : Sem Value).run P w = _
      simpa [Instr.sureAddr] using hr
    · cases he
  · rename_i τ fr τ' x ht
    split at he
    · rename_i hτ
      subst hτ
      simp only [Option.some.injEq] at he; subst he
      have hty := hT.ty _ _ ht
      obtain ⟨cs, hc, rfl⟩ := hp
      simp only [Cells] at hc
      rcases hc with ⟨h0, _⟩ | ⟨y, g, o, h0, rfl, hg, hn, es, hl, hcell, hrec⟩
      · cases h0
      simp only [Option.some.injEq] at h0; subst h0
      refine ⟨mkVal τ' es, ?_, rep_up (show RepAV X w π st.heap (.at (.data fr τ' _)) (mkVal τ' es) from ⟨es, hrec, rfl⟩)⟩
      have hr := run_loadVar_cells (P := P) (w := w) hty g o es hl hcell
      show (do loadVar t (← Instr.sureAddr (.pointer (some ⟨g, o, none⟩))) : Sem Value).run P w = _
      simpa [Instr.sureAddr] using hr
    · cases he
  · rename_i τ l i ht
    have hty := hT.ty _ _ ht
    split at he
    · rename_i tid vs hl
      obtain ⟨r, tid', vs', h1, h2, rfl⟩ := hp
      unfold St.at at hl
      rw [hl] at h1; cases h1
      obtain ⟨r', h3, h4, cur, h5, h6⟩ := (h.1.heap l).blk hl
      rw [h2] at h3; cases h3
      split at he
      · rename_i hs
        split at he
        · rename_i hlen
          simp only [Option.some.injEq] at he; subst he
          have hcl : cur.toList.length = vs.length := h6.1
          refine ⟨_, by
            simp only [Instr.loadAt, Instr.sureAddr]
            simpa using run_loadVar_cells (P := P) (w := w) hty r.g i ((cur.toList.drop i).take τ.size) (by simp at hcl ⊢; omega) (fun j u hu => by
              rw [cellOf h5]
              rw [List.getElem?_take] at hu
              split at hu
              · rw [List.getElem?_drop] at hu; simpa using hu
              · cases hu), ?_⟩
          exact ⟨_, by simp [mkVal, hs], repACs_take h6 i τ.size⟩
        · cases he
      · rename_i hs
        simp only [Bool.not_eq_true] at hs
        have h1 : τ.size = 1 := by cases τ <;> simp_all [Ty.isStruct, Ty.size]
        cases hi : vs[i]? with
        | none => rw [hi] at he; cases he
        | some c =>
          rw [hi] at he
          simp only [Option.map_some, Option.some.injEq] at he; subst he
          obtain ⟨u, hu, _, hc⟩ := h6.2 i c hi
          refine ⟨u, ?_, hc⟩
          simp only [Instr.loadAt, Instr.sureAddr]
          have := run_loadVar_cells (P := P) (w := w) hty r.g i [u] (by simp [h1]) (fun j u' hu' => by
              rcases j with _ | j
              · simp at hu'; subst hu'; rw [Nat.add_zero, cellOf h5]; simpa using hu
              · simp at hu')
          simpa [mkVal, hs] using this
    · cases he
  · rename_i τ l i ht
    have hty := hT.ty _ _ ht
    split at he
    · rename_i fr tr e tid xs hl
      split at he
      · rename_i heq; subst heq
        obtain ⟨r, b, sz, n, h1, h0, h2, h3, rfl⟩ := hp
        unfold St.at at hl
        rw [hl] at h1; cases h1
        simp only [OB.row, Option.some.injEq, Prod.mk.injEq] at h0
        obtain ⟨rfl, rfl⟩ := h0
        have hb := (h.1.heap l).blk hl
        simp only [BlockAt, ArrAt, h3] at hb
        obtain ⟨h4, cur, _, h5, h6, h7, h8, h9, _⟩ := hb
        have hx : xs[i]? = some xs[i] := List.getElem?_eq_getElem h2
        rw [hx] at he
        simp only [Option.map_some, Option.some.injEq] at he; subst he
        obtain ⟨es, hes, hj, hcs⟩ := h9 i _ hx
        refine ⟨mkVal e es, ?_, rep_up (show RepAV X w π st.heap (.at (.data fr e _)) (mkVal e es) from ⟨es, hcs, rfl⟩)⟩
        simp only [Instr.loadAt, Instr.sureAddr]
        simpa using run_loadVar_cells (P := P) (w := w) hty r.g ((r.o + i) * e.size) es hes (fun j u hu => by rw [cellOf h5]; exact hj j u hu)
      · cases he
    · rename_i e tid xs hl
      split at he
      · rename_i heq; subst heq
        obtain ⟨r, b, sz, n, h1, h0, h2, h3, rfl⟩ := hp
        unfold St.at at hl
        rw [hl] at h1; cases h1
        simp only [OB.row, Option.some.injEq, Prod.mk.injEq] at h0
        obtain ⟨rfl, rfl⟩ := h0
        have hb := (h.1.heap l).blk hl
        simp only [BlockAt, XArrAt, h3] at hb
        obtain ⟨h4, cur, _, h5, h6, h7, h8, Fs, k1, k2, k3, k4⟩ := hb
        have hx : xs[i]? = some xs[i] := List.getElem?_eq_getElem h2
        rw [hx] at he
        simp only [Option.map_some, Option.some.injEq] at he; subst he
        obtain ⟨es, hes, hj, hcs⟩ := k4 i _ _ hx (List.getElem?_eq_getElem (by omega))
        have hrs := subACs_rep (X := X) (H := st.heap) hl h3 h2 e 0 _ es _ hcs (by omega) (fun j u hu => by rw [cellOf h5, Nat.zero_add]; exact hj j u hu)
        refine ⟨mkVal e es, ?_, ?_⟩
        · simp only [Instr.loadAt, Instr.sureAddr]
          simpa using run_loadVar_cells (P := P) (w := w) hty r.g ((r.o + i) * e.size) es hes (fun j u hu => by rw [cellOf h5]; exact hj j u hu)
        · cases hst : e.isStruct with
          | true => rw [if_pos rfl]; exact ⟨es, by simp [mkVal, hst], hrs⟩
          | false =>
            rw [if_neg (by simp)]
            have h1 : e.size = 1 := by cases e <;> simp_all [Ty.isStruct, Ty.size]
            rw [h1] at hes
            obtain ⟨u, rfl⟩ := List.length_eq_one_iff.1 hes
            have hl1 := hrs.1
            generalize subACs l i 0 e xs[i] = sc at *
            simp only [List.length_cons, List.length_nil] at hl1
            obtain ⟨c, rfl⟩ := List.length_eq_one_iff.1 hl1.symm
            obtain ⟨u', hu', _, hc'⟩ := hrs.2 0 c rfl
            simp at hu'; subst hu'
            have e1 : mkVal e [u] = u := by simp [mkVal, hst]
            rw [e1]
            exact hc'
      · cases he
    · cases he
  · cases he

theorem idx_some {α : Type} {xs : List α} {n : Int} {x : α} (h : idx xs n = some x) : 0 ≤ n ∧ n < xs.length ∧ xs[n.toNat]? = some x := by
  unfold idx at h
  split at h
  · rename_i h0
    have := (List.getElem?_eq_some_iff.1 h).1
    exact ⟨h0, by omega, h⟩
  · cases h

theorem elem_of (hT : TabOK P T) {t : TypeId} {e : Ty} (h : (T.elem t).bind T.ty = some e) : ∃ te, T.elem t = some te ∧ T.ty te = some e ∧ P.underlying t = some (.slice te) ∧ P.elem t = te := by
  cases ht : T.elem t with
  | none => rw [ht] at h; cases h
  | some te =>
    rw [ht] at h
    have hu := hT.elem t te ht
    exact ⟨te, rfl, h, hu, by simp [Program.elem, hu]⟩

theorem evalIndexAddr_rep (hT : TabOK P T) {st : St} {a : Act} (_ : RelAt X π st a w) (t : TypeId) (x i : AV) (vx vi : Value) (av : AV) (hx : RepAV X w π st.heap x vx) (hi : RepAV X w π st.heap i vi)
    (he : evalIndexAddr T st t x i = some av) : ∃ v, (Instr.indexAt t vx vi).run P w = .ok v w ∧ RepAV X w π st.heap av v := by
  unfold evalIndexAddr at he
  split at he
  · rename_i fr e xs _ k n
    have := rep_int hi; subst this
    split at he
    · rename_i hel
      obtain ⟨te, h1, h2, h3, h4⟩ := elem_of hT hel
      cases hix : idx xs n with
      | none => rw [hix] at he; cases he
      | some y =>
        rw [hix] at he
        simp only [Option.map_some, Option.some.injEq] at he; subst he
        obtain ⟨h5, h6, h7⟩ := idx_some hix
        obtain ⟨cs, hc, rfl⟩ := hx
        simp only [Cells] at hc
        obtain ⟨ad, len, cap, rfl, hlen, hcap, hor⟩ := hc
        rcases hor with rfl | ⟨g, o, rfl, hg, hn, hall⟩
        · simp at h6; omega
        · obtain ⟨es, hes, hcell, hrec⟩ := hall _ _ h7
          have hsz := (hT.ty _ _ h2).size (w := w)
          refine ⟨.pointer (some ⟨g, o + n.toNat * e.size, none⟩), ?_, [_], ⟨g, _, rfl, hg, hn, es, hes, hcell, hrec⟩, by simp [mkVal, Ty.isStruct]⟩
          simp only [mkVal, Ty.isStruct, Bool.false_eq_true, if_false, List.headD_cons]
          rw [run_indexAt_slice (P := P) w t _ _ _ k n (by rw [h3, h4]), if_pos ⟨h5, by omega⟩, h4, hsz, Result.andThen_ok, Addr.add_lit]
    · cases he
  · rename_i l off len _ k n
    have := rep_int hi; subst this
    split at he
    · rename_i fr tr e tid xs hl
      split at he
      · rename_i hcond
        obtain ⟨h1, h2, h56⟩ := hcond
        obtain ⟨h5, h6⟩ := inb_iff.1 h56
        simp only [Option.some.injEq] at he; subst he
        have h3 := hT.elem t tid h1
        have h4 : P.elem t = tid := by simp [Program.elem, h3]
        unfold St.at at hl
        have hl' := hl
        obtain ⟨h8, h9⟩ := rep_arr (X := X) (w := w) hx hl
        cases hp : π l with
        | none => rw [hp] at h9; obtain ⟨_, _, h9⟩ := h9; omega
        | some r =>
          rw [hp] at h9
          obtain ⟨ad, rfl, h10, h11⟩ := h9
          have h12 := h11 (by omega)
          subst h12
          have hsz := (hT.ty _ _ h2).size (w := w)
          refine ⟨.pointer (some ⟨r.g, (r.o + off) * e.size + n.toNat * e.size, none⟩), ?_, r, _, e.size, xs.length, hl', rfl, by omega, hp, ?_⟩
          · rw [run_indexAt_slice (P := P) w t _ _ _ k n (by rw [h3, h4]), if_pos ⟨h5, by omega⟩, h4, hsz, Result.andThen_ok, Addr.add_lit]
          · rw [← Nat.add_assoc r.o off n.toNat, Nat.add_mul (r.o + off)]
      · cases he
    · rename_i e tid xs hl
      split at he
      · rename_i hcond
        obtain ⟨h1, h2, h56⟩ := hcond
        obtain ⟨h5, h6⟩ := inb_iff.1 h56
        simp only [Option.some.injEq] at he; subst he
        have h3 := hT.elem t tid h1
        have h4 : P.elem t = tid := by simp [Program.elem, h3]
        unfold St.at at hl
        have hl' := hl
        obtain ⟨h8, h9⟩ := rep_xarr (X := X) (w := w) hx hl
        cases hp : π l with
        | none => rw [hp] at h9; obtain ⟨_, _, h9⟩ := h9; omega
        | some r =>
          rw [hp] at h9
          obtain ⟨ad, rfl, h10, h11⟩ := h9
          have h12 := h11 (by omega)
          subst h12
          have hsz := (hT.ty _ _ h2).size (w := w)
          refine ⟨.pointer (some ⟨r.g, (r.o + off) * e.size + n.toNat * e.size, none⟩), ?_, r, _, e.size, xs.length, hl', rfl, by omega, hp, ?_⟩
          · rw [run_indexAt_slice (P := P) w t _ _ _ k n (by rw [h3, h4]), if_pos ⟨h5, by omega⟩, h4, hsz, Result.andThen_ok, Addr.add_lit]
          · rw [← Nat.add_assoc r.o off n.toNat, Nat.add_mul (r.o + off)]
      · cases he
    · cases he
  · cases he
end
end Go.Proofs.Ytfghmbpogmcboaa
