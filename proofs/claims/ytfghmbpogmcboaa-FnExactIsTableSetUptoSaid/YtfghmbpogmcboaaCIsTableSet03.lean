/-
  Part 4 of the proof that the statement FnExactIsTableSet holds.
-/
import Derived.Test.YtfghmbpogmcboaaCIsTableSet02
namespace Go.Proofs.Ytfghmbpogmcboaa
open Go.RowKit

/-- Where a block of the call's own lies: the block, its first element, the room from there; the blocks that nothing else meets; those that no other row claims. -/
structure Real where
  g : Nat
  o : Nat
  cap : Nat
  foot : Nat → Prop
  cl : Nat → Prop

abbrev Pi := Nat → Option Real
def Own (π : Pi) (b : Nat) : Prop := ∃ l r, π l = some r ∧ r.foot b
def Avoid (B : Nat) (Sc : Nat → Prop) (π : Pi) (fr : Bool) (b : Nat) : Prop := Own π b ∨ Sc b ∨ (fr = true ∧ b < B)

/-- A row's block: how long it is. -/
def Shape (w : World) (g o s cap : Nat) : Prop := ∃ (cur : Array Value) (ti : TypeId) (o' : Nat), w.heap[g]? = some (.cells cur ti (0, 0)) ∧ o = o' * s ∧ cur.size = (o' + cap) * s ∧ cap ≤ maxLen
theorem Shape.lt {w : World} {g o s cap : Nat} (h : Shape w g o s cap) : g < w.heap.size := let ⟨_, _, _, h, _⟩ := h; (Array.getElem?_eq_some_iff.1 h).1
theorem Shape.keep {w w' : World} {g o s cap : Nat} (h : Shape w g o s cap) (hk : w'.heap[g]? = w.heap[g]?) : Shape w' g o s cap := let ⟨c, t, o', h1, h2⟩ := h; ⟨c, t, o', hk.trans h1, h2⟩

/-- A value, and the blocks that its slices lie in: each once. -/
def TCells (w : World) : (F : List Nat) → (τ : Ty) → List Value → τ.den → Prop
  | F, .int k, cs, n => F = [] ∧ cs = [.int k n]
  | F, .bool, cs, b => F = [] ∧ cs = [.bool b]
  | F, .str, cs, s => F = [] ∧ cs = [.string s]
  | F, .slice e, cs, xs => ∃ a len cap, cs = [.slice a len cap] ∧ len = xs.length ∧ len ≤ cap ∧ ((xs = [] ∧ F = [] ∧ a = none ∧ cap = 0) ∨ ∃ ad g o Fs, a = some ad ∧ (0 < cap → ad = ⟨g, o, none⟩) ∧ Shape w g o e.size cap ∧ F = g :: List.flatten Fs ∧ Fs.length = xs.length ∧
      ∀ (i : Nat) (x : e.den) (Fi : List Nat), xs[i]? = some x → Fs[i]? = some Fi → ∃ es : List Value, es.length = e.size ∧ (∀ j u, es[j]? = some u → w.cell? ⟨g, o + i * e.size + j, none⟩ = some u) ∧ TCells w Fi e es x)
  | F, .unit, cs, _ => F = [] ∧ cs = []
  | F, .pair a r, cs, x => ∃ c1 c2 F1 F2, cs = c1 ++ c2 ∧ F = F1 ++ F2 ∧ TCells w F1 a c1 x.1 ∧ TCells w F2 r c2 x.2
  | _, _, _, _ => False

/-- The elements of a row, and their blocks: each once. -/
def TreeAt (w : World) (P : Nat → Prop) (g o : Nat) (cur : Array Value) (e : Ty) (xs : List e.den) : Prop :=
  ∃ Fs : List (List Nat), Fs.length = xs.length ∧ (g :: List.flatten Fs).Nodup ∧ (∀ b ∈ List.flatten Fs, P b) ∧
    ∀ (i : Nat) (x : e.den) (F : List Nat), xs[i]? = some x → Fs[i]? = some F → ∃ es : List Value, es.length = e.size ∧ (∀ j u, es[j]? = some u → cur[(o + i) * e.size + j]? = some u) ∧ TCells w F e es x

def OwnVal (r : Option Real) (size off len : Nat) (v : Value) : Prop :=
  match r with
  | none => v = .slice none 0 0 ∧ off = 0 ∧ len = 0
  | some r => ∃ ad : Addr, v = .slice (some ad) len (r.cap - off) ∧ off + len ≤ r.cap ∧ (off < r.cap → ad = ⟨r.g, (r.o + off) * size, none⟩)

/-- The setting: where the call began, what its caller owns, what has been handed over (and where it lies). -/
structure Ctx where
  w0 : World
  Sc : Nat → Prop
  gv : Nat → Prop
  pin : Pi

/-- Below block number B the world is as it was, but for what was handed over. -/
structure BelowG (B : Nat) (gv : Nat → Prop) (w w' : World) : Prop where
  os : w'.os = w.os
  tape : w'.tape = w.tape
  output : w'.output = w.output
  size : w.heap.size ≤ w'.heap.size
  block : ∀ k, k < B → ¬ gv k → w'.heap[k]? = w.heap[k]?
theorem BelowG.refl (B : Nat) (gv : Nat → Prop) (w : World) : BelowG B gv w w := ⟨rfl, rfl, rfl, Nat.le_refl _, fun _ _ _ => rfl⟩
theorem BelowG.trans {B : Nat} {gv : Nat → Prop} {a b c : World} (h : BelowG B gv a b) (k : BelowG B gv b c) : BelowG B gv a c :=
  ⟨k.os.trans h.os, k.tape.trans h.tape, k.output.trans h.output, Nat.le_trans h.size k.size, fun i hi hg => (k.block i hi hg).trans (h.block i hi hg)⟩
theorem BelowG.plain {B : Nat} {w w' : World} (h : BelowG B (fun _ => False) w w') : Below B w w' := ⟨h.os, h.tape, h.output, h.size, fun k hk => h.block k hk (fun h => h)⟩
theorem BelowG.of {B : Nat} {gv : Nat → Prop} {w w' : World} (h : Below B w w') : BelowG B gv w w' := ⟨h.os, h.tape, h.output, h.size, fun k hk _ => h.block k hk⟩
theorem BelowG.grown {B : Nat} {gv : Nat → Prop} {a w w' : World} {row : Option Nat} (h : BelowG B gv a w) (hg : w.grownBy w' row) (hB : B ≤ w.heap.size) (hr : ∀ k, row = some k → B ≤ k ∨ gv k) : BelowG B gv a w' :=
  h.trans ⟨hg.os, hg.tape, hg.output, hg.size, fun k hk hn => hg.block k (by omega) (fun e => by rcases hr k e.symm with h | h; omega; exact hn h)⟩

def OB.row : OB → Option (Nat × Nat)
  | .arr _ _ e _ xs => some (e.size, xs.length)
  | .xarr e _ xs => some (e.size, xs.length)
  | _ => none
def SameP : Option Real → Option Real → Prop
  | none, none => True
  | some r, some r' => r.g = r'.g ∧ r.o = r'.o ∧ r.cap = r'.cap ∧ ∀ b, r.foot b ↔ r'.foot b
  | _, _ => False
theorem SameP.rfl' (r : Option Real) : SameP r r := by cases r <;> simp [SameP]

section
variable (X : Ctx) (w : World) (π : Pi) (H : List (Nat × OB))

def RepAC : AC → Value → Prop
  | .undef, _ => True
  | .skip, v => v = Go.undef
  | .nilv, v => v = .slice none 0 0
  | .nilp, v => v = .pointer none
  | .data fr τ x, v => RepVal w (Avoid X.w0.heap.size X.Sc π fr) τ v x
  | .own l off len, v => ∃ b sz n, hget H l = some b ∧ b.row = some (sz, n) ∧ off + len ≤ n ∧ OwnVal (π l) sz off len v
  | .vptr l i, v => ∃ r tid vs, hget H l = some (.var tid vs) ∧ π l = some r ∧ v = .pointer (some ⟨r.g, i, none⟩)
  | .eptr l i, v => ∃ r b sz n, hget H l = some b ∧ b.row = some (sz, n) ∧ i < n ∧ π l = some r ∧ v = .pointer (some ⟨r.g, (r.o + i) * sz, none⟩)
  | .sub l i c, v => ∃ r e tid xs, hget H l = some (.xarr e tid xs) ∧ π l = some r ∧ i < xs.length ∧ (c < e.size ∧ ∃ a n m, v = .slice a n m) ∧ w.cell? ⟨r.g, (r.o + i) * e.size + c, none⟩ = some v
  | .clo f caps, v => ∃ us : List Value, v = .func (.func f) #[] us.toArray ∧ us.length = caps.length ∧
      ∀ (j : Nat) p, caps[j]? = some p → ∃ r tid vs, hget H p.1 = some (.var tid vs) ∧ π p.1 = some r ∧ us[j]? = some (.pointer (some ⟨r.g, p.2, none⟩))
  | .mapr l, v => ∃ r vt m, hget H l = some (.smp vt m) ∧ π l = some r ∧ v = .map (some r.g)

/-- Cells, one by one. -/
def RepACs (cs : List AC) (us : List Value) : Prop := us.length = cs.length ∧ ∀ (i : Nat) c, cs[i]? = some c → ∃ u, us[i]? = some u ∧ u.oneCell' = true ∧ RepAC X w π H c u

/-- A tuple's component. -/
def RepPart (p : Bool × List AC) (v : Value) : Prop := if p.1 then ∃ us : List Value, v = .agg us.toArray ∧ RepACs X w π H p.2 us else ∀ a, p.2 = [a] → RepAC X w π H a v

def RepAV : AV → Value → Prop
  | .at a, v => RepAC X w π H a v
  | .agg cs, v => ∃ us : List Value, v = .agg us.toArray ∧ RepACs X w π H cs us
  | .tup fr τ x, v => ∃ vs : List Value, v = .tuple vs.toArray ∧ RepArgs w (Avoid X.w0.heap.size X.Sc π fr) τ vs x
  | .tupc l, v => ∃ vs : List Value, v = .tuple vs.toArray ∧ vs.length = l.length ∧ ∀ (i : Nat) p u, l[i]? = some p → vs[i]? = some u → RepPart X w π H p u

def ArrAt (r : Option Real) (fr tr : Bool) (e : Ty) (_ : TypeId) (xs : List e.den) : Prop :=
  match r with
  | none => xs = []
  | some r => (r.foot r.g ∧ (∀ b, r.foot b → b = r.g) ∧ (fr = true → X.w0.heap.size ≤ r.g)) ∧ ∃ (cur : Array Value) (ti : TypeId), w.heap[r.g]? = some (.cells cur ti (0, 0)) ∧ cur.size = (r.o + r.cap) * e.size ∧ r.cap ≤ maxLen ∧ xs.length ≤ r.cap ∧
      (∀ (i : Nat) (x : e.den), xs[i]? = some x → ∃ es : List Value, es.length = e.size ∧ (∀ j u, es[j]? = some u → cur[(r.o + i) * e.size + j]? = some u) ∧ Cells w (Avoid X.w0.heap.size X.Sc π fr) e es x) ∧
      (tr = true → TreeAt w r.cl r.g r.o cur e xs)

def XArrAt (r : Option Real) (e : Ty) (_ : TypeId) (xs : List e.den) : Prop :=
  match r with
  | none => xs = []
  | some r => r.foot r.g ∧ ∃ (cur : Array Value) (ti : TypeId), w.heap[r.g]? = some (.cells cur ti (0, 0)) ∧ cur.size = (r.o + r.cap) * e.size ∧ r.cap ≤ maxLen ∧ xs.length ≤ r.cap ∧ TreeAt w r.foot r.g r.o cur e xs

def VarAt (r : Option Real) (tid : TypeId) (vs : List AC) : Prop :=
  ∃ r', r = some r' ∧ r'.foot r'.g ∧ ∃ cur : Array Value, w.heap[r'.g]? = some (.cells cur tid (0, 0)) ∧ RepACs X w π H vs cur.toList

def SmpAt (r : Option Real) (v : Ty) (m : ByteArray → Option v.den) : Prop :=
  ∃ r', r = some r' ∧ r'.foot r'.g ∧ (v.flat = true ∧ v.isStruct = false) ∧ Cells w (fun _ => False) (.smap v) [.map (some r'.g)] m

def HeapAt (l : Nat) : Prop :=
  match hget H l with
  | none => π l = none
  | some (.arr fr tr e tid xs) => ArrAt X w π (π l) fr tr e tid xs
  | some (.xarr e tid xs) => XArrAt w (π l) e tid xs
  | some (.var tid vs) => VarAt X w π H (π l) tid vs
  | some (.smp v m) => SmpAt w (π l) v m

structure RelH : Prop where
  below : BelowG X.w0.heap.size X.gv X.w0 w
  sc : ∀ b, X.Sc b → b < X.w0.heap.size ∧ ¬ X.gv b
  sub : ∀ l r b, π l = some r → r.foot b → r.cl b
  place : ∀ l r b, π l = some r → r.cl b → (X.w0.heap.size ≤ b ∨ X.gv b) ∧ b < w.heap.size
  inj : ∀ l l' r r' b, π l = some r → π l' = some r' → r.cl b → r'.cl b → l = l'
  pin : ∀ l, pinFrom ≤ l → hget H l ≠ none → SameP (X.pin l) (π l)
  heap : ∀ l, HeapAt X w π H l

structure RelT (st : St) (a : Act) : Prop where
  size : a.tmps.size = st.tmps.length
  defers : a.defers = []
  tmps : ∀ t, RepAV X w π st.heap (st.get t) (a.tmps.getD t undef)
end

def RelAt (X : Ctx) (π : Pi) (st : St) (a : Act) (w : World) : Prop := RelH X w π st.heap ∧ RelT X w π st a
def Rel (X : Ctx) (st : St) (a : Act) (w : World) : Prop := ∃ π, RelAt X π st a w

theorem hget_map (f : AC → AC) : ∀ (H : List (Nat × OB)) (l : Nat), hget (H.map fun p => (p.1, p.2.map f)) l = (hget H l).map (OB.map f)
  | [], _ => rfl
  | (k, b) :: r, l => by
    simp only [List.map_cons, hget]
    split
    · rfl
    · exact hget_map f r l
theorem hget_drop_same : ∀ (H : List (Nat × OB)) (l : Nat), hget (dropH H l) l = none
  | [], _ => rfl
  | (k, b) :: r, l => by
    simp only [dropH]
    split
    · exact hget_drop_same r l
    · rename_i h; simp only [hget, if_neg h]; exact hget_drop_same r l
theorem hget_drop_ne : ∀ (H : List (Nat × OB)) (l m : Nat), m ≠ l → hget (dropH H l) m = hget H m
  | [], _, _, _ => rfl
  | (k, b) :: r, l, m, hne => by
    simp only [dropH]
    split
    · rename_i h; subst h; simp only [hget, if_neg (Ne.symm hne)]; exact hget_drop_ne r _ m hne
    · simp only [hget]; split
      · rfl
      · exact hget_drop_ne r l m hne
theorem hget_ins_same : ∀ (H : List (Nat × OB)) (l : Nat) (b : OB), hget H l = none → hget (insH H l b) l = some b
  | [], l, b, _ => by simp [insH, hget]
  | (k, c) :: r, l, b, h => by
    simp only [hget] at h
    split at h
    · cases h
    · rename_i hk
      simp only [insH]
      split
      · simp [hget]
      · simp only [hget, if_neg hk]; exact hget_ins_same r l b h
theorem hget_ins_ne : ∀ (H : List (Nat × OB)) (l m : Nat) (b : OB), m ≠ l → hget (insH H l b) m = hget H m
  | [], l, m, b, hne => by simp [insH, hget, Ne.symm hne]
  | (k, c) :: r, l, m, b, hne => by
    simp only [insH]
    split
    · simp only [hget, if_neg (Ne.symm hne)]
    · simp only [hget]; split
      · rfl
      · exact hget_ins_ne r l m b hne
theorem hget_set_same : ∀ (H : List (Nat × OB)) (l : Nat) (b c : OB), hget H l = some c → hget (setH H l b) l = some b
  | [], _, _, _, h => by cases h
  | (k, d) :: r, l, b, c, h => by
    simp only [hget] at h
    simp only [setH]
    split
    · rename_i hk; subst hk; simp [hget]
    · rename_i hk; rw [if_neg hk] at h; simp only [hget, if_neg hk]; exact hget_set_same r l b c h
theorem hget_set_ne : ∀ (H : List (Nat × OB)) (l m : Nat) (b : OB), m ≠ l → hget (setH H l b) m = hget H m
  | [], _, _, _, _ => rfl
  | (k, d) :: r, l, m, b, hne => by
    simp only [setH]
    split
    · rename_i hk; subst hk; simp only [hget, if_neg (Ne.symm hne)]
    · simp only [hget]; split
      · rfl
      · exact hget_set_ne r l m b hne

theorem setL_length {α : Type} : ∀ (l : List α) (i : Nat) (x : α), (setL l i x).length = l.length
  | [], _, _ => rfl
  | _ :: _, 0, _ => rfl
  | _ :: r, n + 1, x => by simp [setL, setL_length r n x]
theorem setL_getD {α : Type} (d : α) : ∀ (l : List α) (i j : Nat) (x : α), (setL l i x).getD j d = if i = j ∧ j < l.length then x else l.getD j d
  | [], i, j, x => by simp [setL]
  | _ :: _, 0, 0, x => by simp [setL]
  | _ :: _, 0, j + 1, x => by simp [setL]
  | _ :: _, n + 1, 0, x => by simp [setL]
  | _ :: r, n + 1, j + 1, x => by
    have h := setL_getD d r n j x
    simp only [setL, List.getD_cons_succ, h, List.length_cons, Nat.add_right_cancel_iff, Nat.add_lt_add_iff_right]

section
variable {X : Ctx} {w w' : World} {π π' : Pi} {H H' : List (Nat × OB)}

/-- What is known before, turned by f, is known behind. -/
structure Move (X : Ctx) (w w' : World) (π π' : Pi) (H H' : List (Nat × OB)) (f : AC → AC) : Prop where
  ac : ∀ c v, RepAC X w π H c v → RepAC X w' π' H' (f c) v
  cells : ∀ fr τ cs x, Cells w (Avoid X.w0.heap.size X.Sc π fr) τ cs x → Cells w' (Avoid X.w0.heap.size X.Sc π' fr) τ cs x

theorem Move.rep {f : AC → AC} (m : Move X w w' π π' H H' f) {fr : Bool} {τ : Ty} {v : Value} {x : τ.den} (h : RepVal w (Avoid X.w0.heap.size X.Sc π fr) τ v x) :
    RepVal w' (Avoid X.w0.heap.size X.Sc π' fr) τ v x :=
  let ⟨cs, hc, hv⟩ := h
  ⟨cs, m.cells fr τ cs x hc, hv⟩
theorem Move.args {f : AC → AC} (m : Move X w w' π π' H H' f) {fr : Bool} : ∀ (τ : Ty) (vs : List Value) (x : τ.den), RepArgs w (Avoid X.w0.heap.size X.Sc π fr) τ vs x →
    RepArgs w' (Avoid X.w0.heap.size X.Sc π' fr) τ vs x
  | .pair a r, [], x, h => h
  | .pair a r, v :: vs, x, h => ⟨m.rep h.1, m.args r vs x.2 h.2⟩
  | .unit, [], _, _ => trivial
  | .unit, _ :: _, _, h => h
  | .int _, _, _, h => by simp [RepArgs] at h
  | .bool, _, _, h => by simp [RepArgs] at h
  | .str, _, _, h => by simp [RepArgs] at h
  | .slice _, _, _, h => by simp [RepArgs] at h
  | .ptr _, _, _, h => by simp [RepArgs] at h
  | .oslice _, _, _, h => by simp [RepArgs] at h
  | .optr _, _, _, h => by simp [RepArgs] at h
  | .smap _, _, _, h => by simp [RepArgs] at h
  | .clo _ _, _, _, h => by simp [RepArgs] at h
theorem Move.acs {f : AC → AC} (m : Move X w w' π π' H H' f) {cs : List AC} {us : List Value} (h : RepACs X w π H cs us) : RepACs X w' π' H' (cs.map f) us :=
  ⟨by rw [List.length_map]; exact h.1, fun i c hc => by
    rw [List.getElem?_map] at hc
    cases hi : cs[i]? with
    | none => rw [hi] at hc; cases hc
    | some d =>
      rw [hi] at hc
      simp only [Option.map_some, Option.some.injEq] at hc
      subst hc
      obtain ⟨u, hu, h1, h2⟩ := h.2 i d hi
      exact ⟨u, hu, h1, m.ac d u h2⟩⟩
theorem Move.part {f : AC → AC} (m : Move X w w' π π' H H' f) {p : Bool × List AC} {v : Value} (h : RepPart X w π H p v) : RepPart X w' π' H' (p.1, p.2.map f) v := by
  unfold RepPart at h ⊢
  dsimp only
  split at h
  · rename_i hp
    rw [if_pos hp]
    obtain ⟨us, hv, hr⟩ := h
    exact ⟨us, hv, m.acs hr⟩
  · rename_i hp
    rw [if_neg hp]
    intro a ha
    cases hq : p.2 with
    | nil => rw [hq] at ha; cases ha
    | cons c r =>
      rw [hq] at ha
      simp only [List.map_cons, List.cons.injEq, List.map_eq_nil_iff] at ha
      obtain ⟨rfl, rfl⟩ := ha
      exact m.ac c v (h c hq)
theorem Move.av {f : AC → AC} (m : Move X w w' π π' H H' f) {c : AV} {v : Value} (h : RepAV X w π H c v) : RepAV X w' π' H' (c.map f) v := by
  cases c with
  | «at» a => exact m.ac a v h
  | agg cs => obtain ⟨us, hv, hr⟩ := h; exact ⟨us, hv, m.acs hr⟩
  | tup fr τ x => obtain ⟨vs, hv, hr⟩ := h; exact ⟨vs, hv, m.args τ vs x hr⟩
  | tupc l =>
    obtain ⟨vs, hv, hl, hr⟩ := h
    refine ⟨vs, hv, by rw [List.length_map]; exact hl, fun i p u hp hu => ?_⟩
    rw [List.getElem?_map] at hp
    cases hi : l[i]? with
    | none => rw [hi] at hp; cases hp
    | some q =>
      rw [hi] at hp
      simp only [Option.map_some, Option.some.injEq] at hp
      subst hp
      exact m.part (hr i q u hi hu)
theorem getD_map_av (f : AC → AC) (hu : f .undef = .undef) (l : List AV) (t : Nat) : (l.map (·.map f)).getD t .undef = (l.getD t .undef).map f := by
  simp only [List.getD_eq_getElem?_getD, List.getElem?_map]
  cases l[t]? with
  | none => simp [AV.undef, AV.map, hu]
  | some v => rfl
theorem Move.relT {f : AC → AC} (hu : f .undef = .undef) {st : St} {a : Act} {H' : List (Nat × OB)} (m : Move X w w' π π' st.heap H' f) (h : RelT X w π st a) :
    RelT X w' π' { tmps := st.tmps.map (·.map f), heap := H' } a :=
  ⟨by simpa using h.size, h.defers, fun t => by
    have := m.av (h.tmps t)
    unfold St.get
    rw [getD_map_av f hu]
    exact this⟩

theorem AC.map_id (c : AV) : c.map (fun c => c) = c := by
  cases c <;> simp [AV.map]

theorem cell_lt {w : World} {a : Addr} {v : Value} (h : w.cell? a = some v) : a.block < w.heap.size := by
  unfold World.cell? at h
  cases hb : w.heap[a.block]? with
  | none => rw [hb] at h; cases h
  | some o => exact (Array.getElem?_eq_some_iff.1 hb).1

/-- QUIET: no old block turns. -/
theorem Move.quiet (hw : ∀ k, k < w.heap.size → w'.heap[k]? = w.heap[k]?) (hs : w.heap.size ≤ w'.heap.size) : Move X w w' π π H H (fun c => c) := by
  have hc : ∀ fr τ cs x, Cells w (Avoid X.w0.heap.size X.Sc π fr) τ cs x → Cells w' (Avoid X.w0.heap.size X.Sc π fr) τ cs x :=
    fun fr τ cs x h => Cells.keep hs (fun k hk _ => hw k hk) (fun _ _ h => h) τ cs x h
  refine ⟨fun c v h => ?_, hc⟩
  cases c with
  | data fr τ x => obtain ⟨cs, h1, h2⟩ := h; exact ⟨cs, hc _ _ _ _ h1, h2⟩
  | sub l i c =>
    obtain ⟨r, e, tid, xs, h1, h2, h3, h4, h5⟩ := h
    exact ⟨r, e, tid, xs, h1, h2, h3, h4, by rw [World.cell?_of_block (hw _ (cell_lt h5))]; exact h5⟩
  | _ => exact h

theorem lt_of_heap {w : World} {g : Nat} {o : Obj} (h : w.heap[g]? = some o) : g < w.heap.size := (Array.getElem?_eq_some_iff.1 h).1

/-- Blocks that the relation places are there. -/
theorem RelH.own (h : RelH X w π H) {b : Nat} (hb : Own π b) : b < w.heap.size ∧ (X.w0.heap.size ≤ b ∨ X.gv b) := by
  obtain ⟨l, r, hr, hf⟩ := hb
  have := h.place l r b hr (h.sub l r b hr hf)
  exact ⟨this.2, this.1⟩
theorem RelH.foot (h : RelH X w π H) {l : Nat} {r : Real} (hr : π l = some r) : r.foot r.g := by
  have hl := h.heap l
  unfold HeapAt at hl
  split at hl
  · rw [hl] at hr; cases hr
  · rw [hr] at hl; exact hl.1.1
  · rw [hr] at hl; exact hl.1
  · obtain ⟨r', h0, h1, _⟩ := hl; rw [hr] at h0; cases h0; exact h1
  · obtain ⟨r', h0, h1, _⟩ := hl; rw [hr] at h0; cases h0; exact h1
theorem RelH.lt (h : RelH X w π H) {l : Nat} {r : Real} (hr : π l = some r) : r.g < w.heap.size ∧ (X.w0.heap.size ≤ r.g ∨ X.gv r.g) :=
  h.own ⟨l, r, hr, h.foot hr⟩
/-- Two labels have no block in common. -/
theorem RelH.apart (h : RelH X w π H) {l l' : Nat} {r r' : Real} {b : Nat} (hr : π l = some r) (hr' : π l' = some r') (hb : r.foot b) (hb' : r'.foot b) : l = l' :=
  h.inj l l' r r' b hr hr' (h.sub l r b hr hb) (h.sub l' r' b hr' hb')

/-- The blocks of a tree are there, and it lasts with them. -/
theorem TCells.lt {w : World} : ∀ (F : List Nat) (τ : Ty) (cs : List Value) (x : τ.den), TCells w F τ cs x → ∀ b ∈ F, b < w.heap.size := by
  intro F τ
  induction τ generalizing F with
  | slice e ih =>
    intro cs xs h b hb
    simp only [TCells] at h
    obtain ⟨a, len, cap, _, _, _, h⟩ := h
    rcases h with ⟨_, rfl, _⟩ | ⟨ad, g, o, Fs, _, _, hg, rfl, hl, hall⟩
    · cases hb
    · rcases List.mem_cons.1 hb with rfl | hb
      · exact hg.lt
      · obtain ⟨Fi, hFi, hbi⟩ := List.mem_flatten.1 hb
        obtain ⟨i, hi, rfl⟩ := List.getElem_of_mem hFi
        obtain ⟨es, _, _, hr⟩ := hall i (xs[i]'(by omega)) _ (List.getElem?_eq_getElem _) (List.getElem?_eq_getElem hi)
        exact ih _ es _ hr b hbi
  | pair a r iha ihr =>
    intro cs x h b hb
    simp only [TCells] at h
    obtain ⟨c1, c2, F1, F2, _, rfl, h1, h2⟩ := h
    rcases List.mem_append.1 hb with hb | hb
    · exact iha _ c1 _ h1 b hb
    · exact ihr _ c2 _ h2 b hb
  | int k => intro cs x h b hb; simp only [TCells] at h; rw [h.1] at hb; cases hb
  | bool => intro cs x h b hb; simp only [TCells] at h; rw [h.1] at hb; cases hb
  | str => intro cs x h b hb; simp only [TCells] at h; rw [h.1] at hb; cases hb
  | unit => intro cs x h b hb; simp only [TCells] at h; rw [h.1] at hb; cases hb
  | _ => intro cs x h; simp only [TCells] at h
theorem TCells.keep {w w' : World} : ∀ (F : List Nat) (τ : Ty) (cs : List Value) (x : τ.den), TCells w F τ cs x → w.heap.size ≤ w'.heap.size → (∀ b ∈ F, w'.heap[b]? = w.heap[b]?) → TCells w' F τ cs x := by
  intro F τ
  induction τ generalizing F with
  | slice e ih =>
    intro cs xs h hs hk
    simp only [TCells] at h ⊢
    obtain ⟨a, len, cap, h1, h2, h3, h⟩ := h
    refine ⟨a, len, cap, h1, h2, h3, ?_⟩
    rcases h with h | ⟨ad, g, o, Fs, h4, h0, hg, rfl, hl, hall⟩
    · exact .inl h
    · refine .inr ⟨ad, g, o, Fs, h4, h0, hg.keep (hk g (by simp)), rfl, hl, fun i x Fi hx hF => ?_⟩
      obtain ⟨es, h5, h6, h7⟩ := hall i x Fi hx hF
      exact ⟨es, h5, fun j u hu => by rw [World.cell?_of_block (hk g (by simp))]; exact h6 j u hu,
        ih Fi es x h7 hs fun b hb => hk b (List.mem_cons_of_mem _ (List.mem_flatten.2 ⟨Fi, List.mem_of_getElem? hF, hb⟩))⟩
  | pair a r iha ihr =>
    intro cs x h hs hk
    simp only [TCells] at h ⊢
    obtain ⟨c1, c2, F1, F2, h1, rfl, h2, h3⟩ := h
    exact ⟨c1, c2, F1, F2, h1, rfl, iha F1 c1 _ h2 hs (fun b hb => hk b (List.mem_append_left _ hb)), ihr F2 c2 _ h3 hs (fun b hb => hk b (List.mem_append_right _ hb))⟩
  | int k => intro cs x h _ _; exact h
  | bool => intro cs x h _ _; exact h
  | str => intro cs x h _ _; exact h
  | unit => intro cs x h _ _; exact h
  | _ => intro cs x h; simp only [TCells] at h
/-- A tree reads as plain data. -/
theorem TCells.cells {w : World} {S : Nat → Prop} : ∀ (F : List Nat) (τ : Ty) (cs : List Value) (x : τ.den), TCells w F τ cs x → (∀ b ∈ F, ¬ S b) → Cells w S τ cs x := by
  intro F τ
  induction τ generalizing F with
  | slice e ih =>
    intro cs xs h hk
    simp only [TCells] at h
    simp only [Cells]
    obtain ⟨a, len, cap, h1, h2, h3, h⟩ := h
    refine ⟨a, len, cap, h1, h2, h3, ?_⟩
    rcases h with h | ⟨ad, g, o, Fs, h4, h0, hg, rfl, hl, hall⟩
    · exact .inl h.1
    by_cases hx0 : xs = []
    · exact .inl hx0
    · have hc0 : 0 < cap := by
        rcases Nat.eq_zero_or_pos cap with e0 | e0
        · exact absurd (List.eq_nil_of_length_eq_zero (by omega)) hx0
        · exact e0
      refine .inr ⟨g, o, by rw [h4, h0 hc0], hg.lt, hk g (by simp), fun i x hx => ?_⟩
      have hi : i < Fs.length := by have := (List.getElem?_eq_some_iff.1 hx).1; omega
      obtain ⟨es, h5, h6, h7⟩ := hall i x _ hx (List.getElem?_eq_getElem hi)
      exact ⟨es, h5, h6, ih _ es x h7 fun b hb => hk b (List.mem_cons_of_mem _ (List.mem_flatten.2 ⟨_, List.getElem_mem hi, hb⟩))⟩
  | pair a r iha ihr =>
    intro cs x h hk
    simp only [TCells] at h
    simp only [Cells]
    obtain ⟨c1, c2, F1, F2, h1, rfl, h2, h3⟩ := h
    exact ⟨c1, c2, h1, iha F1 c1 _ h2 (fun b hb => hk b (List.mem_append_left _ hb)), ihr F2 c2 _ h3 (fun b hb => hk b (List.mem_append_right _ hb))⟩
  | int k => intro cs x h _; simp only [TCells] at h; exact h.2
  | bool => intro cs x h _; simp only [TCells] at h; exact h.2
  | str => intro cs x h _; simp only [TCells] at h; exact h.2
  | unit => intro cs x h _; simp only [TCells] at h; exact h.2
  | _ => intro cs x h; simp only [TCells] at h
theorem TreeAt.keep {w w' : World} {P P' : Nat → Prop} {g o : Nat} {cur : Array Value} {e : Ty} {xs : List e.den} (h : TreeAt w P g o cur e xs) (hs : w.heap.size ≤ w'.heap.size)
    (hk : ∀ b, b ≠ g → b < w.heap.size → P b → w'.heap[b]? = w.heap[b]?) (hP : ∀ b, P b → P' b) : TreeAt w' P' g o cur e xs := by
  obtain ⟨Fs, h1, h2, h3, h4⟩ := h
  refine ⟨Fs, h1, h2, fun b hb => hP b (h3 b hb), fun i x F hx hF => ?_⟩
  obtain ⟨es, h5, h6, h7⟩ := h4 i x F hx hF
  refine ⟨es, h5, h6, h7.keep _ _ _ _ hs fun b hb => ?_⟩
  have hbf : b ∈ List.flatten Fs := List.mem_flatten.2 ⟨F, List.mem_of_getElem? hF, hb⟩
  exact hk b (fun e => by subst e; exact (List.nodup_cons.1 h2).1 hbf) (h7.lt _ _ _ _ b hb) (h3 b hbf)

theorem RelH.quiet (h : RelH X w π H) (hb : Below w.heap.size w w') : RelH X w' π H := by
  have m : Move X w w' π π H H (fun c => c) := Move.quiet (fun k hk => hb.block k hk) hb.size
  refine ⟨h.below.trans (.of (hb.mono h.below.size)), h.sc, h.sub, fun l r b h1 h2 => ⟨(h.place l r b h1 h2).1, Nat.lt_of_lt_of_le (h.place l r b h1 h2).2 hb.size⟩, h.inj, h.pin, fun l => ?_⟩
  have hl := h.heap l
  unfold HeapAt at hl ⊢
  cases hg : hget H l with
  | none => rw [hg] at hl; exact hl
  | some b =>
    rw [hg] at hl
    cases b with
    | arr fr tr e tid xs =>
      simp only [ArrAt] at hl ⊢
      cases hp : π l with
      | none => rw [hp] at hl; exact hl
      | some r =>
        rw [hp] at hl
        obtain ⟨h1, cur, ti, h2, h3, h4, h5, h6, h7⟩ := hl
        refine ⟨h1, cur, ti, (hb.block _ (lt_of_heap h2)).trans h2, h3, h4, h5, fun i x hx => ?_, fun ht => (h7 ht).keep hb.size (fun b _ hlt _ => hb.block b hlt) fun _ hb => hb⟩
        obtain ⟨es, he, hj, hc⟩ := h6 i x hx
        exact ⟨es, he, hj, m.cells _ _ _ _ hc⟩
    | xarr e tid xs =>
      simp only [XArrAt] at hl ⊢
      cases hp : π l with
      | none => rw [hp] at hl; exact hl
      | some r =>
        rw [hp] at hl
        obtain ⟨h1, cur, ti, h2, h3, h4, h5, h7⟩ := hl
        exact ⟨h1, cur, ti, (hb.block _ (lt_of_heap h2)).trans h2, h3, h4, h5, h7.keep hb.size (fun b _ hlt _ => hb.block b hlt) fun _ hb => hb⟩
    | var tid vs =>
      obtain ⟨r, h0, h1, cur, h2, h3⟩ := hl
      refine ⟨r, h0, h1, cur, (hb.block _ (lt_of_heap h2)).trans h2, ?_⟩
      have := m.acs h3
      simpa using this
    | smp v f =>
      obtain ⟨r, h0, h1, h2, h3⟩ := hl
      exact ⟨r, h0, h1, h2, Cells.keep hb.size (fun k hk _ => hb.block k hk) (fun _ _ h => h) _ _ _ h3⟩

theorem RelAt.quiet {st : St} {a : Act} (h : RelAt X π st a w) (hb : Below w.heap.size w w') : RelAt X π st a w' := by
  refine ⟨h.1.quiet hb, ?_⟩
  have m : Move X w w' π π st.heap st.heap (fun c => c) := Move.quiet (fun k hk => hb.block k hk) hb.size
  exact ⟨h.2.size, h.2.defers, fun t => by have := m.av (h.2.tmps t); rwa [AC.map_id] at this⟩

/-- A slot is written. -/
theorem RelAt.put {st : St} {a : Act} (h : RelAt X π st a w) (dst : Option Tmp) {c : AV} {v : Value} (hv : RepAV X w π st.heap c v) : RelAt X π (st.put dst c) (a.put dst v) w := by
  cases dst with
  | none => exact h
  | some d =>
    refine ⟨h.1, ⟨by simp [St.put, Act.put, setL_length, h.2.size], h.2.defers, fun t => ?_⟩⟩
    show RepAV X w π st.heap ((setL st.tmps d c).getD t .undef) ((a.tmps.setIfInBounds d v).getD t undef)
    rw [setL_getD]
    have hsz := h.2.size
    by_cases hdt : d = t ∧ t < st.tmps.length
    · rw [if_pos hdt]
      obtain ⟨rfl, hlt⟩ := hdt
      have : (a.tmps.setIfInBounds d v).getD d undef = v := by simp [hsz, hlt]
      rw [this]; exact hv
    · rw [if_neg hdt]
      have : (a.tmps.setIfInBounds d v).getD t undef = a.tmps.getD t undef := by
        by_cases hd : d = t
        · subst hd
          have hge : ¬ d < a.tmps.size := fun hh => hdt ⟨rfl, hsz ▸ hh⟩
          simp [Array.setIfInBounds, hge]
        · simp [Array.getElem?_setIfInBounds_ne hd]
      rw [this]; exact h.2.tmps t
end
end Go.Proofs.Ytfghmbpogmcboaa
