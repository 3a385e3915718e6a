/-
  AX, part 4: how the plain state stands to the machine's: the relation, and how it lasts.
-/
import Derived.Test.YtingphpncocimaaAx3
namespace Go.Proofs.Ytingphpncocimaa
open Go.RowKit

/-- Where a block of the call's own lies: the block, its first element, the room from there. -/
structure Real where
  g : Nat
  o : Nat
  cap : Nat

abbrev Pi := Nat → Option Real
def Own (π : Pi) (b : Nat) : Prop := ∃ l r, π l = some r ∧ r.g = b
def Avoid (B : Nat) (Sc : Nat → Prop) (π : Pi) (fr : Bool) (b : Nat) : Prop := Own π b ∨ Sc b ∨ (fr = true ∧ b < B)

def OwnVal (r : Option Real) (size off len : Nat) (v : Value) : Prop :=
  match r with
  | none => v = .slice none 0 0 ∧ off = 0 ∧ len = 0
  | some r => ∃ ad : Addr, v = .slice (some ad) len (r.cap - off) ∧ off + len ≤ r.cap ∧ (off < r.cap → ad = ⟨r.g, (r.o + off) * size, none⟩)

/-- The setting: where the call began, what its caller owns. -/
structure Ctx where
  w0 : World
  Sc : Nat → Prop

section
variable (X : Ctx) (w : World) (π : Pi) (H : List (Nat × OB))

def RepAC : AC → Value → Prop
  | .undef, _ => True
  | .skip, v => v = Go.undef
  | .nilv, v => v = .slice none 0 0
  | .nilp, v => v = .pointer none
  | .data fr τ x, v => RepVal w (Avoid X.w0.heap.size X.Sc π fr) τ v x
  | .own l off len, v => ∃ fr e tid xs, hget H l = some (.arr fr e tid xs) ∧ off + len ≤ xs.length ∧ OwnVal (π l) e.size off len v
  | .vptr l i, v => ∃ r tid vs, hget H l = some (.var tid vs) ∧ π l = some r ∧ v = .pointer (some ⟨r.g, i, none⟩)
  | .eptr l i, v => ∃ r fr e tid xs, hget H l = some (.arr fr e tid xs) ∧ i < xs.length ∧ π l = some r ∧ v = .pointer (some ⟨r.g, (r.o + i) * e.size, none⟩)

/-- Cells, one by one. -/
def RepACs (cs : List AC) (us : List Value) : Prop := us.length = cs.length ∧ ∀ (i : Nat) c, cs[i]? = some c → ∃ u, us[i]? = some u ∧ u.oneCell' = true ∧ RepAC X w π H c u

def RepAV : AV → Value → Prop
  | .at a, v => RepAC X w π H a v
  | .agg cs, v => ∃ us : List Value, v = .agg us.toArray ∧ RepACs X w π H cs us
  | .tup fr τ x, v => ∃ vs : List Value, v = .tuple vs.toArray ∧ RepArgs w (Avoid X.w0.heap.size X.Sc π fr) τ vs x

def ArrAt (r : Option Real) (fr : Bool) (e : Ty) (tid : TypeId) (xs : List e.den) : Prop :=
  match r with
  | none => xs = []
  | some r => X.w0.heap.size ≤ r.g ∧ ∃ cur : Array Value, w.heap[r.g]? = some (.cells cur tid (0, 0)) ∧ cur.size = (r.o + r.cap) * e.size ∧ r.cap ≤ maxLen ∧ xs.length ≤ r.cap ∧
      ∀ (i : Nat) (x : e.den), xs[i]? = some x → ∃ es : List Value, es.length = e.size ∧ (∀ j u, es[j]? = some u → cur[(r.o + i) * e.size + j]? = some u) ∧ Cells w (Avoid X.w0.heap.size X.Sc π fr) e es x

def VarAt (r : Option Real) (tid : TypeId) (vs : List AC) : Prop :=
  ∃ r', r = some r' ∧ X.w0.heap.size ≤ r'.g ∧ ∃ cur : Array Value, w.heap[r'.g]? = some (.cells cur tid (0, 0)) ∧ RepACs X w π H vs cur.toList

def HeapAt (l : Nat) : Prop :=
  match hget H l with
  | none => π l = none
  | some (.arr fr e tid xs) => ArrAt X w π (π l) fr e tid xs
  | some (.var tid vs) => VarAt X w π H (π l) tid vs

structure RelH : Prop where
  below : Below X.w0.heap.size X.w0 w
  sc : ∀ b, X.Sc b → b < X.w0.heap.size
  inj : ∀ l l' r r', π l = some r → π l' = some r' → r.g = r'.g → l = l'
  heap : ∀ l, HeapAt X w π H l

structure RelT (st : St) (a : Act) : Prop where
  size : a.tmps.size = st.tmps.length
  defers : a.defers = []
  tmps : ∀ t, RepAV X w π st.heap (st.get t) (a.tmps.getD t undef)
end

def RelAt (X : Ctx) (π : Pi) (st : St) (a : Act) (w : World) : Prop := RelH X w π st.heap ∧ RelT X w π st a
def Rel (X : Ctx) (st : St) (a : Act) (w : World) : Prop := ∃ π, RelAt X π st a w

/-! ### The lists of blocks -/
theorem hget_map (f : AC → AC) : ∀ (H : List (Nat × OB)) (l : Nat), hget (H.map fun p => (p.1, p.2.map f)) l = (hget H l).map (OB.map f)
  | [], _ => rfl
  | (k, b) :: r, l => by
    simp only [List.map_cons, hget]
    split
    · rfl
    · exact hget_map f r l
theorem hget_drop_same : ∀ (H : List (Nat × OB)) (l : Nat), hget (dropH H l) l = none
  | [], _ => rfl
  | (k, b) :: r, l => by
    simp only [dropH]
    split
    · exact hget_drop_same r l
    · rename_i h; simp only [hget, if_neg h]; exact hget_drop_same r l
theorem hget_drop_ne : ∀ (H : List (Nat × OB)) (l m : Nat), m ≠ l → hget (dropH H l) m = hget H m
  | [], _, _, _ => rfl
  | (k, b) :: r, l, m, hne => by
    simp only [dropH]
    split
    · rename_i h; subst h; simp only [hget, if_neg (Ne.symm hne)]; exact hget_drop_ne r _ m hne
    · simp only [hget]; split
      · rfl
      · exact hget_drop_ne r l m hne
theorem hget_ins_same : ∀ (H : List (Nat × OB)) (l : Nat) (b : OB), hget H l = none → hget (insH H l b) l = some b
  | [], l, b, _ => by simp [insH, hget]
  | (k, c) :: r, l, b, h => by
    simp only [hget] at h
    split at h
    · cases h
    · rename_i hk
      simp only [insH]
      split
      · simp [hget]
      · simp only [hget, if_neg hk]; exact hget_ins_same r l b h
theorem hget_ins_ne : ∀ (H : List (Nat × OB)) (l m : Nat) (b : OB), m ≠ l → hget (insH H l b) m = hget H m
  | [], l, m, b, hne => by simp [insH, hget, Ne.symm hne]
  | (k, c) :: r, l, m, b, hne => by
    simp only [insH]
    split
    · simp only [hget, if_neg (Ne.symm hne)]
    · simp only [hget]; split
      · rfl
      · exact hget_ins_ne r l m b hne
theorem hget_set_same : ∀ (H : List (Nat × OB)) (l : Nat) (b c : OB), hget H l = some c → hget (setH H l b) l = some b
  | [], _, _, _, h => by cases h
  | (k, d) :: r, l, b, c, h => by
    simp only [hget] at h
    simp only [setH]
    split
    · rename_i hk; subst hk; simp [hget]
    · rename_i hk; rw [if_neg hk] at h; simp only [hget, if_neg hk]; exact hget_set_same r l b c h
theorem hget_set_ne : ∀ (H : List (Nat × OB)) (l m : Nat) (b : OB), m ≠ l → hget (setH H l b) m = hget H m
  | [], _, _, _, _ => rfl
  | (k, d) :: r, l, m, b, hne => by
    simp only [setH]
    split
    · rename_i hk; subst hk; simp only [hget, if_neg (Ne.symm hne)]
    · simp only [hget]; split
      · rfl
      · exact hget_set_ne r l m b hne

theorem setL_length {α : Type} : ∀ (l : List α) (i : Nat) (x : α), (setL l i x).length = l.length
  | [], _, _ => rfl
  | _ :: _, 0, _ => rfl
  | _ :: r, n + 1, x => by simp [setL, setL_length r n x]
theorem setL_getD {α : Type} (d : α) : ∀ (l : List α) (i j : Nat) (x : α), (setL l i x).getD j d = if i = j ∧ j < l.length then x else l.getD j d
  | [], i, j, x => by simp [setL]
  | _ :: _, 0, 0, x => by simp [setL]
  | _ :: _, 0, j + 1, x => by simp [setL]
  | _ :: _, n + 1, 0, x => by simp [setL]
  | _ :: r, n + 1, j + 1, x => by
    have h := setL_getD d r n j x
    simp only [setL, List.getD_cons_succ, h, List.length_cons, Nat.add_right_cancel_iff, Nat.add_lt_add_iff_right]

/-! ### Moving on -/
section
variable {X : Ctx} {w w' : World} {π π' : Pi} {H H' : List (Nat × OB)}

/-- What is known before, turned by f, is known behind. -/
structure Move (X : Ctx) (w w' : World) (π π' : Pi) (H H' : List (Nat × OB)) (f : AC → AC) : Prop where
  ac : ∀ c v, RepAC X w π H c v → RepAC X w' π' H' (f c) v
  cells : ∀ fr τ cs x, Cells w (Avoid X.w0.heap.size X.Sc π fr) τ cs x → Cells w' (Avoid X.w0.heap.size X.Sc π' fr) τ cs x

theorem Move.rep {f : AC → AC} (m : Move X w w' π π' H H' f) {fr : Bool} {τ : Ty} {v : Value} {x : τ.den} (h : RepVal w (Avoid X.w0.heap.size X.Sc π fr) τ v x) :
    RepVal w' (Avoid X.w0.heap.size X.Sc π' fr) τ v x :=
  let ⟨cs, hc, hv⟩ := h
  ⟨cs, m.cells fr τ cs x hc, hv⟩
theorem Move.args {f : AC → AC} (m : Move X w w' π π' H H' f) {fr : Bool} : ∀ (τ : Ty) (vs : List Value) (x : τ.den), RepArgs w (Avoid X.w0.heap.size X.Sc π fr) τ vs x →
    RepArgs w' (Avoid X.w0.heap.size X.Sc π' fr) τ vs x
  | .pair a r, [], x, h => h
  | .pair a r, v :: vs, x, h => ⟨m.rep h.1, m.args r vs x.2 h.2⟩
  | .unit, [], _, _ => trivial
  | .unit, _ :: _, _, h => h
  | .int _, _, _, h => by simp [RepArgs] at h
  | .bool, _, _, h => by simp [RepArgs] at h
  | .str, _, _, h => by simp [RepArgs] at h
  | .slice _, _, _, h => by simp [RepArgs] at h
  | .ptr _, _, _, h => by simp [RepArgs] at h
theorem Move.acs {f : AC → AC} (m : Move X w w' π π' H H' f) {cs : List AC} {us : List Value} (h : RepACs X w π H cs us) : RepACs X w' π' H' (cs.map f) us :=
  ⟨by rw [List.length_map]; exact h.1, fun i c hc => by
    rw [List.getElem?_map] at hc
    cases hi : cs[i]? with
    | none => rw [hi] at hc; cases hc
    | some d =>
      rw [hi] at hc
      simp only [Option.map_some, Option.some.injEq] at hc
      subst hc
      obtain ⟨u, hu, h1, h2⟩ := h.2 i d hi
      exact ⟨u, hu, h1, m.ac d u h2⟩⟩
theorem Move.av {f : AC → AC} (m : Move X w w' π π' H H' f) {c : AV} {v : Value} (h : RepAV X w π H c v) : RepAV X w' π' H' (c.map f) v := by
  cases c with
  | «at» a => exact m.ac a v h
  | agg cs => obtain ⟨us, hv, hr⟩ := h; exact ⟨us, hv, m.acs hr⟩
  | tup fr τ x => obtain ⟨vs, hv, hr⟩ := h; exact ⟨vs, hv, m.args τ vs x hr⟩
theorem getD_map_av (f : AC → AC) (hu : f .undef = .undef) (l : List AV) (t : Nat) : (l.map (·.map f)).getD t .undef = (l.getD t .undef).map f := by
  simp only [List.getD_eq_getElem?_getD, List.getElem?_map]
  cases l[t]? with
  | none => simp [AV.undef, AV.map, hu]
  | some v => rfl
theorem Move.relT {f : AC → AC} (hu : f .undef = .undef) {st : St} {a : Act} {H' : List (Nat × OB)} (m : Move X w w' π π' st.heap H' f) (h : RelT X w π st a) :
    RelT X w' π' { tmps := st.tmps.map (·.map f), heap := H' } a :=
  ⟨by simpa using h.size, h.defers, fun t => by
    have := m.av (h.tmps t)
    unfold St.get
    rw [getD_map_av f hu]
    exact this⟩

theorem AC.map_id (c : AV) : c.map (fun c => c) = c := by
  cases c <;> simp [AV.map]

/-- QUIET: no old block turns. -/
theorem Move.quiet (hw : ∀ k, k < w.heap.size → w'.heap[k]? = w.heap[k]?) (hs : w.heap.size ≤ w'.heap.size) : Move X w w' π π H H (fun c => c) := by
  have hc : ∀ fr τ cs x, Cells w (Avoid X.w0.heap.size X.Sc π fr) τ cs x → Cells w' (Avoid X.w0.heap.size X.Sc π fr) τ cs x :=
    fun fr τ cs x h => Cells.keep hs (fun k hk _ => hw k hk) (fun _ _ h => h) τ cs x h
  refine ⟨fun c v h => ?_, hc⟩
  cases c with
  | data fr τ x => obtain ⟨cs, h1, h2⟩ := h; exact ⟨cs, hc _ _ _ _ h1, h2⟩
  | _ => exact h

theorem lt_of_heap {w : World} {g : Nat} {o : Obj} (h : w.heap[g]? = some o) : g < w.heap.size := (Array.getElem?_eq_some_iff.1 h).1

/-- Blocks that the relation places are there. -/
theorem RelH.lt (h : RelH X w π H) {l : Nat} {r : Real} (hr : π l = some r) : r.g < w.heap.size ∧ X.w0.heap.size ≤ r.g := by
  have hl := h.heap l
  unfold HeapAt at hl
  split at hl
  · rw [hl] at hr; cases hr
  · rw [hr] at hl; obtain ⟨h1, cur, h2, _⟩ := hl; exact ⟨lt_of_heap h2, h1⟩
  · obtain ⟨r', h0, h1, cur, h2, _⟩ := hl
    rw [hr] at h0
    cases h0
    exact ⟨lt_of_heap h2, h1⟩

theorem RelH.quiet (h : RelH X w π H) (hb : Below w.heap.size w w') : RelH X w' π H := by
  have m : Move X w w' π π H H (fun c => c) := Move.quiet (fun k hk => hb.block k hk) hb.size
  refine ⟨h.below.trans (hb.mono h.below.size), h.sc, h.inj, fun l => ?_⟩
  have hl := h.heap l
  unfold HeapAt at hl ⊢
  cases hg : hget H l with
  | none => rw [hg] at hl; exact hl
  | some b =>
    rw [hg] at hl
    cases b with
    | arr fr e tid xs =>
      simp only [ArrAt] at hl ⊢
      cases hp : π l with
      | none => rw [hp] at hl; exact hl
      | some r =>
        rw [hp] at hl
        obtain ⟨h1, cur, h2, h3, h4, h5, h6⟩ := hl
        refine ⟨h1, cur, (hb.block _ (lt_of_heap h2)).trans h2, h3, h4, h5, fun i x hx => ?_⟩
        obtain ⟨es, he, hj, hc⟩ := h6 i x hx
        exact ⟨es, he, hj, m.cells _ _ _ _ hc⟩
    | var tid vs =>
      obtain ⟨r, h0, h1, cur, h2, h3⟩ := hl
      refine ⟨r, h0, h1, cur, (hb.block _ (lt_of_heap h2)).trans h2, ?_⟩
      have := m.acs h3
      simpa using this

theorem RelAt.quiet {st : St} {a : Act} (h : RelAt X π st a w) (hb : Below w.heap.size w w') : RelAt X π st a w' := by
  refine ⟨h.1.quiet hb, ?_⟩
  have m : Move X w w' π π st.heap st.heap (fun c => c) := Move.quiet (fun k hk => hb.block k hk) hb.size
  exact ⟨h.2.size, h.2.defers, fun t => by have := m.av (h.2.tmps t); rwa [AC.map_id] at this⟩

/-- A slot is written. -/
theorem RelAt.put {st : St} {a : Act} (h : RelAt X π st a w) (dst : Option Tmp) {c : AV} {v : Value} (hv : RepAV X w π st.heap c v) : RelAt X π (st.put dst c) (a.put dst v) w := by
  cases dst with
  | none => exact h
  | some d =>
    refine ⟨h.1, ⟨by simp [St.put, Act.put, setL_length, h.2.size], h.2.defers, fun t => ?_⟩⟩
    show RepAV X w π st.heap ((setL st.tmps d c).getD t .undef) ((a.tmps.setIfInBounds d v).getD t undef)
    rw [setL_getD]
    have hsz := h.2.size
    by_cases hdt : d = t ∧ t < st.tmps.length
    · rw [if_pos hdt]
      obtain ⟨rfl, hlt⟩ := hdt
      have : (a.tmps.setIfInBounds d v).getD d undef = v := by simp [hsz, hlt]
      rw [this]; exact hv
    · rw [if_neg hdt]
      have : (a.tmps.setIfInBounds d v).getD t undef = a.tmps.getD t undef := by
        by_cases hd : d = t
        · subst hd
          have hge : ¬ d < a.tmps.size := fun hh => hdt ⟨rfl, hsz ▸ hh⟩
          simp [Array.setIfInBounds, hge]
        · simp [Array.getElem?_setIfInBounds_ne hd]
      rw [this]; exact h.2.tmps t
end
end Go.Proofs.Ytingphpncocimaa
