/-
  AX, part 5: blocks of the call's own come, change, and go.
-/
import Derived.Test.YtingphpncocimaaAx4
namespace Go.Proofs.Ytingphpncocimaa
open Go.RowKit

def upd (π : Pi) (l : Nat) (r : Option Real) : Pi := fun k => if k = l then r else π k

theorem upd_same (π : Pi) (l : Nat) (r : Option Real) : upd π l r l = r := by simp [upd]
theorem upd_ne (π : Pi) {l m : Nat} (r : Option Real) (h : m ≠ l) : upd π l r m = π m := by simp [upd, h]

section
variable {X : Ctx} {w w' : World} {π : Pi} {H H' : List (Nat × OB)}

def BlockAt (X : Ctx) (w : World) (π : Pi) (H : List (Nat × OB)) (r : Option Real) : OB → Prop
  | .arr fr e tid xs => ArrAt X w π r fr e tid xs
  | .var tid vs => VarAt X w π H r tid vs

theorem HeapAt.blk {l : Nat} {b : OB} (h : HeapAt X w π H l) (hb : hget H l = some b) : BlockAt X w π H (π l) b := by
  unfold HeapAt at h
  rw [hb] at h
  cases b <;> exact h
theorem HeapAt.of_block {l : Nat} {b : OB} (h : BlockAt X w π H (π l) b) (hb : hget H l = some b) : HeapAt X w π H l := by
  unfold HeapAt
  rw [hb]
  cases b <;> exact h
theorem HeapAt.of_none {l : Nat} (h : π l = none) (hb : hget H l = none) : HeapAt X w π H l := by
  unfold HeapAt; rw [hb]; exact h
theorem HeapAt.emp {l : Nat} (h : HeapAt X w π H l) (hb : hget H l = none) : π l = none := by
  unfold HeapAt at h; rw [hb] at h; exact h

/-- What stands for a block that did not turn. -/
theorem BlockAt.move {f : AC → AC} {π' : Pi} (m : Move X w w' π π' H H' f) {r : Option Real} {b : OB} (h : BlockAt X w π H r b) (hk : ∀ r', r = some r' → w'.heap[r'.g]? = w.heap[r'.g]?) :
    BlockAt X w' π' H' r (b.map f) := by
  cases b with
  | arr fr e tid xs =>
    simp only [BlockAt, ArrAt, OB.map] at h ⊢
    cases hr : r with
    | none => rw [hr] at h; exact h
    | some r =>
      rw [hr] at h
      obtain ⟨h1, cur, h2, h3, h4, h5, h6⟩ := h
      refine ⟨h1, cur, (hk r hr).trans h2, h3, h4, h5, fun i x hx => ?_⟩
      obtain ⟨es, he, hj, hc⟩ := h6 i x hx
      exact ⟨es, he, hj, m.cells _ _ _ _ hc⟩
  | var tid vs =>
    obtain ⟨r', h0, h1, cur, h2, h3⟩ := h
    exact ⟨r', h0, h1, cur, (hk r' h0).trans h2, m.acs h3⟩

theorem Move.forget {l : Nat} {r' : Option Real} (hs : w.heap.size ≤ w'.heap.size)
    (hk : ∀ k, k < w.heap.size → (∀ r, π l = some r → r.g ≠ k) → w'.heap[k]? = w.heap[k]?)
    (hr : ∀ r, r' = some r → (∃ r0, π l = some r0 ∧ r0.g = r.g) ∨ w.heap.size ≤ r.g)
    (hH : ∀ m, m ≠ l → hget H' m = (hget H m).map (OB.map (forgetAC l))) : Move X w w' π (upd π l r') H H' (forgetAC l) := by
  have hc : ∀ fr τ cs x, Cells w (Avoid X.w0.heap.size X.Sc π fr) τ cs x → Cells w' (Avoid X.w0.heap.size X.Sc (upd π l r') fr) τ cs x := by
    intro fr τ cs x h
    refine Cells.keep hs (fun k hk' hn => hk k hk' fun r h0 h1 => hn (.inl ⟨l, r, h0, h1⟩)) (fun k hk' hA => ?_) τ cs x h
    rcases hA with ⟨m, r, hm, hg⟩ | h2
    · by_cases hml : m = l
      · subst hml
        rw [upd_same] at hm
        rcases hr r hm with ⟨r0, h0, h1⟩ | h1
        · exact .inl ⟨m, r0, h0, h1.trans hg⟩
        · omega
      · rw [upd_ne π r' hml] at hm
        exact .inl ⟨m, r, hm, hg⟩
    · exact .inr h2
  refine ⟨fun c v h => ?_, hc⟩
  cases c with
  | data fr τ x => obtain ⟨cs, h1, h2⟩ := h; exact ⟨cs, hc _ _ _ _ h1, h2⟩
  | own k off len =>
    simp only [forgetAC]
    split
    · trivial
    · rename_i hkl
      obtain ⟨fr, e, tid, xs, h1, h2, h3⟩ := h
      exact ⟨fr, e, tid, xs, by rw [hH k hkl, h1]; rfl, h2, by rw [upd_ne π r' hkl]; exact h3⟩
  | vptr k i =>
    simp only [forgetAC]
    split
    · trivial
    · rename_i hkl
      obtain ⟨r, tid, vs, h1, h2, h3⟩ := h
      exact ⟨r, tid, vs.map (forgetAC l), by rw [hH k hkl, h1]; rfl, by rw [upd_ne π r' hkl]; exact h2, h3⟩
  | eptr k i =>
    simp only [forgetAC]
    split
    · trivial
    · rename_i hkl
      obtain ⟨r, fr, e, tid, xs, h1, h2, h3, h4⟩ := h
      exact ⟨r, fr, e, tid, xs, by rw [hH k hkl, h1]; rfl, h2, by rw [upd_ne π r' hkl]; exact h3, h4⟩
  | _ => exact h

theorem St.new_heap_ne (st : St) (l m : Nat) (b : OB) (h : m ≠ l) : hget (st.new l b).heap m = (hget st.heap m).map (OB.map (forgetAC l)) := by
  simp only [St.new, St.forget, St.mapAC]
  rw [hget_ins_ne _ _ _ _ h, hget_drop_ne _ _ _ h, hget_map]
theorem St.new_heap_same (st : St) (l : Nat) (b : OB) : hget (st.new l b).heap l = some b := by
  simp only [St.new, St.forget, St.mapAC]
  exact hget_ins_same _ _ _ (hget_drop_same _ _)
theorem St.forget_heap_ne (st : St) (l m : Nat) (h : m ≠ l) : hget (st.forget l).heap m = (hget st.heap m).map (OB.map (forgetAC l)) := by
  simp only [St.forget, St.mapAC]
  rw [hget_drop_ne _ _ _ h, hget_map]
theorem St.forget_heap_same (st : St) (l : Nat) : hget (st.forget l).heap l = none := by
  simp only [St.forget, St.mapAC]
  exact hget_drop_same _ _

/-- **A block comes in the place of what was known of l** (a new one, or the same one grown). -/
theorem RelAt.replace {st : St} {a : Act} (h : RelAt X π st a w) (l : Nat) (r' : Option Real) (b : OB)
    (hg : w.grownBy w' ((π l).map (·.g)))
    (hr : ∀ r, r' = some r → (∃ r0, π l = some r0 ∧ r0.g = r.g) ∨ w.heap.size ≤ r.g)
    (hb : Move X w w' π (upd π l r') st.heap (st.new l b).heap (forgetAC l) → BlockAt X w' (upd π l r') (st.new l b).heap r' b) : RelAt X (upd π l r') (st.new l b) a w' := by
  have hk : ∀ k, k < w.heap.size → (∀ r, π l = some r → r.g ≠ k) → w'.heap[k]? = w.heap[k]? := fun k hk hn => hg.block k hk (by
    intro e
    cases hp : π l with
    | none => rw [hp] at e; cases e
    | some r => rw [hp] at e; simp only [Option.map_some, Option.some.injEq] at e; exact hn r hp e.symm)
  have m : Move X w w' π (upd π l r') st.heap (st.new l b).heap (forgetAC l) := Move.forget hg.size hk hr (fun m hm => St.new_heap_ne st l m b hm)
  refine ⟨⟨?_, h.1.sc, ?_, fun k => ?_⟩, ?_⟩
  · refine h.1.below.grown hg h.1.below.size fun k hk => ?_
    cases hp : π l with
    | none => rw [hp] at hk; cases hk
    | some r => rw [hp] at hk; simp only [Option.map_some, Option.some.injEq] at hk; rw [← hk]; exact (h.1.lt hp).2
  · intro l1 l2 r1 r2 h1 h2 he
    by_cases e1 : l1 = l <;> by_cases e2 : l2 = l
    · rw [e1, e2]
    · subst e1
      rw [upd_same] at h1; rw [upd_ne π r' e2] at h2
      rcases hr r1 h1 with ⟨r0, h0, h3⟩ | h3
      · exact h.1.inj _ _ r0 r2 h0 h2 (h3.trans he)
      · have := (h.1.lt h2).1; omega
    · subst e2
      rw [upd_same] at h2; rw [upd_ne π r' e1] at h1
      rcases hr r2 h2 with ⟨r0, h0, h3⟩ | h3
      · exact h.1.inj _ _ r1 r0 h1 h0 (he.trans h3.symm)
      · have := (h.1.lt h1).1; omega
    · rw [upd_ne π r' e1] at h1; rw [upd_ne π r' e2] at h2
      exact h.1.inj _ _ r1 r2 h1 h2 he
  · by_cases e : k = l
    · subst e
      exact HeapAt.of_block (by rw [upd_same]; exact hb m) (St.new_heap_same st k b)
    · have hn := St.new_heap_ne st l k b e
      have ho := h.1.heap k
      cases hgk : hget st.heap k with
      | none => rw [hgk] at hn; exact HeapAt.of_none (by rw [upd_ne π r' e]; exact ho.emp hgk) hn
      | some c =>
        rw [hgk] at hn
        refine HeapAt.of_block ?_ hn
        rw [upd_ne π r' e]
        exact (ho.blk hgk).move m fun r0 h0 => hk _ (h.1.lt h0).1 fun r1 h1 he => e (h.1.inj _ _ r0 r1 h0 h1 he.symm)
  · have hh : RelT X w' (upd π l r') { tmps := st.tmps.map (·.map (forgetAC l)), heap := (st.new l b).heap } a := m.relT rfl h.2
    exact hh

/-- Nothing more is known of l. -/
theorem RelAt.forget {st : St} {a : Act} (h : RelAt X π st a w) (l : Nat) : RelAt X (upd π l none) (st.forget l) a w := by
  have m : Move X w w π (upd π l none) st.heap (st.forget l).heap (forgetAC l) :=
    Move.forget (Nat.le_refl _) (fun _ _ _ => rfl) (fun r hr => by cases hr) (fun m hm => St.forget_heap_ne st l m hm)
  refine ⟨⟨h.1.below, h.1.sc, ?_, fun k => ?_⟩, ?_⟩
  · intro l1 l2 r1 r2 h1 h2 he
    by_cases e1 : l1 = l
    · subst e1; rw [upd_same] at h1; cases h1
    · by_cases e2 : l2 = l
      · subst e2; rw [upd_same] at h2; cases h2
      · rw [upd_ne π none e1] at h1; rw [upd_ne π none e2] at h2
        exact h.1.inj _ _ r1 r2 h1 h2 he
  · by_cases e : k = l
    · subst e
      exact HeapAt.of_none (by rw [upd_same]) (St.forget_heap_same st k)
    · have hn := St.forget_heap_ne st l k e
      have ho := h.1.heap k
      cases hgk : hget st.heap k with
      | none => rw [hgk] at hn; exact HeapAt.of_none (by rw [upd_ne π none e]; exact ho.emp hgk) hn
      | some c =>
        rw [hgk] at hn
        refine HeapAt.of_block ?_ hn
        rw [upd_ne π none e]
        exact (ho.blk hgk).move m fun r0 h0 => rfl
  · have hh : RelT X w (upd π l none) { tmps := st.tmps.map (·.map (forgetAC l)), heap := (st.forget l).heap } a := m.relT rfl h.2
    exact hh

theorem cellOf {w : World} {g : Nat} {cur : Array Value} {tid : TypeId} (h : w.heap[g]? = some (.cells cur tid (0, 0))) (i : Nat) : w.cell? ⟨g, i, none⟩ = cur[i]? := by
  simp [World.cell?, h]

/-- What a slice of the call's own reads as. -/
theorem own_cells {l off len : Nat} {v : Value} {fr : Bool} {e : Ty} {tid : TypeId} {xs : List e.den} {S : Nat → Prop} (h : RelH X w π H) (hl : hget H l = some (.arr fr e tid xs))
    (hlen : off + len ≤ xs.length) (hv : OwnVal (π l) e.size off len v)
    (hS : ∀ k, S k → (∃ r, π l = some r ∧ r.g = k) → False) (hA : ∀ k, k < w.heap.size → S k → Avoid X.w0.heap.size X.Sc π fr k) : Cells w S (.slice e) [v] ((xs.drop off).take len) := by
  have hb := (h.heap l).blk hl
  simp only [BlockAt, ArrAt] at hb
  have hll : ((xs.drop off).take len).length = len := by simp; omega
  cases hp : π l with
  | none =>
    rw [hp] at hb hv
    obtain ⟨rfl, rfl, rfl⟩ := hv
    exact ⟨none, 0, 0, rfl, by simp, Nat.le_refl _, .inl (by simp)⟩
  | some r =>
    rw [hp] at hb hv
    obtain ⟨ad, rfl, hc, ha⟩ := hv
    obtain ⟨h1, cur, h2, h3, h4, h5, h6⟩ := hb
    refine ⟨some ad, len, r.cap - off, rfl, hll.symm, by omega, ?_⟩
    rcases Nat.eq_zero_or_pos len with h0 | h0
    · left; subst h0; simp
    · right
      refine ⟨r.g, (r.o + off) * e.size, by rw [ha (by omega)], lt_of_heap h2, fun hs => hS _ hs ⟨r, hp, rfl⟩, fun i x hx => ?_⟩
      have hi : i < len := by
        have := (List.getElem?_eq_some_iff.1 hx).1
        rw [hll] at this; exact this
      have hx' : xs[off + i]? = some x := by
        rw [List.getElem?_take, if_pos hi, List.getElem?_drop] at hx; exact hx
      obtain ⟨es, he, hj, hcs⟩ := h6 (off + i) x hx'
      refine ⟨es, he, fun j u hu => ?_, Cells.keep (Nat.le_refl _) (fun _ _ _ => rfl) hA e es x hcs⟩
      rw [cellOf h2]
      have := hj j u hu
      rw [← this]
      congr 1
      rw [← Nat.add_assoc, Nat.add_mul (r.o + off) i]

theorem St.freeze_heap_ne (st : St) (l m : Nat) (fr : Bool) (e : Ty) (xs : List e.den) (h : m ≠ l) : hget (st.freeze l fr e xs).heap m = (hget st.heap m).map (OB.map (freezeAC l fr e xs)) := by
  simp only [St.freeze, St.mapAC]
  rw [hget_drop_ne _ _ _ h, hget_map]
theorem St.freeze_heap_same (st : St) (l : Nat) (fr : Bool) (e : Ty) (xs : List e.den) : hget (st.freeze l fr e xs).heap l = none := by
  simp only [St.freeze, St.mapAC]
  exact hget_drop_same _ _

theorem Move.freeze {l : Nat} {fr : Bool} {e : Ty} {tid : TypeId} {xs : List e.den} (h : RelH X w π H) (hl : hget H l = some (.arr fr e tid xs))
    (hH : ∀ m, m ≠ l → hget H' m = (hget H m).map (OB.map (freezeAC l fr e xs))) : Move X w w π (upd π l none) H H' (freezeAC l fr e xs) := by
  have hAk : ∀ fr' k, Avoid X.w0.heap.size X.Sc (upd π l none) fr' k → Avoid X.w0.heap.size X.Sc π fr' k := by
    intro fr' k hA
    rcases hA with ⟨m, r, hm, hg⟩ | h2
    · by_cases hml : m = l
      · subst hml; rw [upd_same] at hm; cases hm
      · rw [upd_ne π none hml] at hm
        exact .inl ⟨m, r, hm, hg⟩
    · exact .inr h2
  have hc : ∀ fr' τ cs x, Cells w (Avoid X.w0.heap.size X.Sc π fr') τ cs x → Cells w (Avoid X.w0.heap.size X.Sc (upd π l none) fr') τ cs x :=
    fun fr' τ cs x hh => Cells.keep (Nat.le_refl _) (fun _ _ _ => rfl) (fun k _ hA => hAk fr' k hA) τ cs x hh
  refine ⟨fun c v hcv => ?_, hc⟩
  cases c with
  | data fr' τ x => obtain ⟨cs, h1, h2⟩ := hcv; exact ⟨cs, hc _ _ _ _ h1, h2⟩
  | own k off len =>
    simp only [freezeAC]
    split
    · rename_i hkl
      subst hkl
      obtain ⟨fr', e', tid', xs', h1, h2, h3⟩ := hcv
      rw [hl] at h1
      cases h1
      refine ⟨[v], own_cells h hl h2 h3 (fun q hS ⟨r, hr, hrq⟩ => ?_) (fun q _ hS => hAk _ _ hS), by simp [mkVal, Ty.isStruct]⟩
      rcases hS with ⟨m, r', hm, hg⟩ | hS | hS
      · by_cases hml : m = k
        · subst hml; rw [upd_same] at hm; cases hm
        · rw [upd_ne π none hml] at hm
          exact hml (h.inj _ _ _ _ hm hr (hg.trans hrq.symm))
      · have := h.sc q hS; have := (h.lt hr).2; omega
      · have := (h.lt hr).2; omega
    · rename_i hkl
      obtain ⟨fr', e', tid', xs', h1, h2, h3⟩ := hcv
      exact ⟨fr', e', tid', xs', by rw [hH k hkl, h1]; rfl, h2, by rw [upd_ne π none hkl]; exact h3⟩
  | vptr k i =>
    simp only [freezeAC]
    split
    · trivial
    · rename_i hkl
      obtain ⟨r, tid', vs, h1, h2, h3⟩ := hcv
      exact ⟨r, tid', vs.map (freezeAC l fr e xs), by rw [hH k hkl, h1]; rfl, by rw [upd_ne π none hkl]; exact h2, h3⟩
  | eptr k i =>
    simp only [freezeAC]
    split
    · trivial
    · rename_i hkl
      obtain ⟨r, fr', e', tid', xs', h1, h2, h3, h4⟩ := hcv
      exact ⟨r, fr', e', tid', xs', by rw [hH k hkl, h1]; rfl, h2, by rw [upd_ne π none hkl]; exact h3, h4⟩
  | _ => exact hcv

/-- A row of the call's own is written no more. -/
theorem RelAt.freeze {st : St} {a : Act} (h : RelAt X π st a w) {l : Nat} {fr : Bool} {e : Ty} {tid : TypeId} {xs : List e.den} (hl : hget st.heap l = some (.arr fr e tid xs)) :
    RelAt X (upd π l none) (st.freeze l fr e xs) a w ∧ Move X w w π (upd π l none) st.heap (st.freeze l fr e xs).heap (freezeAC l fr e xs) := by
  have m : Move X w w π (upd π l none) st.heap (st.freeze l fr e xs).heap (freezeAC l fr e xs) := Move.freeze h.1 hl (fun m hm => St.freeze_heap_ne st l m fr e xs hm)
  refine ⟨⟨⟨h.1.below, h.1.sc, ?_, fun k => ?_⟩, ?_⟩, m⟩
  · intro l1 l2 r1 r2 h1 h2 he
    by_cases e1 : l1 = l
    · subst e1; rw [upd_same] at h1; cases h1
    · by_cases e2 : l2 = l
      · subst e2; rw [upd_same] at h2; cases h2
      · rw [upd_ne π none e1] at h1; rw [upd_ne π none e2] at h2
        exact h.1.inj _ _ r1 r2 h1 h2 he
  · by_cases ek : k = l
    · subst ek
      exact HeapAt.of_none (by rw [upd_same]) (St.freeze_heap_same st k fr e xs)
    · have hn := St.freeze_heap_ne st l k fr e xs ek
      have ho := h.1.heap k
      cases hgk : hget st.heap k with
      | none => rw [hgk] at hn; exact HeapAt.of_none (by rw [upd_ne π none ek]; exact ho.emp hgk) hn
      | some c =>
        rw [hgk] at hn
        refine HeapAt.of_block ?_ hn
        rw [upd_ne π none ek]
        exact (ho.blk hgk).move m fun r0 h0 => rfl
  · have hh : RelT X w (upd π l none) { tmps := st.tmps.map (·.map (freezeAC l fr e xs)), heap := (st.freeze l fr e xs).heap } a := m.relT rfl h.2
    exact hh

/-- The new content leaves every reference good. -/
def OB.fits : OB → OB → Prop
  | .arr _ e _ xs, .arr _ e' _ xs' => e = e' ∧ xs.length ≤ xs'.length
  | .var _ _, .var _ _ => True
  | _, _ => False

theorem Move.set {l : Nat} {b0 b : OB} (hl : hget H l = some b0) (hf : b0.fits b) (hs : w.heap.size ≤ w'.heap.size)
    (hk : ∀ k, k < w.heap.size → (∀ r, π l = some r → r.g ≠ k) → w'.heap[k]? = w.heap[k]?)
    (hH : ∀ m, m ≠ l → hget H' m = hget H m) (hH' : hget H' l = some b) : Move X w w' π π H H' (fun c => c) := by
  have hc : ∀ fr τ cs x, Cells w (Avoid X.w0.heap.size X.Sc π fr) τ cs x → Cells w' (Avoid X.w0.heap.size X.Sc π fr) τ cs x := by
    intro fr τ cs x h
    exact Cells.keep hs (fun k hk' hn => hk k hk' fun r h0 h1 => hn (.inl ⟨l, r, h0, h1⟩)) (fun k _ hA => hA) τ cs x h
  refine ⟨fun c v h => ?_, hc⟩
  cases c with
  | data fr τ x => obtain ⟨cs, h1, h2⟩ := h; exact ⟨cs, hc _ _ _ _ h1, h2⟩
  | own k off len =>
    obtain ⟨fr, e, tid, xs, h1, h2, h3⟩ := h
    by_cases hkl : k = l
    · subst hkl
      rw [hl] at h1; cases h1
      cases b with
      | var t v => exact hf.elim
      | arr fr' e' tid' xs' =>
        obtain ⟨rfl, hlen⟩ := hf
        exact ⟨fr', _, tid', xs', hH', by omega, h3⟩
    · exact ⟨fr, e, tid, xs, by rw [hH k hkl]; exact h1, h2, h3⟩
  | vptr k i =>
    obtain ⟨r, tid, vs, h1, h2, h3⟩ := h
    by_cases hkl : k = l
    · subst hkl
      rw [hl] at h1; cases h1
      cases b with
      | var t v => exact ⟨r, t, v, hH', h2, h3⟩
      | arr fr' e' tid' xs' => exact hf.elim
    · exact ⟨r, tid, vs, by rw [hH k hkl]; exact h1, h2, h3⟩
  | eptr k i =>
    obtain ⟨r, fr, e, tid, xs, h1, h2, h3, h4⟩ := h
    by_cases hkl : k = l
    · subst hkl
      rw [hl] at h1; cases h1
      cases b with
      | var t v => exact hf.elim
      | arr fr' e' tid' xs' =>
        obtain ⟨rfl, hlen⟩ := hf
        exact ⟨r, fr', _, tid', xs', hH', by omega, h3, h4⟩
    · exact ⟨r, fr, e, tid, xs, by rw [hH k hkl]; exact h1, h2, h3, h4⟩
  | _ => exact h

/-- A block of the call's own is written in its place. -/
theorem RelAt.set {st : St} {a : Act} (h : RelAt X π st a w) {l : Nat} {b0 b : OB} (hl : hget st.heap l = some b0) (hf : b0.fits b)
    (hg : w.grownBy w' ((π l).map (·.g)))
    (hb : Move X w w' π π st.heap (st.setB l b).heap (fun c => c) → BlockAt X w' π (st.setB l b).heap (π l) b) : RelAt X π (st.setB l b) a w' := by
  have hk : ∀ k, k < w.heap.size → (∀ r, π l = some r → r.g ≠ k) → w'.heap[k]? = w.heap[k]? := fun k hk hn => hg.block k hk (by
    intro e
    cases hp : π l with
    | none => rw [hp] at e; cases e
    | some r => rw [hp] at e; simp only [Option.map_some, Option.some.injEq] at e; exact hn r hp e.symm)
  have m : Move X w w' π π st.heap (st.setB l b).heap (fun c => c) := Move.set hl hf hg.size hk (fun m hm => hget_set_ne _ _ _ _ hm) (hget_set_same _ _ _ _ hl)
  refine ⟨⟨?_, h.1.sc, h.1.inj, fun k => ?_⟩, ?_⟩
  · refine h.1.below.grown hg h.1.below.size fun k hk => ?_
    cases hp : π l with
    | none => rw [hp] at hk; cases hk
    | some r => rw [hp] at hk; simp only [Option.map_some, Option.some.injEq] at hk; rw [← hk]; exact (h.1.lt hp).2
  · by_cases e : k = l
    · subst e
      exact HeapAt.of_block (hb m) (hget_set_same _ _ _ _ hl)
    · have hn : hget (st.setB l b).heap k = hget st.heap k := hget_set_ne _ _ _ _ e
      have ho := h.1.heap k
      cases hgk : hget st.heap k with
      | none => rw [hgk] at hn; exact HeapAt.of_none (ho.emp hgk) hn
      | some c =>
        rw [hgk] at hn
        refine HeapAt.of_block ?_ hn
        have := (ho.blk hgk).move m fun r0 h0 => hk _ (h.1.lt h0).1 fun r1 h1 he => e (h.1.inj _ _ r0 r1 h0 h1 he.symm)
        cases c with
        | arr fr e tid xs => exact this
        | var tid vs => simpa [OB.map] using this
  · exact ⟨h.2.size, h.2.defers, fun t => by have := m.av (h.2.tmps t); rwa [AC.map_id] at this⟩
end
end Go.Proofs.Ytingphpncocimaa
