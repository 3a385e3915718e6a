/-
  AX, part 11: rows of the call's own: settled, stored into, appended to, made.
-/
import Derived.Test.YtingphpncocimaaAx10
namespace Go.Proofs.Ytingphpncocimaa
open Go.RowKit

section
variable {P : Program} {T : Tab} {X : Ctx} {w w' : World} {π : Pi} {H : List (Nat × OB)}

theorem OB.map_map (f g : AC → AC) (b : OB) : OB.map g (OB.map f b) = OB.map (fun c => g (f c)) b := by
  cases b with
  | arr fr e t xs => rfl
  | var t vs => simp [OB.map, Function.comp_def]
theorem OB.map_self (b : OB) : OB.map (fun c => c) b = b := by
  cases b with
  | arr fr e t xs => rfl
  | var t vs => simp [OB.map]

/-- The blocks that are left stand where they stood. -/
def Keeps (π π' : Pi) (H H' : List (Nat × OB)) : Prop := ∀ l b', hget H' l = some b' → π' l = π l ∧ ∃ b f, hget H l = some b ∧ b' = OB.map f b
theorem Keeps.refl (π : Pi) (H : List (Nat × OB)) : Keeps π π H H := fun l b h => ⟨rfl, b, fun c => c, h, (OB.map_self b).symm⟩
theorem Keeps.trans {π1 π2 π3 : Pi} {H1 H2 H3 : List (Nat × OB)} (h : Keeps π1 π2 H1 H2) (h' : Keeps π2 π3 H2 H3) : Keeps π1 π3 H1 H3 := fun l b hb => by
  obtain ⟨e1, b1, f1, h1, rfl⟩ := h' l b hb
  obtain ⟨e2, b2, f2, h2, rfl⟩ := h l b1 h1
  exact ⟨e1.trans e2, b2, _, h2, OB.map_map f2 f1 b2⟩
theorem Keeps.freeze (st : St) (l : Nat) (fr : Bool) (e : Ty) (xs : List e.den) : Keeps π (upd π l none) st.heap (st.freeze l fr e xs).heap := fun k b hb => by
  by_cases hk : k = l
  · subst hk; rw [St.freeze_heap_same] at hb; cases hb
  · rw [St.freeze_heap_ne st l k fr e xs hk] at hb
    cases h0 : hget st.heap k with
    | none => rw [h0] at hb; cases hb
    | some b0 =>
      rw [h0] at hb
      simp only [Option.map_some, Option.some.injEq] at hb
      exact ⟨upd_ne π none hk, b0, _, rfl, hb.symm⟩

theorem settleCells_rel {a : Act} : ∀ (n : Nat) (st : St) (π : Pi) (cs : List AC) (us : List Value) (cs' : List AC) (st' : St), RelAt X π st a w → RepACs X w π st.heap cs us →
    settleCells n st cs = some (cs', st') → ∃ π', RelAt X π' st' a w ∧ RepACs X w π' st'.heap cs' us ∧ cs'.all (·.settled) = true ∧ Keeps π π' st.heap st'.heap
  | 0, st, π, cs, us, cs', st', h, hr, he => by
    simp only [settleCells] at he
    split at he
    · rename_i hs
      simp only [Option.some.injEq, Prod.mk.injEq] at he
      obtain ⟨rfl, rfl⟩ := he
      exact ⟨π, h, hr, hs, Keeps.refl _ _⟩
    · cases he
  | n + 1, st, π, cs, us, cs', st', h, hr, he => by
    simp only [settleCells] at he
    split at he
    · rename_i hf
      simp only [Option.some.injEq, Prod.mk.injEq] at he
      obtain ⟨rfl, rfl⟩ := he
      refine ⟨π, h, hr, List.all_eq_true.2 fun c hc => ?_, Keeps.refl _ _⟩
      have := List.find?_eq_none.1 hf c hc
      simpa using this
    · rename_i l off len hf
      split at he
      · rename_i fr e tid xs hl
        obtain ⟨h1, m⟩ := h.freeze hl
        obtain ⟨π', h2, h3, h4, h5⟩ := settleCells_rel n _ _ _ us cs' st' h1 (m.acs hr) he
        exact ⟨π', h2, h3, h4, (Keeps.freeze st l fr e xs).trans h5⟩
      · cases he
    · cases he

theorem settle_rel {st : St} {a : Act} (h : RelAt X π st a w) {c : AV} {v : Value} (hc : RepAV X w π st.heap c v) {c' : AV} {st' : St} (he : settle st c = some (c', st')) :
    ∃ π', RelAt X π' st' a w ∧ RepAV X w π' st'.heap c' v ∧ c'.settled = true ∧ Keeps π π' st.heap st'.heap := by
  have plain : ∀ a0 : AC, a0.settled = true → RepAC X w π st.heap a0 v → ∃ π', RelAt X π' st a w ∧ RepAV X w π' st.heap (.at a0) v ∧ (AV.at a0).settled = true ∧ Keeps π π' st.heap st.heap :=
    fun a0 hs hr => ⟨π, h, hr, hs, Keeps.refl _ _⟩
  unfold settle at he
  split at he
  · rename_i l off len
    split at he
    · rename_i fr e tid xs hl
      simp only [Option.some.injEq, Prod.mk.injEq] at he
      obtain ⟨rfl, rfl⟩ := he
      obtain ⟨h1, m⟩ := h.freeze hl
      refine ⟨_, h1, ?_, rfl, Keeps.freeze st l fr e xs⟩
      have := m.ac (.own l off len) v hc
      simp only [freezeAC, if_true] at this
      exact this
    · cases he
  · rename_i a0 _
    split at he
    · rename_i hs
      simp only [Option.some.injEq, Prod.mk.injEq] at he
      obtain ⟨rfl, rfl⟩ := he
      exact plain a0 hs hc
    · cases he
  · rename_i cs
    cases hsc : settleCells cs.length st cs with
    | none => rw [hsc] at he; cases he
    | some p =>
      rw [hsc] at he
      simp only [Option.map_some, Option.some.injEq, Prod.mk.injEq] at he
      obtain ⟨rfl, rfl⟩ := he
      obtain ⟨us, rfl, hr⟩ := hc
      obtain ⟨π', h2, h3, h4, h5⟩ := settleCells_rel cs.length st π cs us p.1 p.2 h hr hsc
      exact ⟨π', h2, ⟨us, rfl, h3⟩, h4, h5⟩
  · simp only [Option.some.injEq, Prod.mk.injEq] at he
    obtain ⟨rfl, rfl⟩ := he
    exact ⟨π, h, hc, rfl, Keeps.refl _ _⟩

theorem block_apart {o i j s p : Nat} (hne : i ≠ j) (hp : p < s) : (o + i) * s + p < (o + j) * s ∨ (o + j) * s + s ≤ (o + i) * s + p := by
  rcases Nat.lt_or_gt_of_ne hne with h | h
  · left
    have : (o + i + 1) * s ≤ (o + j) * s := Nat.mul_le_mul_right _ (by omega)
    rw [Nat.add_mul, Nat.one_mul] at this
    omega
  · right
    have : (o + j + 1) * s ≤ (o + i) * s := Nat.mul_le_mul_right _ (by omega)
    rw [Nat.add_mul, Nat.one_mul] at this
    omega

theorem splice_get {α : Type} (l ys : List α) (i k : Nat) (h : i + ys.length ≤ l.length) : (splice l i ys)[k]? = if k < i then l[k]? else if k < i + ys.length then ys[k - i]? else l[k]? := by
  unfold splice
  have t1 : (l.take i).length = i := by simp; omega
  split
  · rename_i hk
    rw [List.append_assoc, List.getElem?_append_left (by omega), List.getElem?_take, if_pos hk]
  · split
    · rename_i hk
      rw [List.append_assoc, List.getElem?_append_right (by omega), t1, List.getElem?_append_left (by omega)]
    · rw [List.getElem?_append_right (by simp; omega), List.getElem?_drop]
      congr 1
      simp; omega
theorem splice_length {α : Type} (l ys : List α) (i : Nat) (h : i + ys.length ≤ l.length) : (splice l i ys).length = l.length := by
  unfold splice; simp; omega

theorem storeE_sound (hT : TabOK P T) {st : St} {a : Act} (h : RelAt X π st a w) {t : TypeId} {e : Ty} (ht : T.ty t = some e) {l j : Nat} {r : Real} {vx : Value} {tid : TypeId} {fr fr' : Bool} {xs : List e.den} {x : e.den}
    (hp : π l = some r) (hl : hget st.heap l = some (.arr fr e tid xs)) (hj : j < xs.length) (hx : RepVal w (Avoid X.w0.heap.size X.Sc π fr') e vx x) :
    ∃ w', (Instr.storeAt t (.pointer (some ⟨r.g, (r.o + j) * e.size, none⟩)) vx).run P w = .ok () w' ∧ RelAt X π (st.setB l (.arr (fr && fr') e tid (xs.set j x))) a w' := by
  have hb := (h.1.heap l).blk hl
  simp only [BlockAt, ArrAt, hp] at hb
  obtain ⟨h1, cur, h2, h3, h4, h5, h6⟩ := hb
  obtain ⟨es, hes, hv⟩ := hx
  have hel := Cells.len e es x hes
  have hfit : (r.o + j) * e.size + es.length ≤ cur.size := by
    have : (r.o + j + 1) * e.size ≤ (r.o + r.cap) * e.size := Nat.mul_le_mul_right _ (by omega)
    rw [Nat.add_mul (r.o + j) 1, Nat.one_mul] at this
    omega
  have hfit' : (r.o + j) * e.size + es.length ≤ cur.toList.length := by simpa using hfit
  have hrun := run_storeVar (P := P) (w := w) (hT.ty _ _ ht) r.g ((r.o + j) * e.size) vx es (by rw [hv]; exact mkVal_cells e es x hes) hel (Cells.plain e es x hes) cur tid h2 hfit
  refine ⟨_, by simp only [Instr.storeAt, Instr.sureAddr]; simpa using hrun, ?_⟩
  refine h.set hl (b := .arr (fr && fr') e tid (xs.set j x)) ⟨rfl, by simp⟩ (by rw [hp]; exact grown_setRow w r.g _) fun m => ?_
  simp only [BlockAt, ArrAt, hp]
  refine ⟨h1, _, setRow_heap w r.g cur _ tid _ h2, by rw [List.size_toArray, splice_length _ _ _ hfit']; simpa using h3, h4, by simpa using h5, fun i y hy => ?_⟩
  rw [List.getElem?_set] at hy
  split at hy
  · rename_i hji; subst hji
    simp only [Option.some.injEq] at hy; subst hy
    refine ⟨es, hel, fun k u hu => ?_, (m.cells fr' e es x hes).and_right⟩
    have hk : k < es.length := (List.getElem?_eq_some_iff.1 hu).1
    rw [List.getElem?_toArray, splice_get _ _ _ _ hfit', if_neg (by omega), if_pos (by omega)]
    rw [show (r.o + j) * e.size + k - (r.o + j) * e.size = k by omega]; exact hu
  · rename_i hji
    obtain ⟨es', he', hk', hc'⟩ := h6 i y hy
    refine ⟨es', he', fun k u hu => ?_, (m.cells fr e es' y hc').and_left⟩
    have hk : k < es'.length := (List.getElem?_eq_some_iff.1 hu).1
    have := hk' k u hu
    rw [List.getElem?_toArray, splice_get _ _ _ _ hfit']
    rcases block_apart (o := r.o) (i := i) (j := j) (s := e.size) (p := k) (Ne.symm hji) (by omega) with hlt | hge
    · rw [if_pos hlt]; simpa using this
    · rw [if_neg (by omega), if_neg (by omega)]; simpa using this

theorem evalStore_sound (hT : TabOK P T) {st : St} {a : Act} (h : RelAt X π st a w) (t : TypeId) (p x : AV) (vp vx : Value) (hp : RepAV X w π st.heap p vp) (hx : RepAV X w π st.heap x vx) (st' : St)
    (he : evalStore T st t p x = some st') : ∃ w' π', (Instr.storeAt t vp vx).run P w = .ok () w' ∧ RelAt X π' st' a w' := by
  unfold evalStore at he
  split at he
  · rename_i τ l i ht
    split at he
    · rename_i tid vs cs hl hc
      split at he
      · rename_i hle
        simp only [Option.some.injEq] at he; subst he
        obtain ⟨w', h1, h2⟩ := storeV_sound hT h ht hp hx hl hc hle
        exact ⟨w', π, h1, h2⟩
      · cases he
    · cases he
  · rename_i τ l j ht
    split at he
    · rename_i x' st1 hs
      obtain ⟨π1, h1, h2, h3, h4⟩ := settle_rel h hx hs
      split at he
      · rename_i fr e tid xs fr' y hl hv
        split at he
        · rename_i hte; subst hte
          split at he
          · rename_i hj
            simp only [Option.some.injEq] at he; subst he
            obtain ⟨r, fr0, e0, tid0, xs0, g1, g2, g3, rfl⟩ := hp
            obtain ⟨k1, b, f, k2, k3⟩ := h4 l _ hl
            rw [g1] at k2; cases k2
            simp only [OB.map, OB.arr.injEq] at k3
            obtain ⟨rfl, rfl, rfl, k3⟩ := k3
            obtain ⟨w', q1, q2⟩ := storeE_sound hT h1 ht (k1.trans g3) hl hj (viewAV_settled _ x' vx fr' y h3 h2 hv)
            exact ⟨w', π1, q1, q2⟩
          · cases he
        · cases he
      · cases he
    · cases he
  · cases he

/-- The elements of a slice, cell behind cell. -/
theorem slice_news {S : Nat → Prop} {e : Ty} {v : Value} {ys : List e.den} (h : Cells w S (.slice e) [v] ys) :
    ∃ ad c, v = .slice ad ys.length c ∧ (ys = [] ∨ ∃ g o, ad = some ⟨g, o, none⟩ ∧ ∃ news : List Value, news.length = ys.length * e.size ∧ (∀ j u, news[j]? = some u → w.cell? ⟨g, o + j, none⟩ = some u) ∧ (∀ u ∈ news, u.oneCell' = true) ∧
      ∀ (i : Nat) (y : e.den), ys[i]? = some y → ∃ es : List Value, es.length = e.size ∧ (∀ j u, es[j]? = some u → news[i * e.size + j]? = some u) ∧ Cells w S e es y) := by
  simp only [Cells] at h
  obtain ⟨ad, len, cap, hv, hl, hcap, hor⟩ := h
  simp only [List.cons.injEq, and_true] at hv
  subst hl
  refine ⟨ad, cap, hv, ?_⟩
  rcases hor with h0 | ⟨g, o, rfl, hg, hn, hall⟩
  · exact .inl h0
  · right
    refine ⟨g, o, rfl, (List.range (ys.length * e.size)).map fun j => (w.cell? ⟨g, o + j, none⟩).getD undef, by simp, ?_⟩
    have key : ∀ k, k < ys.length * e.size → ∃ u, w.cell? ⟨g, o + k, none⟩ = some u ∧ u.oneCell' = true := by
      intro k hk
      have hs : 0 < e.size := by
        rcases Nat.eq_zero_or_pos e.size with h | h
        · rw [h] at hk; simp at hk
        · exact h
      have hi : k / e.size < ys.length := (Nat.div_lt_iff_lt_mul hs).2 hk
      obtain ⟨es, hes, hc, hrec⟩ := hall (k / e.size) _ (List.getElem?_eq_getElem hi)
      have hm : k % e.size < es.length := by rw [hes]; exact Nat.mod_lt _ hs
      have := hc (k % e.size) _ (List.getElem?_eq_getElem hm)
      rw [Nat.add_assoc, show k / e.size * e.size + k % e.size = k by rw [Nat.mul_comm]; exact Nat.div_add_mod k e.size] at this
      exact ⟨_, this, Cells.plain e es _ hrec _ (List.getElem_mem hm)⟩
    refine ⟨fun j u hu => ?_, fun u hu => ?_, fun i y hy => ?_⟩
    · rw [List.getElem?_map] at hu
      have hj : j < ys.length * e.size := by
        by_cases hj : j < ys.length * e.size
        · exact hj
        · rw [List.getElem?_eq_none (by simpa using hj)] at hu; cases hu
      rw [List.getElem?_range hj] at hu
      obtain ⟨u', hu', _⟩ := key j hj
      simp only [Option.map_some, hu', Option.getD_some, Option.some.injEq] at hu
      rw [hu', hu]
    · obtain ⟨j, hj, rfl⟩ := List.mem_map.1 hu
      obtain ⟨u', hu', h1⟩ := key j (List.mem_range.1 hj)
      rw [hu']; exact h1
    · obtain ⟨es, hes, hc, hrec⟩ := hall i y hy
      refine ⟨es, hes, fun j u hu => ?_, hrec⟩
      have hi := (List.getElem?_eq_some_iff.1 hy).1
      have hj := (List.getElem?_eq_some_iff.1 hu).1
      have hlt : i * e.size + j < ys.length * e.size := by
        have : (i + 1) * e.size ≤ ys.length * e.size := Nat.mul_le_mul_right _ (by omega)
        rw [Nat.add_mul, Nat.one_mul] at this
        omega
      rw [List.getElem?_map, List.getElem?_range hlt]
      have := hc j u hu
      rw [Nat.add_assoc] at this
      simp [this]
end
end Go.Proofs.Ytingphpncocimaa
