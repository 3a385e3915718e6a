/-
  Part 22 of the proof that the statement FnExactIsTableSet holds.
-/
import Derived.Test.YtfghmbpogmcboaaCIsTableSet20
namespace Go.Proofs.Ytfghmbpogmcboaa
open Go.RowKit

section
variable {P : Program} {T : Tab} {Γ : Env} {X : Ctx} {w w' : World} {π : Pi} {H : List (Nat × OB)}

theorem inOB_lab : ∀ (cs : List (Bool × CK)) (k : Nat) (x : Ins.den cs) (l : Nat), hget (inOB k cs x) l ≠ none → ∃ b j, k ≤ j ∧ j < k + cs.length ∧ l = rowL b j
  | [], _, _, _, h => absurd rfl h
  | p :: r, k, x, l, h => by
    simp only [inOB] at h
    by_cases e : l = rowL p.1 k
    · exact ⟨p.1, k, Nat.le_refl _, by simp, e⟩
    · have : hget (inOB (k + 1) r x.2) l ≠ none := by
        cases hc : ckOB p.2 x.1 with
        | none => rw [hc] at h; exact h
        | some b => rw [hc] at h; simpa only [consO, hget, if_neg (Ne.symm e)] using h
      obtain ⟨b, j, h1, h2, h3⟩ := inOB_lab r (k + 1) x.2 l this
      exact ⟨b, j, by omega, by simp; omega, h3⟩
theorem inOB_tail {p : Bool × CK} {r : List (Bool × CK)} {k : Nat} {x : Ins.den (p :: r)} (hk : k + (r.length + 1) < 100000) {l : Nat} {b : OB} (h : hget (inOB (k + 1) r x.2) l = some b) : hget (inOB k (p :: r) x) l = some b := by
  obtain ⟨b', j, h1, h2, rfl⟩ := inOB_lab r (k + 1) x.2 l (by rw [h]; simp)
  simp only [inOB]
  cases ckOB p.2 x.1 with
  | none => exact h
  | some c => simp only [consO, hget]; rw [if_neg (rowL_ne (by omega) (by omega) (by omega))]; exact h

/-- A handed row at the start. -/
theorem ck_block {D : Nat → Prop} (hD : ∀ b, Avoid X.w0.heap.size X.Sc π false b → D b) {r : Option Real} {u : Value} {c : CK} {x : c.den} (h : CKAt w D r u c x) {b : OB} (hb : ckOB c x = some b) : BlockAt X w π H (r.map full) b := by
  have hcell : ∀ {e : Ty} {es : List Value} {y : e.den}, Cells w D e es y → Cells w (Avoid X.w0.heap.size X.Sc π false) e es y := fun {e es y} h => Cells.keep (Nat.le_refl _) (fun _ _ _ => rfl) (fun b _ hb => hD b hb) e es y h
  cases c with
  | dat τ => cases hb
  | row e te =>
    simp only [ckOB, Option.some.injEq] at hb; subst hb
    obtain ⟨_, h⟩ := h
    simp only [RowAt] at h
    simp only [BlockAt, ArrAt]
    cases r with
    | none => exact h
    | some q =>
      obtain ⟨k1, cu, ti, k2, k3, k4, k5, k6⟩ := h
      exact ⟨⟨k1.1, k1.2, fun h => by cases h⟩, cu, ti, k2, k3, k4, k5, fun i y hy => by
        obtain ⟨es, g1, g2, g3⟩ := k6 i y hy
        exact ⟨es, g1, g2, hcell g3⟩, fun h => by cases h⟩
  | xrow e te =>
    simp only [ckOB, Option.some.injEq] at hb; subst hb
    cases r <;> exact h.2
  | part e te =>
    simp only [ckOB, Option.some.injEq] at hb; subst hb
    obtain ⟨_, hf, h⟩ := h
    simp only [BlockAt, ArrAt]
    cases r with
    | none => exact h
    | some q =>
      obtain ⟨k1, cu, ti, k2, k3, k4, k5, k6⟩ := h
      exact ⟨⟨k1.1, k1.2, fun h => by cases h⟩, cu, ti, k2, k3, k4, k5, fun i y hy => by
        obtain ⟨es, g1, g2, g3⟩ := k6 i y hy
        exact ⟨es, g1, g2, hcell g3⟩, fun h => by cases h⟩
theorem inAt_block {D : Nat → Prop} (hD : ∀ b, Avoid X.w0.heap.size X.Sc π false b → D b) {π0 : Pi} : ∀ (cs : List (Bool × CK)) (k : Nat) (x : Ins.den cs) (us : List Value), InAt w D π0 k cs x us → ∀ l b, hget (inOB k cs x) l = some b → BlockAt X w π H ((π0 l).map full) b
  | [], _, _, _, _, _, _, h => by cases h
  | _ :: _, _, _, [], h, _, _, _ => h.elim
  | p :: r, k, x, u :: us, h, l, b, hb => by
    simp only [inOB] at hb
    cases hc : ckOB p.2 x.1 with
    | none => rw [hc] at hb; exact inAt_block hD r (k + 1) x.2 us h.2 l b hb
    | some c =>
      rw [hc] at hb
      simp only [consO, hget] at hb
      split at hb
      · rename_i e; subst e
        simp only [Option.some.injEq] at hb; subst hb
        exact ck_block hD h.1 hc
      · exact inAt_block hD r (k + 1) x.2 us h.2 l b hb
theorem inAt_rep {S : Nat → Prop} {π0 : Pi} {gv : Nat → Prop} {pin : Pi} (hown : ∀ l, π l = (π0 l).map full) : ∀ (cs : List (Bool × CK)) (k : Nat) (x : Ins.den cs) (us : List Value), k + cs.length < 100000 → InAt w (fun b => Own π0 b ∨ S b) π0 k cs x us → (∀ l b, hget (inOB k cs x) l = some b → hget H l = some b) →
    RepC ⟨w, S, gv, pin⟩ w π H (inAC k cs x) us
  | [], _, _, [], _, _, _ => trivial
  | [], _, _, _ :: _, _, h, _ => h.elim
  | _ :: _, _, _, [], _, h, _ => h.elim
  | p :: r, k, x, u :: us, hk, h, hH => by
    simp only [List.length_cons] at hk
    refine ⟨?_, inAt_rep hown r (k + 1) x.2 us (by omega) h.2 fun l b hb => hH l b (inOB_tail hk hb)⟩
    have h1 := h.1
    have hh : ∀ b, ckOB p.2 x.1 = some b → hget H (rowL p.1 k) = some b := fun b hb => hH _ b (by simp only [inOB]; rw [hb]; simp [consO, hget])
    have hpl := hown (rowL p.1 k)
    obtain ⟨io, c⟩ := p
    dsimp only at h1 hh hpl ⊢
    generalize x.1 = y at *
    cases c with
    | dat τ =>
      show RepVal w _ τ u y
      cases hf : τ.flat with
      | true => exact RepVal.flat hf h1.2
      | false =>
        refine h1.2.weak fun b _ hb => ?_
        rcases hb with ⟨l, q, h3, h4⟩ | hb | ⟨hb, _⟩
        · rw [hown l] at h3
          cases hp : π0 l with
          | none => rw [hp] at h3; cases h3
          | some q0 => rw [hp] at h3; simp only [Option.map_some, Option.some.injEq] at h3; subst h3; exact .inl ⟨l, q0, hp, h4⟩
        · exact .inr hb
        · cases hb
    | row e te => exact ⟨_, e.size, List.length y, hh _ rfl, rfl, by simp, by rw [hpl]; exact own_full h1.1⟩
    | xrow e te => exact ⟨_, e.size, List.length y, hh _ rfl, rfl, by simp, by rw [hpl]; exact own_full h1.1⟩
    | part e te => exact ⟨_, e.size, List.length y.1, hh _ rfl, rfl, h1.1.2, by rw [hpl]; exact own_full h1.1.1⟩

theorem own_shift {p : Real} {s off len : Nat} {u : Value} {f : Nat → Prop} (h : OwnVal (some p) s off len u) : OwnVal (some ⟨p.g, p.o + off, p.cap - off, f, f⟩) s 0 len u := by
  obtain ⟨ad, h1, h2, h3⟩ := h
  exact ⟨ad, h1, by dsimp only; omega, fun h0 => by dsimp only at h0; simpa using h3 (by omega)⟩
theorem part_get {α : Type} {xs : List α} {off len i : Nat} {x : α} (h : ((xs.drop off).take len)[i]? = some x) : xs[off + i]? = some x := by
  rw [List.getElem?_take] at h
  split at h
  · rw [List.getElem?_drop] at h; exact h
  · cases h
theorem TreeAt.part {P : Nat → Prop} {g o : Nat} {cur : Array Value} {e : Ty} {xs : List e.den} (off len : Nat) (h : TreeAt w P g o cur e xs) : TreeAt w P g (o + off) cur e ((xs.drop off).take len) := by
  obtain ⟨Fs, t1, t2, t3, t4⟩ := h
  refine ⟨(Fs.drop off).take len, by simp [t1], List.nodup_cons.2 ⟨fun hm => (List.nodup_cons.1 t2).1 (flatten_part off len _ hm), nodup_part off len (List.nodup_cons.1 t2).2⟩, fun b hb => t3 b (flatten_part off len b hb), fun i x F hx hF => ?_⟩
  obtain ⟨es, k1, k2, k3⟩ := t4 (off + i) x F (part_get hx) (part_get hF)
  exact ⟨es, k1, fun j u hu => by rw [Nat.add_assoc o off i]; exact k2 j u hu, k3⟩

theorem outC_rep {st : St} (h : RelH X w π st.heap) {c : CK} {a : AC} {u : Value} (hu : RepAC X w π st.heap a u) {x : c.den} {ls : List Nat} (he : outC st c a = some (x, ls)) :
    ∃ r, CKAt w (fun b => Own π b ∨ X.Sc b) r u c x ∧ ∀ q, r = some q → ∃ l p, ls = [l] ∧ π l = some p ∧ (∀ b, q.foot b → p.cl b) ∧ (c.isX = false → ∀ b, q.foot b → p.foot b) := by
  have hav : ∀ {f : Bool} (b : Nat), (Own π b ∨ X.Sc b) → Avoid X.w0.heap.size X.Sc π f b := fun b h => h.imp id .inl
  cases c with
  | dat τ =>
    simp only [outC] at he
    split at he
    · rename_i hf
      cases hv : viewAC st τ a with
      | none => rw [hv] at he; cases he
      | some p =>
        obtain ⟨fr, y⟩ := p
        rw [hv] at he
        simp only [Option.map_some, Option.some.injEq, Prod.mk.injEq] at he
        obtain ⟨rfl, rfl⟩ := he
        refine ⟨none, ⟨rfl, ?_⟩, fun q hq => by cases hq⟩
        have weak : ∀ f, RepVal w (Avoid X.w0.heap.size X.Sc π f) τ u y → RepVal w (fun b => Own π b ∨ X.Sc b) τ u y := fun f hr => hr.weak fun k _ hk => hav k hk
        cases a with
        | data f τ' z =>
          rw [viewAC_data] at hv
          split at hv
          · rename_i ht; subst ht
            simp only [Option.some.injEq, Prod.mk.injEq] at hv
            obtain ⟨_, rfl⟩ := hv
            exact weak f hu
          · have hst : τ.isStruct = false := by unfold convD at hv; split at hv <;> first | rfl | cases hv
            exact weak _ ⟨[u], convD_settled hv hu, by simp [mkVal, hst]⟩
        | nilv =>
          have hu : u = .slice none 0 0 := hu
          subst hu
          cases τ <;> simp only [viewAC, Option.some.injEq, Prod.mk.injEq, reduceCtorEq] at hv
          · obtain ⟨_, rfl⟩ := hv; exact ⟨[_], ⟨none, 0, 0, rfl, rfl, Nat.le_refl _, .inl rfl⟩, rfl⟩
          · obtain ⟨_, rfl⟩ := hv; exact ⟨[_], .inl ⟨rfl, 0, rfl⟩, rfl⟩
        | nilp =>
          have hu : u = .pointer none := hu
          subst hu
          cases τ <;> simp only [viewAC, Option.some.injEq, Prod.mk.injEq, reduceCtorEq] at hv
          obtain ⟨_, rfl⟩ := hv; exact ⟨[_], .inl ⟨rfl, rfl⟩, rfl⟩
        | _ => cases τ <;> simp [AC.settled, Ty.flat, viewAC] at hf hv
    · cases he
  | row e te =>
    cases a <;> simp only [outC] at he <;> try (cases he; done)
    · simp only [Option.some.injEq, Prod.mk.injEq] at he
      obtain ⟨rfl, rfl⟩ := he
      have hu : u = .slice none 0 0 := hu
      exact ⟨none, ⟨⟨hu, rfl, rfl⟩, rfl⟩, fun q hq => by cases hq⟩
    · rename_i l off len
      split at he
      · rename_i fr tr e' te' xs hl
        split at he
        · rename_i hc
          obtain ⟨rfl, rfl⟩ := hc
          simp only [Option.some.injEq, Prod.mk.injEq] at he
          obtain ⟨rfl, rfl⟩ := he
          unfold St.at at hl
          obtain ⟨h1, h2⟩ := rep_arr hu hl
          have hb := (h.heap l).blk hl
          simp only [BlockAt, ArrAt] at hb
          have hlen : ((xs.drop off).take len).length = len := by simp; omega
          cases hp : π l with
          | none =>
            rw [hp] at h2 hb
            obtain ⟨rfl, rfl, rfl⟩ := h2
            exact ⟨none, ⟨⟨rfl, rfl, by simp⟩, by show (xs.drop 0).take 0 = []; simp⟩, fun q hq => by cases hq⟩
          | some p =>
            rw [hp] at h2 hb
            obtain ⟨k1, cur, ti, k2, k3, k4, k5, k6, _⟩ := hb
            have ho := h2
            obtain ⟨ad, _, hcap, _⟩ := h2
            refine ⟨some ⟨p.g, p.o + off, p.cap - off, p.foot, p.foot⟩, ⟨by rw [hlen]; exact own_shift ho, ⟨k1.1, k1.2.1⟩, cur, ti, k2, by rw [k3]; congr 1; dsimp only; omega, by dsimp only; omega, by rw [hlen]; dsimp only; omega, fun i y hy => ?_⟩,
              fun q hq => by cases hq; exact ⟨l, p, rfl, hp, fun b hb => h.sub l p b hp hb, fun _ b hb => hb⟩⟩
            obtain ⟨es, g1, g2, g3⟩ := k6 (off + i) y (part_get hy)
            exact ⟨es, g1, fun j u hu => by dsimp only; rw [Nat.add_assoc p.o off i]; exact g2 j u hu, Cells.keep (Nat.le_refl _) (fun _ _ _ => rfl) (fun b _ hb => hav b hb) e' es y g3⟩
        · cases he
      · cases he
  | xrow e te =>
    cases a <;> simp only [outC] at he <;> try (cases he; done)
    · simp only [Option.some.injEq, Prod.mk.injEq] at he
      obtain ⟨rfl, rfl⟩ := he
      have hu : u = .slice none 0 0 := hu
      exact ⟨none, ⟨⟨hu, rfl, rfl⟩, rfl⟩, fun q hq => by cases hq⟩
    · rename_i l off len
      split at he
      · rename_i fr tr e' te' xs hl
        split at he
        · rename_i hc
          obtain ⟨rfl, rfl, hf⟩ := hc
          simp only [Option.some.injEq, Prod.mk.injEq] at he
          obtain ⟨rfl, rfl⟩ := he
          unfold St.at at hl
          obtain ⟨h1, h2⟩ := rep_arr hu hl
          have hb := (h.heap l).blk hl
          simp only [BlockAt, ArrAt] at hb
          have hlen : ((xs.drop off).take len).length = len := by simp; omega
          cases hp : π l with
          | none =>
            rw [hp] at h2 hb
            obtain ⟨rfl, rfl, rfl⟩ := h2
            exact ⟨none, ⟨⟨rfl, rfl, by simp⟩, by show (xs.drop 0).take 0 = []; simp⟩, fun q hq => by cases hq⟩
          | some p =>
            rw [hp] at h2 hb
            obtain ⟨k1, cur, ti, k2, k3, k4, k5, k6, k7⟩ := hb
            have ho := h2
            obtain ⟨ad, _, hcap, _⟩ := h2
            have ht : TreeAt w p.cl p.g p.o cur e' xs := by
              simp only [Bool.or_eq_true] at hf
              rcases hf with hf | hf
              · exact k7 hf
              · exact flatTree hf k6
            exact ⟨some ⟨p.g, p.o + off, p.cap - off, p.cl, p.cl⟩, ⟨by rw [hlen]; exact own_shift ho, h.sub l p _ hp k1.1, cur, ti, k2, by rw [k3]; congr 1; dsimp only; omega, by dsimp only; omega, by rw [hlen]; dsimp only; omega, ht.part off len⟩,
              fun q hq => by cases hq; exact ⟨l, p, rfl, hp, fun b hb => hb, fun hx => by cases hx⟩⟩
        · cases he
      · rename_i e' te' xs hl
        split at he
        · rename_i hc
          obtain ⟨rfl, rfl⟩ := hc
          simp only [Option.some.injEq, Prod.mk.injEq] at he
          obtain ⟨rfl, rfl⟩ := he
          unfold St.at at hl
          obtain ⟨h1, h2⟩ := rep_xarr hu hl
          have hb := (h.heap l).blk hl
          simp only [BlockAt, XArrAt] at hb
          have hlen : ((xs.drop off).take len).length = len := by simp; omega
          cases hp : π l with
          | none =>
            rw [hp] at h2 hb
            obtain ⟨rfl, rfl, rfl⟩ := h2
            exact ⟨none, ⟨⟨rfl, rfl, by simp⟩, by show (xs.drop 0).take 0 = []; simp⟩, fun q hq => by cases hq⟩
          | some p =>
            rw [hp] at h2 hb
            obtain ⟨k1, cur, ti, k2, k3, k4, k5, ht⟩ := hb
            have ho := h2
            obtain ⟨ad, _, hcap, _⟩ := h2
            exact ⟨some ⟨p.g, p.o + off, p.cap - off, p.foot, p.foot⟩, ⟨by rw [hlen]; exact own_shift ho, k1, cur, ti, k2, by rw [k3]; congr 1; dsimp only; omega, by dsimp only; omega, by rw [hlen]; dsimp only; omega, ht.part off len⟩,
              fun q hq => by cases hq; exact ⟨l, p, rfl, hp, fun b hb => h.sub l p b hp hb, fun _ b hb => hb⟩⟩
        · cases he
      · cases he
  | part e te => cases a <;> simp [outC] at he
theorem OutAt.congr {D : Nat → Prop} {ρ ρ' : Pi} : ∀ (cs : List CK) (k : Nat) (x : CKs.den cs) (us : List Value), (∀ j, k ≤ j → ρ' (resL j) = ρ (resL j)) → OutAt w D ρ k cs x us → OutAt w D ρ' k cs x us
  | [], _, _, [], _, h => h
  | [], _, _, _ :: _, _, h => h.elim
  | _ :: _, _, _, [], _, h => h.elim
  | c :: r, k, x, u :: us, he, h => ⟨by rw [he k (Nat.le_refl _)]; exact h.1, OutAt.congr r (k + 1) x.2 us (fun j hj => he j (by omega)) h.2⟩

theorem outCs_rep {st : St} (h : RelH X w π st.heap) : ∀ (cs : List CK) (k : Nat) (as : List AC) (us : List Value) (x : CKs.den cs) (ls : List Nat), RepC X w π st.heap as us → outCs st cs as = some (x, ls) → ls.Nodup →
    ∃ ρ : Pi, OutAt w (fun b => Own π b ∨ X.Sc b) ρ k cs x us ∧ (∀ l q, ρ l = some q → ∃ j, k ≤ j ∧ j < k + cs.length ∧ l = resL j) ∧ (∀ l q b, ρ l = some q → q.foot b → ∃ l0 ∈ ls, ∃ p, π l0 = some p ∧ p.cl b ∧ ((cs.all fun c => !c.isX) = true → p.foot b)) ∧
      (∀ l l' q q' b, ρ l = some q → ρ l' = some q' → q.foot b → q'.foot b → l = l')
  | [], k, [], [], x, ls, _, he, _ => by
    simp only [outCs, Option.some.injEq, Prod.mk.injEq] at he
    exact ⟨fun _ => none, trivial, (fun l q h => by cases h), (fun l q b h => by cases h), (fun l l' q q' b h => by cases h)⟩
  | [], _, [], _ :: _, _, _, h, _, _ => h.elim
  | [], _, _ :: _, _, _, _, _, he, _ => by simp [outCs] at he
  | _ :: _, _, [], _, _, _, _, he, _ => by simp [outCs] at he
  | _ :: _, _, _ :: _, [], _, _, h, _, _ => h.elim
  | c :: r, k, a :: as, u :: us, x, ls, hr, he, hnd => by
    simp only [outCs] at he
    split at he
    · rename_i x1 t1 x2 t2 h1 h2
      simp only [Option.some.injEq, Prod.mk.injEq] at he
      obtain ⟨rfl, rfl⟩ := he
      obtain ⟨n1, n2, n3⟩ := List.nodup_append.1 hnd
      obtain ⟨ρ, g1, g2, g3, g4⟩ := outCs_rep h r (k + 1) as us x2 t2 hr.2 h2 n2
      obtain ⟨rr, r1, r2⟩ := outC_rep h hr.1 h1
      have cross : ∀ l q q0 b, ρ l = some q → rr = some q0 → q.foot b → q0.foot b → False := fun l q q0 b h3 h4 h5 h6 => by
        obtain ⟨l0, m0, p, p1, p2, _⟩ := g3 l q b h3 h5
        obtain ⟨l1, p', e1, p1', p2', _⟩ := r2 q0 h4
        have := h.inj l0 l1 p p' b p1 p1' p2 (p2' b h6)
        exact n3 l1 (by rw [e1]; simp) l0 m0 this.symm
      refine ⟨fun l => if l = resL k then rr else ρ l, ⟨by simpa using r1, OutAt.congr r (k + 1) x2 us (fun j hj => if_neg (by unfold resL; omega)) g1⟩, fun l q hq => ?_, fun l q b hq hb => ?_, fun l l' q q' b h3 h4 h5 h6 => ?_⟩
      · dsimp only at hq
        by_cases e : l = resL k
        · exact ⟨k, Nat.le_refl _, by simp, e⟩
        · rw [if_neg e] at hq
          obtain ⟨j, j1, j2, j3⟩ := g2 l q hq
          exact ⟨j, by omega, by simp; omega, j3⟩
      · dsimp only at hq
        by_cases e : l = resL k
        · rw [if_pos e] at hq
          obtain ⟨l1, p', e1, p1', p2', p3'⟩ := r2 q hq
          exact ⟨l1, by rw [e1]; simp, p', p1', p2' b hb, fun hx => p3' (by simp only [List.all_cons, Bool.and_eq_true, Bool.not_eq_true'] at hx; exact hx.1) b hb⟩
        · rw [if_neg e] at hq
          obtain ⟨l0, m0, p, p1, p2, p3⟩ := g3 l q b hq hb
          exact ⟨l0, List.mem_append_right _ m0, p, p1, p2, fun hx => p3 (by simp only [List.all_cons, Bool.and_eq_true] at hx; exact hx.2)⟩
      · dsimp only at h3 h4
        by_cases e : l = resL k <;> by_cases e' : l' = resL k
        · rw [e, e']
        · rw [if_pos e] at h3; rw [if_neg e'] at h4
          exact (cross l' q' q b h4 h3 h6 h5).elim
        · rw [if_neg e] at h3; rw [if_pos e'] at h4
          exact (cross l q q' b h3 h4 h5 h6).elim
        · rw [if_neg e] at h3; rw [if_neg e'] at h4
          exact g4 l l' q q' b h3 h4 h5 h6
    · cases he

theorem same_row {r r' : Option Real} (h : SameP (r.map full) r') {e : Ty} {xs : List e.den} {te : TypeId} {fr tr : Bool} (ha : ArrAt X w π r' fr tr e te xs) : FArr w (fun b => Own π b ∨ X.Sc b) r e xs := by
  cases r with
  | none => cases r' with
    | none => exact ha
    | some q => exact h.elim
  | some p => cases r' with
    | none => exact h.elim
    | some q =>
      obtain ⟨e1, e2, e3, e4⟩ := h
      obtain ⟨k1, cur, ti, k2, k3, k4, k5, k6, _⟩ := ha
      have e1 : p.g = q.g := e1
      have e2 : p.o = q.o := e2
      have e3 : p.cap = q.cap := e3
      refine ⟨⟨by rw [e1]; exact (e4 _).2 k1.1, fun b hb => by rw [e1]; exact k1.2.1 b ((e4 b).1 hb)⟩, cur, ti, by rw [e1]; exact k2, by rw [e2, e3]; exact k3, by rw [e3]; exact k4, by rw [e3]; exact k5, fun i y hy => ?_⟩
      obtain ⟨es, g1, g2, g3⟩ := k6 i y hy
      exact ⟨es, g1, by rw [e2]; exact g2, Cells.keep (Nat.le_refl _) (fun _ _ _ => rfl) (fun b _ hb => hb.imp id .inl) e es y g3⟩
theorem same_xrow {r r' : Option Real} (h : SameP (r.map full) r') {e : Ty} {xs : List e.den} {te : TypeId} (ha : XArrAt w r' e te xs) : XArrAt w r e te xs := by
  cases r with
  | none => cases r' with
    | none => exact ha
    | some q => exact h.elim
  | some p => cases r' with
    | none => exact h.elim
    | some q =>
      obtain ⟨e1, e2, e3, e4⟩ := h
      obtain ⟨k1, cur, ti, k2, k3, k4, k5, Fs, t1, t2, t3, t4⟩ := ha
      have e1 : p.g = q.g := e1
      have e2 : p.o = q.o := e2
      have e3 : p.cap = q.cap := e3
      exact ⟨by rw [e1]; exact (e4 _).2 k1, cur, ti, by rw [e1]; exact k2, by rw [e2, e3]; exact k3, by rw [e3]; exact k4, by rw [e3]; exact k5, Fs, t1, by rw [e1]; exact t2, fun b hb => (e4 b).2 (t3 b hb), by rw [e2]; exact t4⟩

theorem backIO_rep {st : St} {π0 : Pi} {D : Nat → Prop} {w0 : World} (h : RelH X w π st.heap) (hpin : ∀ l, X.pin l = (π0 l).map full) : ∀ (cs : List (Bool × CK)) (k : Nat) (x : Ins.den cs) (us : List Value) (o : IOs.den cs), InAt w0 D π0 k cs x us → backIO st k cs = some o →
    IOAt w (fun b => Own π b ∨ X.Sc b) π0 k cs o ∧ ∀ l ∈ ioLabs k cs, hget st.heap l ≠ none
  | [], _, _, _, _, _, _ => ⟨trivial, fun l hl => by cases hl⟩
  | _ :: _, _, _, [], _, h, _ => h.elim
  | (false, c) :: r, k, x, u :: us, o, hi, he => backIO_rep h hpin r (k + 1) x.2 us o hi.2 (by simpa only [backIO] using he)
  | (true, .dat τ) :: r, k, x, u :: us, o, hi, he => backIO_rep h hpin r (k + 1) x.2 us o hi.2 (by simpa only [backIO] using he)
  | (true, .row e te) :: r, k, x, u :: us, o, hi, he => by
    simp only [backIO] at he
    split at he
    · rename_i x1 x2 h1 h2
      simp only [Option.some.injEq] at he; subst he
      obtain ⟨g1, g2⟩ := backIO_rep h hpin r (k + 1) x.2 us x2 hi.2 h2
      have h0 := hi.1
      simp only [backC] at h1
      split at h1
      · rename_i fr tr e' te' xs hl
        split at h1
        · rename_i hc
          obtain ⟨rfl, rfl⟩ := hc
          simp only [Option.some.injEq] at h1; subst h1
          unfold St.at at hl
          have hs := h.pin (rowL true k) (by have := rowL_true k; omega) (by rw [hl]; simp)
          rw [hpin] at hs
          exact ⟨⟨same_row (te := te') hs ((h.heap _).blk hl), g1⟩, fun l hl' => by
            simp only [ioLabs] at hl'
            rcases List.mem_cons.1 hl' with rfl | hl'
            · rw [hl]; simp
            · exact g2 l hl'⟩
        · cases h1
      · cases h1
    · cases he
  | (true, .part e te) :: r, k, x, u :: us, o, hi, he => by
    simp only [backIO] at he
    split at he
    · rename_i x1 x2 h1 h2
      simp only [Option.some.injEq] at he; subst he
      obtain ⟨g1, g2⟩ := backIO_rep h hpin r (k + 1) x.2 us x2 hi.2 h2
      have h0 := hi.1
      simp only [backC] at h1
      split at h1
      · rename_i fr tr e' te' xs hl
        split at h1
        · rename_i hc
          obtain ⟨rfl, rfl⟩ := hc
          simp only [Option.some.injEq] at h1; subst h1
          unfold St.at at hl
          have hs := h.pin (rowL true k) (by have := rowL_true k; omega) (by rw [hl]; simp)
          rw [hpin] at hs
          exact ⟨⟨same_row (te := te') hs ((h.heap _).blk hl), g1⟩, fun l hl' => by
            simp only [ioLabs] at hl'
            rcases List.mem_cons.1 hl' with rfl | hl'
            · rw [hl]; simp
            · exact g2 l hl'⟩
        · cases h1
      · cases h1
    · cases he
  | (true, .xrow e te) :: r, k, x, u :: us, o, hi, he => by
    simp only [backIO] at he
    split at he
    · rename_i x1 x2 h1 h2
      simp only [Option.some.injEq] at he; subst he
      obtain ⟨g1, g2⟩ := backIO_rep h hpin r (k + 1) x.2 us x2 hi.2 h2
      simp only [backC] at h1
      split at h1
      · rename_i e' te' xs hl
        split at h1
        · rename_i hc
          obtain ⟨rfl, rfl⟩ := hc
          simp only [Option.some.injEq] at h1; subst h1
          unfold St.at at hl
          have hs := h.pin (rowL true k) (by have := rowL_true k; omega) (by rw [hl]; simp)
          rw [hpin] at hs
          exact ⟨⟨same_xrow (te := te') hs ((h.heap _).blk hl), g1⟩, fun l hl' => by
            simp only [ioLabs] at hl'
            rcases List.mem_cons.1 hl' with rfl | hl'
            · rw [hl]; simp
            · exact g2 l hl'⟩
        · cases h1
      · cases h1
    · cases he

theorem ioLabs_of : ∀ (cs : List (Bool × CK)) (k : Nat) (x : Ins.den cs) (l : Nat), k + cs.length < 100000 → hget (inOB k cs x) l ≠ none → ¬ l < pinFrom → l ∈ ioLabs k cs
  | [], _, _, _, _, h, _ => absurd rfl h
  | (io, c) :: r, k, x, l, hk, h, hp => by
    simp only [List.length_cons] at hk
    simp only [inOB] at h
    have tail : hget (inOB (k + 1) r x.2) l ≠ none → l ∈ ioLabs (k + 1) r := fun h => ioLabs_of r (k + 1) x.2 l (by omega) h hp
    have sub : ∀ m, m ∈ ioLabs (k + 1) r → m ∈ ioLabs k ((io, c) :: r) := fun m hm => by
      cases io <;> cases c <;> simp only [ioLabs] <;> first | exact hm | exact List.mem_cons_of_mem _ hm
    cases hc : ckOB c x.1 with
    | none => rw [hc] at h; exact sub l (tail h)
    | some b =>
      rw [hc] at h
      simp only [consO, hget] at h
      split at h
      · rename_i e; subst e
        cases io with
        | false => exact absurd (rowL_false (by omega)) hp
        | true => cases c with
          | dat τ => cases hc
          | row e te => simp [ioLabs]
          | xrow e te => simp [ioLabs]
          | part e te => simp [ioLabs]
      · exact sub l (tail h)

theorem CKAt.weak {D D' : Nat → Prop} (hD : ∀ b, D' b → D b) {r : Option Real} {u : Value} {c : CK} {x : c.den} (h : CKAt w D r u c x) : CKAt w D' r u c x := by
  cases c with
  | dat τ => exact ⟨h.1, h.2.weak fun b _ hb => hD b hb⟩
  | row e te => exact ⟨h.1, FArr.weak h.2 hD⟩
  | xrow e te => exact h
  | part e te => exact ⟨h.1, h.2.1, FArr.weak h.2.2 hD⟩
theorem OutAt.weak {D D' : Nat → Prop} (hD : ∀ b, D' b → D b) {ρ : Pi} : ∀ (cs : List CK) (k : Nat) (x : CKs.den cs) (us : List Value), OutAt w D ρ k cs x us → OutAt w D' ρ k cs x us
  | [], _, _, [], h => h
  | [], _, _, _ :: _, h => h.elim
  | _ :: _, _, _, [], h => h.elim
  | c :: r, k, x, u :: us, h => ⟨h.1.weak hD, OutAt.weak hD r (k + 1) x.2 us h.2⟩
theorem IOAt.weak {D D' : Nat → Prop} (hD : ∀ b, D' b → D b) {π : Pi} : ∀ (cs : List (Bool × CK)) (k : Nat) (x : IOs.den cs), IOAt w D π k cs x → IOAt w D' π k cs x
  | [], _, _, h => h
  | (false, _) :: r, k, x, h => IOAt.weak hD r (k + 1) x h
  | (true, .dat _) :: r, k, x, h => IOAt.weak hD r (k + 1) x h
  | (true, .row e te) :: r, k, x, h => ⟨FArr.weak h.1 hD, IOAt.weak hD r (k + 1) x.2 h.2⟩
  | (true, .xrow e te) :: r, k, x, h => ⟨h.1, IOAt.weak hD r (k + 1) x.2 h.2⟩
  | (true, .part e te) :: r, k, x, h => ⟨FArr.weak h.1 hD, IOAt.weak hD r (k + 1) x.2 h.2⟩

def MPost (P : Program) (s : MSpec) (fn : Func) (w : World) (S : Nat → Prop) (π : Pi) (r : CKs.den s.outs) (o : IOs.den s.ins) (a' : Act) (w' : World) : Prop :=
  ∃ (v : Value) (us' : List Value) (ρ : Pi), a'.defers = [] ∧ (results fn a'.tmps).run P w' = .ok v w' ∧ retV s.multi s.rshapes us' v ∧ shapeOK s.rshapes us' ∧ BelowG w.heap.size (Own π) w w' ∧ IOAt w' (DOut S π ρ) π 0 s.ins o ∧ OutAt w' (DOut S π ρ) ρ 0 s.outs r us' ∧
    Places ρ (fun b => b < w'.heap.size ∧ (w.heap.size ≤ b ∨ ∃ l q, l < pinFrom ∧ π l = some q ∧ q.foot b)) ∧ (∀ l, (∀ k, k < s.outs.length → l ≠ resL k) → ρ l = none)

theorem run_mapM {α β : Type} (f : α → Sem β) : ∀ (l : List α) (vs : List β), vs.length = l.length → (∀ (i : Nat) a v, l[i]? = some a → vs[i]? = some v → (f a).run P w = .ok v w) → (l.mapM f).run P w = .ok vs w
  | [], [], _, _ => by simp
  | [], _ :: _, h, _ => by simp at h
  | _ :: _, [], h, _ => by simp at h
  | a :: l, v :: vs, h, hr => by
    rw [List.mapM_cons]
    simp only [Sem.run_bind, hr 0 a v rfl rfl, Result.andThen_ok, run_mapM f l vs (by simpa using h) (fun i a' v' ha hv => hr (i + 1) a' v' (by simpa using ha) (by simpa using hv)), Sem.run_pure]

/-- **A function of the second kind is what its plain run says.** -/
theorem evalFnM_calls (hT : TabOK P T) (hΓ : EnvOK P Γ) (hm : P.follows .mixedOrders = true) {f : FuncId} {fn : Func} (hf : P.funcs[f]? = some fn) (s : MSpec) (w : World) (S : Nat → Prop) (π : Pi) (us : List Value) (x : Ins.den s.ins)
    (r : CKs.den s.outs) (o : IOs.den s.ins) (hsh : shapeOK s.shapes us) (hin : InAt w (fun b => Own π b ∨ S b) π 0 s.ins x us) (hpl : Places π (fun b => b < w.heap.size)) (hS : ∀ b, S b → b < w.heap.size ∧ ¬ Own π b) (hdom : ∀ l, hget (inOB 0 s.ins x) l = none → π l = none) (he : RunsM T Γ s fn x fun z => z = (r, o)) :
    Calls P f (groupV s.shapes us).toArray w fun e w' => ∃ v us' ρ, e = .returned v ∧ retV s.multi s.rshapes us' v ∧ shapeOK s.rshapes us' ∧ BelowG w.heap.size (Own π) w w' ∧ IOAt w' (DOut S π ρ) π 0 s.ins o ∧ OutAt w' (DOut S π ρ) ρ 0 s.outs r us' ∧
      Places ρ (fun b => b < w'.heap.size ∧ (w.heap.size ≤ b ∨ ∃ l q, l < pinFrom ∧ π l = some q ∧ q.foot b)) ∧ (∀ l, (∀ k, k < s.outs.length → l ≠ resL k) → ρ l = none) := by
  obtain ⟨hlen, c, hb, he⟩ := he
  have hlen : s.ins.length < 1000 := by simpa using hlen
  -- the start
  let π0 : Pi := fun l => (π l).map full
  have un : ∀ l q, π0 l = some q → ∃ q0, π l = some q0 ∧ q = full q0 := fun l q hq => by
    have hq : (π l).map full = some q := hq
    cases hp : π l with
    | none => rw [hp] at hq; cases hq
    | some q0 => rw [hp] at hq; exact ⟨q0, rfl, (Option.some.inj hq).symm⟩
  have hrc : RepC ⟨w, S, Own π, π0⟩ w π0 (inOB 0 s.ins x) (inAC 0 s.ins x) us := inAt_rep (fun _ => rfl) s.ins 0 x us (by omega) hin (fun _ _ h => h)
  obtain ⟨g1, g2, _, _⟩ := group_rep s.shapes _ us hsh hrc
  have h0 : Rel ⟨w, S, Own π, π0⟩ { tmps := groupA s.shapes (inAC 0 s.ins x) ++ List.replicate (fn.ntmps - (groupA s.shapes (inAC 0 s.ins x)).length) .undef, heap := inOB 0 s.ins x }
      { tmps := (groupV s.shapes us).toArray ++ Array.replicate (fn.ntmps - (groupV s.shapes us).toArray.size) undef, defers := [] } w := by
    refine ⟨π0, ⟨BelowG.refl _ _ _, fun b hb => hS b hb, fun l q b h1 h2 => ?_, fun l q b h1 h2 => ?_, fun l l' q q' b h1 h2 h3 h4 => ?_, fun l _ _ => SameP.rfl' _, fun l => ?_⟩, ⟨by simp [g1], rfl, fun t => ?_⟩⟩
    · obtain ⟨q0, _, rfl⟩ := un l q h1; exact h2
    · obtain ⟨q0, h3, rfl⟩ := un l q h1
      exact ⟨.inr ⟨l, q0, h3, h2⟩, hpl.at' l q0 b h3 h2⟩
    · obtain ⟨q0, h5, rfl⟩ := un l q h1
      obtain ⟨q0', h6, rfl⟩ := un l' q' h2
      exact hpl.inj l l' q0 q0' b h5 h6 h3 h4
    · cases hh : hget (inOB 0 s.ins x) l with
      | none => exact HeapAt.of_none (by show (π l).map full = none; rw [hdom l hh]; rfl) hh
      | some b => exact HeapAt.of_block (inAt_block (fun b hb => by
        rcases hb with ⟨l, q, h1, h2⟩ | hb | ⟨hb, _⟩
        · obtain ⟨q0, h3, rfl⟩ := un l q h1; exact .inl ⟨l, q0, h3, h2⟩
        · exact .inr hb
        · cases hb) s.ins 0 x us hin l b hh) hh
    · show RepAV _ w _ _ ((groupA s.shapes (inAC 0 s.ins x) ++ List.replicate _ AV.undef).getD t .undef) (((groupV s.shapes us).toArray ++ Array.replicate _ undef).getD t undef)
      by_cases ht : t < (groupV s.shapes us).length
      · rw [List.getD_eq_getElem?_getD, List.getElem?_append_left (by omega), ← List.getD_eq_getElem?_getD]
        rw [Array.getD_eq_getD_getElem?, Array.getElem?_append_left (by simpa using ht)]
        have := g2 t _ _ (List.getElem?_eq_getElem (by omega)) (List.getElem?_eq_getElem ht)
        simpa [List.getD_eq_getElem?_getD, List.getElem?_eq_getElem ht, List.getElem?_eq_getElem (show t < (groupA s.shapes (inAC 0 s.ins x)).length by omega)] using this
      · have : (groupA s.shapes (inAC 0 s.ins x) ++ List.replicate (fn.ntmps - (groupA s.shapes (inAC 0 s.ins x)).length) AV.undef).getD t .undef = .undef := by
          rw [List.getD_eq_getElem?_getD, List.getElem?_append_right (by omega)]
          rw [List.getElem?_replicate]
          split <;> rfl
        rw [this]; trivial
  have fin : ∀ (st : St) (a' : Act) (w' : World), evalResM T s fn st = some (r, o) → Rel ⟨w, S, Own π, π0⟩ st a' w' → MPost P s fn w S π r o a' w' := by
    intro st a' w' hres hrel
    obtain ⟨π1, h'⟩ := hrel
    unfold evalResM at hres
    split at hres
    · cases hres
    rename_i l hl
    split at hres
    rotate_left
    · cases hres
    rename_i hmul
    split at hres
    · cases hres
    rename_i as hun
    split at hres
    rotate_left
    · cases hres
    rename_i r' ls o' hout hback
    split at hres
    rotate_left
    · cases hres
    rename_i hcond
    simp only [Bool.and_eq_true, Nat.blt_eq] at hcond
    obtain ⟨⟨hnd, hins⟩, hmix⟩ := hcond
    simp only [Option.some.injEq, Prod.mk.injEq] at hres
    obtain ⟨rfl, rfl⟩ := hres
    have hnd' := nodupB_iff hnd
    obtain ⟨n1, n2, n3⟩ := List.nodup_append.1 hnd'
    · show MPost P s fn w S π r' o' a' w'
      · have hX : True := trivial
        obtain ⟨vs, v1, v2, v3, v4⟩ := resAVs_rep hT h' _ _ hl
        obtain ⟨us', e1, e2, e3⟩ := ungroup_rep s.rshapes l vs as (by omega) v4 hun
        obtain ⟨ρ, p1, p2, p3, p4⟩ := outCs_rep h'.1 s.outs 0 as us' r' ls e3 hout n1
        obtain ⟨io1, io2⟩ := backIO_rep (π0 := π) h'.1 (fun _ => rfl) s.ins 0 x us o' hin hback
        have hrs : fn.results = fn.results.toList.toArray := Array.toArray_toList.symm
        have hv : ∃ v, (results fn a'.tmps).run P w' = .ok v w' ∧ retV s.multi s.rshapes us' v := by
          unfold retV
          rw [← e1, hmul]
          rcases Nat.lt_or_ge 1 l.length with h1 | h1
          · have hb1 : Nat.blt 1 l.length = true := by simpa using h1
            simp only [hb1, if_true]
            refine ⟨.tuple vs.toArray, ?_, rfl⟩
            rw [results_eq, hrs, List.mapM_toArray]
            simp only [map_eq_pure_bind, bind_assoc, pure_bind]
            simp only [Sem.run_bind, run_mapM (resRun a'.tmps) _ vs v1 v3, Result.andThen_ok, Sem.run_pure]
            rw [dif_neg (by simp; omega)]
          · have hb1 : Nat.blt 1 l.length = false := by rw [← Bool.not_eq_true]; simpa using h1
            simp only [hb1, Bool.false_eq_true, if_false]
            have hrun : ∀ v, (if h : vs.toArray.size = 1 then vs.toArray[0] else .tuple vs.toArray) = v → (results fn a'.tmps).run P w' = .ok v w' := by
              intro v hv
              rw [results_eq, hrs, List.mapM_toArray]
              simp only [map_eq_pure_bind, bind_assoc, pure_bind]
              simp only [Sem.run_bind, run_mapM (resRun a'.tmps) _ vs v1 v3, Result.andThen_ok, Sem.run_pure]
              rw [hv]
            rcases vs with _ | ⟨v, _ | ⟨v', vs⟩⟩
            · exact ⟨_, hrun _ (by simp; rfl), .inr rfl⟩
            · exact ⟨v, hrun _ (by simp), .inl rfl⟩
            · exfalso; simp only [List.length_cons] at v1; omega
        obtain ⟨v, hv1, hv2⟩ := hv
        have hDO : (s.outs.all fun c => !c.isX) = true → ∀ b, DOut S π ρ b → Own π1 b ∨ S b := by
          intro hx b hb
          rcases hb with hb | ⟨l0, q, h1, h2, h3⟩ | ⟨l0, q, h1, h2⟩
          · exact .inr hb
          · have hio := ioLabs_of s.ins 0 x l0 (by omega) (fun hnn => by rw [hdom l0 hnn] at h2; cases h2) (by omega)
            have hs := h'.1.pin l0 h1 (io2 l0 hio)
            have hs : SameP ((π l0).map full) (π1 l0) := hs
            rw [h2] at hs
            cases hp1 : π1 l0 with
            | none => rw [hp1] at hs; exact hs.elim
            | some q1 => rw [hp1] at hs; exact .inl ⟨l0, q1, hp1, (hs.2.2.2 b).1 h3⟩
          · obtain ⟨m, _, p, hm2, _, hm4⟩ := p3 l0 q b h1 h2
            exact .inl ⟨m, p, hm2, hm4 hx⟩
        have hfl : s.flat = true ∨ (s.outs.all fun c => !c.isX) = true := by unfold MSpec.mixOK at hmix; simpa only [Bool.or_eq_true] using hmix
        have io1 : IOAt w' (DOut S π ρ) π 0 s.ins o' := by
          rcases hfl with hf | hf
          · unfold MSpec.flat at hf
            simp only [Bool.and_eq_true] at hf
            exact IOAt.any s.ins 0 o' hf.2 io1
          · exact IOAt.weak (hDO hf) s.ins 0 o' io1
        have p1 : OutAt w' (DOut S π ρ) ρ 0 s.outs r' us' := by
          rcases hfl with hf | hf
          · unfold MSpec.flat at hf
            simp only [Bool.and_eq_true] at hf
            exact OutAt.any s.outs 0 r' us' hf.1 p1
          · exact OutAt.weak (hDO hf) s.outs 0 r' us' p1
        refine ⟨v, us', ρ, h'.2.defers, hv1, hv2, e2, h'.1.below, io1, p1, ⟨fun l0 q b h1 h2 => ?_, fun l0 l1 q q' b h1 h2 h3 h4 => p4 l0 l1 q q' b h1 h2 h3 h4⟩, fun l0 hl0 => ?_⟩
        · obtain ⟨m, hm1, p, hm2, hm3, _⟩ := p3 l0 q b h1 h2
          obtain ⟨k1, k2⟩ := h'.1.place m p b hm2 hm3
          refine ⟨k2, k1.imp id fun ⟨c0, q0, h5, h6⟩ => ?_⟩
          refine ⟨c0, q0, Classical.byContradiction fun hn => ?_, h5, h6⟩
          -- a row that is handed back stays where it was
          have hio := ioLabs_of s.ins 0 x c0 (by omega) (fun hnn => by rw [hdom c0 hnn] at h5; cases h5) hn
          have hs := h'.1.pin c0 (by omega) (io2 c0 hio)
          have hs : SameP ((π c0).map full) (π1 c0) := hs
          rw [h5] at hs
          cases hp1 : π1 c0 with
          | none => rw [hp1] at hs; exact hs.elim
          | some q1 =>
            rw [hp1] at hs
            have hf1 : q1.foot b := (hs.2.2.2 b).1 h6
            have := h'.1.inj c0 m q1 p b hp1 hm2 (h'.1.sub c0 q1 b hp1 hf1) hm3
            subst this
            exact n3 c0 hm1 c0 hio rfl
        · cases hp : ρ l0 with
          | none => rfl
          | some q =>
            obtain ⟨j, _, j2, j3⟩ := p2 l0 q hp
            exact absurd j3 (hl0 j (by omega))
  refine calls_of_wp hf hb ?_
  refine (runs_sound hT hΓ hm he _ w _ h0 fun e st a' w' ⟨hne, y, hres, hy⟩ h' => ?_).1
  subst hy
  obtain ⟨v, us', ρ, p1, p2, p3⟩ := fin st a' w' hres h'
  cases e with
  | normal => exact ⟨p1, v, p2, v, us', ρ, rfl, p3⟩
  | ret => exact ⟨p1, v, p2, v, us', ρ, rfl, p3⟩
  | exit id => exact absurd rfl (hne id)
end
end Go.Proofs.Ytfghmbpogmcboaa
