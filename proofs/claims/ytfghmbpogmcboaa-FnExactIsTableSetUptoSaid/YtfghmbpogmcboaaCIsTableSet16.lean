/-
  Part 17 of the proof that the statement FnExactIsTableSet holds.
-/
import Derived.Test.YtfghmbpogmcboaaCIsTableSet15
namespace Go.Proofs.Ytfghmbpogmcboaa
open Go.RowKit

section
variable {P : Program} {T : Tab} {X : Ctx} {w w' : World} {π π' : Pi} {H H' : List (Nat × OB)}

theorem rowL_true (k : Nat) : ¬ rowL true k < pinFrom := by unfold rowL pinFrom; simp
theorem rowL_false {k : Nat} (h : k < 100000) : rowL false k < pinFrom := by unfold rowL pinFrom; simp; omega

/-- A row that the call has written. -/
def Touched (X : Ctx) (D : Nat → Prop) (w' : World) (π : Pi) (H Hn : List (Nat × OB)) (l : Nat) : Prop :=
  ∃ b0 b', hget H l = some b0 ∧ hget Hn l = some b' ∧ (∀ f, OB.map f b0 = b0) ∧ (∀ f, OB.map f b' = b') ∧ b0.like b' ∧ ∀ π' H', (∀ b, Own π' b ∨ X.Sc b → D b) → BlockAt X w' π' H' (π l) b'

theorem tkOf_dat {io : Bool} {k : Nat} {τ : Ty} {a : AC} {t : Nat × Loc} (h : t ∈ tkOf io k (.dat τ) a) : t.1 = rowL false k := by
  cases a <;> simp [tkOf, views] at h <;> first | (obtain ⟨_, ⟨_, _⟩, rfl⟩ := h; rfl) | (rw [h])
theorem tkOf_part {io : Bool} {k : Nat} {e : Ty} {te : TypeId} {a : AC} {t : Nat × Loc} (h : t ∈ tkOf io k (.part e te) a) : t.1 = rowL io k := by cases a <;> simp [tkOf] at h <;> rw [h]
theorem tkOf_row {io : Bool} {k : Nat} {e : Ty} {te : TypeId} {a : AC} {t : Nat × Loc} (h : t ∈ tkOf io k (.row e te) a) : t.1 = rowL io k := by cases a <;> simp [tkOf] at h <;> rw [h]
theorem tkOf_xrow {io : Bool} {k : Nat} {e : Ty} {te : TypeId} {a : AC} {t : Nat × Loc} (h : t ∈ tkOf io k (.xrow e te) a) : t.1 = rowL io k := by cases a <;> simp [tkOf] at h <;> rw [h]

theorem cells_of_D {D : Nat → Prop} {π' : Pi} {fr : Bool} {e : Ty} {es : List Value} {y : e.den} (hD : ∀ b, Own π' b ∨ X.Sc b → D b) (h : Cells w' D e es y) : Cells w' (Avoid X.w0.heap.size X.Sc π' (fr && e.flat)) e es y := by
  cases hf : e.flat with
  | true => exact Cells.flat e es y hf h
  | false => exact Cells.keep (Nat.le_refl _) (fun _ _ _ => rfl) (fun b _ hb => by
      rcases hb with hb | hb | ⟨hb, _⟩
      · exact hD b (.inl hb)
      · exact hD b (.inr hb)
      · simp at hb) e es y h
theorem tree_of_D {D P : Nat → Prop} {g o : Nat} {cur : Array Value} {tr : Bool} {e : Ty} {xs : List e.den}
    (h : ∀ (i : Nat) (x : e.den), xs[i]? = some x → ∃ es : List Value, es.length = e.size ∧ (∀ j u, es[j]? = some u → cur[(o + i) * e.size + j]? = some u) ∧ Cells w' D e es x) (ht : (tr && e.flat) = true) : TreeAt w' P g o cur e xs := by
  simp only [Bool.and_eq_true] at ht
  exact flatTree ht.2 h
theorem putC_spec {D : Nat → Prop} (h : RelH X w π H) {k : Nat} {c : CK} {ys : c.den} {a : AC} {u : Value} {r : Option Real} {x : c.den} {cur st1 : St} (hs : w.heap.size ≤ w'.heap.size)
    (hU : ∀ l i j q b, a = .sub l i j → π l = some q → q.foot b → b < w.heap.size → (∀ r', r = some r' → ¬ r'.foot b) → w'.heap[b]? = w.heap[b]?)
    {V : List Nat} (ht : CKAt w (OwnBut X π V) r u c x ∧ Took1 w π H true a u r c x) (hr : RowAt w' D r c ys) (he : putC cur c ys a = some st1) (hcur : ∀ t ∈ tkOf true k c a, hget cur.heap t.2.lab = hget H t.2.lab) :
    st1.tmps = cur.tmps ∧ (∀ m, (∀ t ∈ tkOf true k c a, m ≠ t.2.lab) → hget st1.heap m = hget cur.heap m) ∧ ∀ t ∈ tkOf true k c a, Touched X D w' π H st1.heap t.2.lab := by
  obtain ⟨hc, ht⟩ := ht
  cases c with
  | dat τ => cases a <;> simp [putC] at he; subst he; exact ⟨rfl, fun _ _ => rfl, fun t ht => by simp [tkOf] at ht⟩
  | row e te =>
    simp only [Took1] at ht
    cases a <;> simp only [] at ht <;> first | (exact ht.elim) | skip
    · simp only [putC, Option.some.injEq] at he; subst he
      exact ⟨rfl, fun _ _ => rfl, fun t ht => by simp [tkOf] at ht⟩
    · rename_i l off len
      obtain ⟨rfl, rfl, rfl, fr, tr, hl⟩ := ht
      have hcl : hget cur.heap l = some (.arr fr tr e te x) := (hcur _ (List.mem_singleton.2 rfl)).trans hl
      simp only [putC, St.at, hcl] at he
      split at he
      · rename_i hcond
        obtain ⟨_, h1, _⟩ := hcond
        simp only [Option.some.injEq] at he; subst he
        refine ⟨rfl, fun m hm => hget_set_ne _ _ _ _ (hm _ (List.mem_singleton.2 rfl)), fun t htt => ?_⟩
        have htt := List.mem_singleton.1 htt
        subst htt
        refine ⟨_, _, hl, hget_set_same _ _ _ _ hcl, fun _ => rfl, fun _ => rfl, ⟨rfl, h1.symm⟩, fun π' H' hD => ?_⟩
        have hb := (h.heap l).blk hl
        change BlockAt X w' π' H' (π l) _
        simp only [BlockAt, ArrAt] at hb ⊢
        cases hp : π l with
        | none => rw [hp] at hr; exact hr
        | some q =>
          rw [hp] at hr hb
          obtain ⟨k1, cu, ti, k2, k3, k4, k5, k6⟩ := hr
          exact ⟨⟨k1.1, k1.2, fun hh => hb.1.2.2 (by simp only [Bool.and_eq_true] at hh; exact hh.1)⟩, cu, ti, k2, k3, k4, k5, fun i y hy => by
            obtain ⟨es, g1, g2, g3⟩ := k6 i y hy
            exact ⟨es, g1, g2, cells_of_D hD g3⟩, fun ht => tree_of_D k6 ht⟩
      · cases he
    · rename_i l i j
      obtain ⟨⟨_, hf⟩, tid, xs, hl, hx, q, hq, hfoot, hre⟩ := ht
      have hcl : hget cur.heap l = some (.xarr (.slice e) tid xs) := (hcur _ (List.mem_singleton.2 rfl)).trans hl
      simp only [putC, St.at, hcl, hx] at he
      rw [dif_pos trivial] at he
      · split at he
        · rename_i h1
          simp only [Option.some.injEq] at he; subst he
          refine ⟨rfl, fun m hm => hget_set_ne _ _ _ _ (hm _ (List.mem_singleton.2 rfl)), fun t htt => ?_⟩
          have htt := List.mem_singleton.1 htt
          subst htt
          refine ⟨_, _, hl, hget_set_same _ _ _ _ hcl, fun _ => rfl, fun _ => rfl, ⟨rfl, by simp⟩, fun π' H' _ => ?_⟩
          show XArrAt w' (π l) (.slice e) tid _
          rw [hq]
          refine hre w' ys hs (fun b hlt hb hn => hU l i j q b rfl hq hb hlt hn) ?_
          have hv := hc.1
          rw [← show List.length ys = List.length x from h1] at hv
          exact FArr.tcells hr hf hv
        · cases he
  | xrow e te =>
    simp only [Took1] at ht
    cases a <;> simp only [] at ht <;> first | (exact ht.elim) | skip
    · simp only [putC, Option.some.injEq] at he; subst he
      exact ⟨rfl, fun _ _ => rfl, fun t ht => by simp [tkOf] at ht⟩
    · rename_i l off len
      obtain ⟨rfl, rfl, rfl, hl⟩ := ht
      have hcl : hget cur.heap l = some (.xarr e te x) := (hcur _ (List.mem_singleton.2 rfl)).trans hl
      simp only [putC, St.at, hcl] at he
      split at he
      · rename_i hcond
        obtain ⟨_, h1, _⟩ := hcond
        simp only [Option.some.injEq] at he; subst he
        refine ⟨rfl, fun m hm => hget_set_ne _ _ _ _ (hm _ (List.mem_singleton.2 rfl)), fun t htt => ?_⟩
        have htt := List.mem_singleton.1 htt
        subst htt
        refine ⟨_, _, hl, hget_set_same _ _ _ _ hcl, fun _ => rfl, fun _ => rfl, ⟨rfl, h1.symm⟩, fun π' H' _ => ?_⟩
        show XArrAt w' (π l) e te _
        cases hp : π l with
        | none => rw [hp] at hr; exact hr
        | some q => rw [hp] at hr; exact hr
      · cases he
    · rename_i l i j
      obtain ⟨_, tid, xs, hl, hx, q, hq, hfoot, hre⟩ := ht
      have hcl : hget cur.heap l = some (.xarr (.slice e) tid xs) := (hcur _ (List.mem_singleton.2 rfl)).trans hl
      simp only [putC, St.at, hcl, hx] at he
      rw [dif_pos trivial] at he
      · split at he
        · rename_i h1
          simp only [Option.some.injEq] at he; subst he
          refine ⟨rfl, fun m hm => hget_set_ne _ _ _ _ (hm _ (List.mem_singleton.2 rfl)), fun t htt => ?_⟩
          have htt := List.mem_singleton.1 htt
          subst htt
          refine ⟨_, _, hl, hget_set_same _ _ _ _ hcl, fun _ => rfl, fun _ => rfl, ⟨rfl, by simp⟩, fun π' H' _ => ?_⟩
          show XArrAt w' (π l) (.slice e) tid _
          rw [hq]
          refine hre w' ys hs (fun b hlt hb hn => hU l i j q b rfl hq hb hlt hn) ?_
          have hv := hc.1
          rw [← show List.length ys = List.length x from h1] at hv
          exact XArrAt.tcells (te := te) hr hv
        · cases he
  | part e te => cases a <;> simp [putC] at he <;> first | (simp only [Took1] at ht; exact ht.2.elim)

theorem putP_spec {D : Nat → Prop} (h : RelH X w π H) {k : Nat} {e : Ty} {te : TypeId} {ys : List e.den} {a : AC} {u : Value} {r : Option Real} {x : (CK.part e te).den} {cur st1 : St}
    {V : List Nat} (ht : CKAt w (OwnBut X π V) r u (.part e te) x ∧ Took1 w π H true a u r (.part e te) x) (hr : RowAt w' D r (.row e te) ys) (he : putP cur e ys a = some st1) (hcur : ∀ t ∈ tkOf true k (.part e te) a, hget cur.heap t.2.lab = hget H t.2.lab) :
    st1.tmps = cur.tmps ∧ (∀ m, (∀ t ∈ tkOf true k (.part e te) a, m ≠ t.2.lab) → hget st1.heap m = hget cur.heap m) ∧ ∀ t ∈ tkOf true k (.part e te) a, Touched X D w' π H st1.heap t.2.lab := by
  obtain ⟨hc, hf, ht⟩ := ht
  cases a <;> simp only [] at ht <;> first | (exact ht.elim) | skip
  rename_i l off len
  obtain ⟨rfl, _, fr, tr, hl⟩ := ht
  have hcl : hget cur.heap l = some (.arr fr tr e te x.1) := (hcur _ (List.mem_singleton.2 rfl)).trans hl
  simp only [putP, St.at, hcl] at he
  split at he
  · rename_i hcond
    obtain ⟨_, h1⟩ := hcond
    simp only [Option.some.injEq] at he; subst he
    refine ⟨rfl, fun m hm => hget_set_ne _ _ _ _ (hm _ (List.mem_singleton.2 rfl)), fun t htt => ?_⟩
    have htt := List.mem_singleton.1 htt
    subst htt
    refine ⟨_, _, hl, hget_set_same _ _ _ _ hcl, fun _ => rfl, fun _ => rfl, ⟨rfl, h1.symm⟩, fun π' H' _ => ?_⟩
    have hb := (h.heap l).blk hl
    change BlockAt X w' π' H' (π l) _
    simp only [BlockAt, ArrAt] at hb ⊢
    cases hp : π l with
    | none => rw [hp] at hr; exact hr
    | some q =>
      rw [hp] at hr hb
      obtain ⟨k1, cu, ti, k2, k3, k4, k5, k6⟩ := hr
      exact ⟨⟨k1.1, k1.2, hb.1.2.2⟩, cu, ti, k2, k3, k4, k5, fun i y hy => by
        obtain ⟨es, g1, g2, g3⟩ := k6 i y hy
        exact ⟨es, g1, g2, Cells.flat e es y hf g3⟩, fun _ => flatTree hf k6⟩
  · cases he

def PutDone (X : Ctx) (D : Nat → Prop) (w' : World) (π : Pi) (H : List (Nat × OB)) (tk : List (Nat × Loc)) (cur st1 : St) : Prop :=
  st1.tmps = cur.tmps ∧ (∀ m, (∀ t ∈ tk, m ≠ t.2.lab) → hget st1.heap m = hget cur.heap m) ∧ (∀ t ∈ tk, t.1 < pinFrom → hget st1.heap t.2.lab = hget cur.heap t.2.lab) ∧ (∀ t ∈ tk, ¬ t.1 < pinFrom → Touched X D w' π H st1.heap t.2.lab)
theorem putIO_spec {D : Nat → Prop} (h : RelH X w π H) {V : List Nat} {πc : Pi} {tks : List (Nat × Loc)} (hs : w.heap.size ≤ w'.heap.size)
    (hU : ∀ t ∈ tks, ∀ q b, π t.2.lab = some q → q.foot b → b < w.heap.size → (∀ r', πc t.1 = some r' → ¬ r'.foot b) → w'.heap[b]? = w.heap[b]?) :
    ∀ (cs : List (Bool × CK)) (k : Nat) (x : Ins.den cs) (as : List AC) (us : List Value) (o : IOs.den cs) (cur st1 : St), k + cs.length < 100000 → (∀ t ∈ tksOf k cs as, t ∈ tks) → ((tksOf k cs as).map fun t => t.2.lab).Nodup →
      Took X w π V H πc k cs x as us → IOAt w' D πc k cs o → putIO cs o as cur = some st1 → (∀ t ∈ tksOf k cs as, hget cur.heap t.2.lab = hget H t.2.lab) →
      PutDone X D w' π H (tksOf k cs as) cur st1
  | [], k, x, as, us, o, cur, st1, _, _, _, _, _, he, _ => by
    simp only [putIO, Option.some.injEq] at he; subst he
    have e0 : tksOf k [] as = [] := by cases as <;> rfl
    exact ⟨rfl, fun _ _ => rfl, by rw [e0]; simp, by rw [e0]; simp⟩
  | p :: r, k, x, [], us, o, cur, st1, _, _, _, ht, _, _, _ => ht.elim
  | p :: r, k, x, a :: as, [], o, cur, st1, _, _, _, ht, _, _, _ => ht.elim
  | (io, c) :: r, k, x, a :: as, u :: us, o, cur, st1, hk, hsub, hnd, ht, ho, he, hcur => by
    simp only [List.length_cons] at hk
    simp only [tksOf] at hsub hnd hcur ⊢
    rw [List.map_append] at hnd
    obtain ⟨n1, n2, n3⟩ := List.nodup_append.1 hnd
    have apart : ∀ t ∈ tkOf io k c a, ∀ t' ∈ tksOf (k + 1) r as, t'.2.lab ≠ t.2.lab := fun t h1 t' h2 e => n3 _ (List.mem_map.2 ⟨t, h1, rfl⟩) _ (List.mem_map.2 ⟨t', h2, rfl⟩) e.symm
    -- the rest, from a state in which the head is done
    have rest : ∀ (cur' : St) (o' : IOs.den r), IOAt w' D πc (k + 1) r o' → putIO r o' as cur' = some st1 → cur'.tmps = cur.tmps → (∀ m, (∀ t ∈ tkOf io k c a, m ≠ t.2.lab) → hget cur'.heap m = hget cur.heap m) →
        (∀ t ∈ tkOf io k c a, t.1 < pinFrom → hget cur'.heap t.2.lab = hget cur.heap t.2.lab) → (∀ t ∈ tkOf io k c a, ¬ t.1 < pinFrom → Touched X D w' π H cur'.heap t.2.lab) →
        PutDone X D w' π H (tkOf io k c a ++ tksOf (k + 1) r as) cur st1 := by
      intro cur' o' h1 h2 h3 h4 h5 h6
      obtain ⟨g1, g2, g3, g4⟩ := putIO_spec h hs hU r (k + 1) x.2 as us o' cur' st1 (by omega) (fun t ht => hsub t (List.mem_append_right _ ht)) n2 ht.2 h1 h2 (fun t htt => by
        rw [h4 _ fun t0 ht0 => apart t0 ht0 t htt]; exact hcur t (List.mem_append_right _ htt))
      have hd : ∀ t ∈ tkOf io k c a, hget st1.heap t.2.lab = hget cur'.heap t.2.lab := fun t htt => g2 _ fun t' ht' => (apart t htt t' ht').symm
      refine ⟨g1.trans h3, fun m hm => ?_, fun t htt hlt => ?_, fun t htt hlt => ?_⟩
      · rw [g2 m fun t ht => hm t (List.mem_append_right _ ht), h4 m fun t ht => hm t (List.mem_append_left _ ht)]
      · rcases List.mem_append.1 htt with htt | htt
        · rw [hd t htt, h5 t htt hlt]
        · rw [g3 t htt hlt, h4 _ fun t0 ht0 => apart t0 ht0 t htt]
      · rcases List.mem_append.1 htt with htt | htt
        · obtain ⟨b0, b', q1, q2, q3⟩ := h6 t htt hlt
          exact ⟨b0, b', q1, (hd t htt).trans q2, q3⟩
        · exact g4 t htt hlt
    have same : ∀ o', IOAt w' D πc (k + 1) r o' → putIO r o' as cur = some st1 → (∀ t ∈ tkOf io k c a, t.1 < pinFrom) → PutDone X D w' π H (tkOf io k c a ++ tksOf (k + 1) r as) cur st1 := fun o' h1 h2 h3 => rest cur o' h1 h2 rfl (fun _ _ => rfl) (fun _ _ _ => rfl) (fun t h4 h5 => absurd (h3 t h4) h5)
    cases io with
    | false =>
      have h3 : ∀ t ∈ tkOf false k c a, t.1 < pinFrom := fun t h4 => by rcases tkOf_lab h4 with ⟨h5, _⟩ | ⟨h5, _⟩ <;> (rw [h5]; exact rowL_false (by omega))
      cases c with
      | dat τ => exact same o ho (by simpa only [putIO] using he) h3
      | row e te => exact same o ho (by simpa only [putIO] using he) h3
      | xrow e te => exact same o ho (by simpa only [putIO] using he) h3
      | part e te => exact same o ho (by simpa only [putIO] using he) h3
    | true =>
      have row : ∀ (ys : c.den) (o' : IOs.den r), (∀ t ∈ tkOf true k c a, t.1 = rowL true k) → RowAt w' D (πc (rowL true k)) c ys → IOAt w' D πc (k + 1) r o' → (∃ cur', putC cur c ys a = some cur' ∧ putIO r o' as cur' = some st1) → PutDone X D w' π H (tkOf true k c a ++ tksOf (k + 1) r as) cur st1 := by
        intro ys o' h0 h1 h2 h3
        obtain ⟨cur', hp, h3⟩ := h3
        · obtain ⟨q1, q2, q3⟩ := putC_spec (k := k) h hs (fun l i j q b ea hq hb hlt hn => by
            cases c with
            | dat τ => exact absurd (ht.1.2 : πc _ = none) (by subst ea; simp [putC] at hp)
            | row e te => subst ea; exact hU (rowL true k, .sub l i j) (hsub _ (List.mem_append_left _ (List.mem_singleton.2 rfl))) q b hq hb hlt hn
            | xrow e te => subst ea; exact hU (rowL true k, .sub l i j) (hsub _ (List.mem_append_left _ (List.mem_singleton.2 rfl))) q b hq hb hlt hn
            | part e te => exact absurd ht.1.2.2 (by subst ea; exact fun h => h)) ht.1 h1 hp (fun t htt => hcur t (List.mem_append_left _ htt))
          exact rest cur' o' h2 h3 q1 q2 (fun t h4 h5 => absurd h5 (by rw [h0 t h4]; exact rowL_true k)) (fun t h4 _ => q3 t h4)
      cases c with
      | dat τ => exact same o ho (by simpa only [putIO] using he) (fun t h4 => by rw [tkOf_dat h4]; exact rowL_false (by omega))
      | row e te =>
        simp only [putIO] at he
        split at he
        · rename_i cur' hp; exact row o.1 o.2 (fun t ht => tkOf_row ht) ho.1 ho.2 ⟨cur', hp, he⟩
        · cases he
      | xrow e te =>
        simp only [putIO] at he
        split at he
        · rename_i cur' hp; exact row o.1 o.2 (fun t ht => tkOf_xrow ht) ho.1 ho.2 ⟨cur', hp, he⟩
        · cases he
      | part e te =>
        simp only [putIO] at he
        split at he
        · rename_i cur' hp
          obtain ⟨q1, q2, q3⟩ := putP_spec (k := k) h ht.1 ho.1 hp (fun t htt => hcur t (List.mem_append_left _ htt))
          exact rest cur' o.2 ho.2 he q1 q2 (fun t h4 h5 => absurd h5 (by rw [tkOf_part h4]; exact rowL_true k)) (fun t h4 _ => q3 t h4)
        · cases he

theorem newC_block {fr : Bool} {c : CK} {x : c.den} {u : Value} {r : Option Real} {D : Nat → Prop} (h : CKAt w' D r u c x) :
    (newC fr c x = none ∧ r = none) ∨ ∃ b', newC fr c x = some b' ∧ ∀ (X : Ctx) π' H', (fr = true → ∀ q, r = some q → X.w0.heap.size ≤ q.g) → (∀ b, Own π' b ∨ X.Sc b → D b) → BlockAt X w' π' H' r b' := by
  cases c with
  | dat τ => exact .inl ⟨rfl, h.1⟩
  | row e te =>
    refine .inr ⟨_, rfl, fun X π' H' hfr hD => ?_⟩
    obtain ⟨_, h⟩ := h
    simp only [RowAt] at h
    simp only [BlockAt, ArrAt]
    cases r with
    | none => exact h
    | some q =>
      obtain ⟨k1, cu, ti, k2, k3, k4, k5, k6⟩ := h
      exact ⟨⟨k1.1, k1.2, fun h1 => hfr (by simp only [Bool.and_eq_true] at h1; exact h1.1) q rfl⟩, cu, ti, k2, k3, k4, k5, fun i y hy => by
        obtain ⟨es, g1, g2, g3⟩ := k6 i y hy
        exact ⟨es, g1, g2, cells_of_D hD g3⟩, fun h => by cases h⟩
  | xrow e te => exact .inr ⟨_, rfl, fun X π' H' _ _ => h.2⟩
  | part e te =>
    refine .inr ⟨_, rfl, fun X π' H' hfr hD => ?_⟩
    obtain ⟨_, hf, h⟩ := h
    simp only [BlockAt, ArrAt]
    cases r with
    | none => exact h
    | some q =>
      obtain ⟨k1, cu, ti, k2, k3, k4, k5, k6⟩ := h
      exact ⟨⟨k1.1, k1.2, fun h1 => hfr (by simp only [Bool.and_eq_true] at h1; exact h1.1) q rfl⟩, cu, ti, k2, k3, k4, k5, fun i y hy => by
        obtain ⟨es, g1, g2, g3⟩ := k6 i y hy
        exact ⟨es, g1, g2, cells_of_D hD g3⟩, fun h => by cases h⟩

theorem putNew_spec {D : Nat → Prop} {key : Nat → Nat} (hkey : ∀ i j, key i = key j → i = j) {fr : Bool} {ρ : Pi} : ∀ (cs : List CK) (k : Nat) (x : CKs.den cs) (us : List Value) (H : List (Nat × OB)), OutAt w' D ρ k cs x us →
    (∀ j, k ≤ j → j < k + cs.length → hget H (key j) = none) →
    (∀ l, (∀ j, k ≤ j → j < k + cs.length → l ≠ key j) → hget (putNew fr key k cs x H) l = hget H l) ∧
    (∀ j, k ≤ j → j < k + cs.length → (hget (putNew fr key k cs x H) (key j) = none ∧ ρ (resL j) = none) ∨
      ∃ b', hget (putNew fr key k cs x H) (key j) = some b' ∧ ∀ (X : Ctx) π' H', (fr = true → ∀ q, ρ (resL j) = some q → X.w0.heap.size ≤ q.g) → (∀ b, Own π' b ∨ X.Sc b → D b) → BlockAt X w' π' H' (ρ (resL j)) b') ∧
    (∀ π', (∀ b, Own π' b ∨ X.Sc b → D b) → (∀ j, k ≤ j → j < k + cs.length → π' (key j) = ρ (resL j)) → RepC X w' π' (putNew fr key k cs x H) (outAC key k cs x) us)
  | [], k, x, [], H, _, _ => ⟨fun _ _ => rfl, fun j h1 h2 => by simp at h2; omega, fun _ _ _ => trivial⟩
  | [], _, _, _ :: _, _, h, _ => h.elim
  | _ :: _, _, _, [], _, h, _ => h.elim
  | c :: r, k, x, u :: us, H, h, hn => by
    simp only [List.length_cons] at hn ⊢
    simp only [putNew, outAC]
    have hk0 := hn k (Nat.le_refl _) (by omega)
    -- the heap with the head in it
    have hH1 : ∀ l, l ≠ key k → hget (insO H (key k) (newC fr c x.1)) l = hget H l := by
      intro l hl
      cases newC fr c x.1 with
      | some b => exact hget_ins_ne _ _ _ _ hl
      | none => rfl
    have hH1k : hget (insO H (key k) (newC fr c x.1)) (key k) = newC fr c x.1 := by
      cases newC fr c x.1 with
      | some b => exact hget_ins_same _ _ _ hk0
      | none => exact hk0
    generalize (insO H (key k) (newC fr c x.1)) = H1 at hH1 hH1k ⊢
    obtain ⟨g1, g2, g3⟩ := putNew_spec hkey (fr := fr) r (k + 1) x.2 us H1 h.2 (fun j h1 h2 => by
      rw [hH1 _ fun e => by have := hkey _ _ e; omega]; exact hn j (by omega) (by omega))
    have hkk : hget (putNew fr key (k + 1) r x.2 H1) (key k) = newC fr c x.1 := by
      rw [g1 _ fun j h1 h2 e => by have := hkey _ _ e; omega]; exact hH1k
    refine ⟨fun l hl => ?_, fun j h1 h2 => ?_, fun π' hd hπ => ⟨?_, ?_⟩⟩
    · rw [g1 l fun j h1 h2 => hl j (by omega) (by omega)]
      exact hH1 l (hl k (Nat.le_refl _) (by omega))
    · rcases Nat.eq_or_lt_of_le h1 with e | h1
      · subst e
        rw [hkk]
        exact newC_block h.1
      · exact g2 j h1 (by omega)
    · have h1 := h.1
      have hpk := hπ k (Nat.le_refl _) (by omega)
      cases c with
      | dat τ =>
        obtain ⟨cs', c1, c2⟩ := h1.2
        exact ⟨cs', by have := cells_of_D (fr := true) hd c1; simpa using this, c2⟩
      | row e te => exact ⟨_, e.size, List.length x.1, hkk, rfl, by simp, by rw [hpk]; exact h1.1⟩
      | xrow e te => exact ⟨_, e.size, List.length x.1, hkk, rfl, by simp, by rw [hpk]; exact h1.1⟩
      | part e te => trivial
    · exact g3 π' hd fun j h1 h2 => hπ j (by omega) (by omega)

theorem keysOK_iff {ks : List Nat} {n : Nat} (h : keysOK ks n = true) : ks.length = n ∧ ks.Nodup ∧ ∀ l ∈ ks, l < pinFrom := by
  unfold keysOK at h
  simp only [Bool.and_eq_true] at h
  refine ⟨Nat.eq_of_beq_eq_true h.1, nodupB_iff h.2.1, fun l hl => ?_⟩
  have := List.all_eq_true.1 h.2.2 l hl
  simpa using this
theorem callKey_lt {ks : List Nat} {j : Nat} (h : j < ks.length) : callKey ks j = ks[j] := by
  unfold callKey
  rw [List.getElem?_eq_getElem h]
theorem callKey_inj {ks : List Nat} (hn : ks.Nodup) (hl : ∀ l ∈ ks, l < pinFrom) : ∀ i j, callKey ks i = callKey ks j → i = j := by
  intro i j h
  by_cases hi : i < ks.length
  · by_cases hj : j < ks.length
    · rw [callKey_lt hi, callKey_lt hj] at h
      rcases Nat.lt_trichotomy i j with hlt | he | hlt
      · exact absurd h (List.pairwise_iff_getElem.1 hn i j hi hj hlt)
      · exact he
      · exact absurd h.symm (List.pairwise_iff_getElem.1 hn j i hj hi hlt)
    · have h1 := hl _ (List.getElem_mem hi)
      rw [callKey_lt hi] at h
      unfold callKey at h
      rw [List.getElem?_eq_none (by omega)] at h
      simp only at h
      omega
  · by_cases hj : j < ks.length
    · have h1 := hl _ (List.getElem_mem hj)
      rw [callKey_lt hj] at h
      unfold callKey at h
      rw [List.getElem?_eq_none (by omega)] at h
      simp only at h
      omega
    · unfold callKey at h
      rw [List.getElem?_eq_none (by omega), List.getElem?_eq_none (by omega)] at h
      simp only at h
      omega
theorem hget_dropHs : ∀ (H : List (Nat × OB)) (dead : List Nat) (l : Nat), hget (dropHs H dead) l = if l ∈ dead then none else hget H l
  | [], dead, l => by simp [dropHs, hget]
  | (k, b) :: r, dead, l => by
    simp only [dropHs]
    have ih := hget_dropHs r dead l
    by_cases hk : k ∈ dead
    · rw [if_pos (by simpa using hk), ih]
      split
      · rfl
      · rename_i hl
        simp only [hget]
        rw [if_neg (fun (e : k = l) => hl (e ▸ hk))]
    · rw [if_neg (by simpa using hk)]
      simp only [hget]
      split
      · rename_i e; subst e; rw [if_neg hk]
      · exact ih
theorem mem_keys {ks : List Nat} {l : Nat} : l ∈ ks ↔ ∃ k, k < ks.length ∧ l = callKey ks k :=
  ⟨fun h => by obtain ⟨k, hk, e⟩ := List.getElem_of_mem h; exact ⟨k, hk, by rw [callKey_lt hk, e]⟩, fun ⟨k, hk, e⟩ => by rw [e, callKey_lt hk]; exact List.getElem_mem hk⟩
theorem mem_eaten {tks : List (Nat × Loc)} {l : Nat} : l ∈ eaten tks ↔ ∃ t ∈ tks, (t.1 < pinFrom ∧ t.2.reads = false) ∧ t.2.lab = l := by
  unfold eaten
  simp only [List.mem_map, List.mem_filter, Bool.and_eq_true, Nat.blt_eq, Bool.not_eq_true']
  exact ⟨fun ⟨t, ⟨h1, h2⟩, h3⟩ => ⟨t, h1, h2, h3⟩, fun ⟨t, h1, h2, h3⟩ => ⟨t, ⟨h1, h2⟩, h3⟩⟩
theorem lab_inj {tks : List (Nat × Loc)} (h : (tks.map fun t => t.2.lab).Nodup) {t t' : Nat × Loc} (ht : t ∈ tks) (ht' : t' ∈ tks) (he : t.2.lab = t'.2.lab) : t = t' := by
  induction tks with
  | nil => cases ht
  | cons a r ih =>
    simp only [List.map_cons] at h
    obtain ⟨h1, h2⟩ := List.nodup_cons.1 h
    rcases List.mem_cons.1 ht with rfl | ht <;> rcases List.mem_cons.1 ht' with rfl | ht'
    · rfl
    · exact (h1 (List.mem_map.2 ⟨t', ht', he.symm⟩)).elim
    · exact (h1 (he ▸ List.mem_map.2 ⟨t, ‹t ∈ r›, rfl⟩)).elim
    · exact ih h2 ht ht'

theorem OutAt.full {D : Nat → Prop} {ρ : Pi} : ∀ (cs : List CK) (k : Nat) (x : CKs.den cs) (us : List Value), OutAt w D ρ k cs x us → OutAt w D (fun l => (ρ l).map full) k cs x us
  | [], _, _, [], h => h
  | [], _, _, _ :: _, h => h.elim
  | _ :: _, _, _, [], h => h.elim
  | c :: r, k, x, u :: us, h => ⟨by
      have h1 := h.1
      show CKAt w D ((ρ (resL k)).map _) u c x.1
      cases c with
      | dat τ => rw [h1.1]; exact ⟨rfl, h1.2⟩
      | row e te => cases hp : ρ (resL k) <;> (rw [hp] at h1; exact h1)
      | xrow e te => cases hp : ρ (resL k) <;> (rw [hp] at h1; exact h1)
      | part e te => cases hp : ρ (resL k) <;> (rw [hp] at h1; exact h1), OutAt.full r (k + 1) x.2 us h.2⟩

/-- A row's block is its own. -/
theorem OutAt.footG {D : Nat → Prop} {ρ : Pi} : ∀ (cs : List CK) (k0 : Nat) (x : CKs.den cs) (us : List Value), OutAt w D ρ k0 cs x us → ∀ j, k0 ≤ j → j < k0 + cs.length → ∀ q, ρ (resL j) = some q → q.foot q.g
  | [], k0, _, _, _, j, h1, h2, _, _ => by simp at h2; omega
  | _ :: _, _, _, [], h, _, _, _, _, _ => h.elim
  | c :: r, k0, x, u :: us, ho, j, h1, h2, q, hq => by
    rcases Nat.eq_or_lt_of_le h1 with e | h1
    · subst e
      have := ho.1
      cases c with
      | dat τ => rw [hq] at this; cases this.1
      | row e te => rw [hq] at this; exact this.2.1.1
      | xrow e te => rw [hq] at this; exact this.2.1
      | part e te => rw [hq] at this; exact this.2.2.1.1
    · exact OutAt.footG r (k0 + 1) x.2 us ho.2 j h1 (by simp at h2; omega) q hq

/-- Where nothing leads to shared memory it does not matter what is to be avoided. -/
theorem FArr.any {D D' : Nat → Prop} {r : Option Real} {e : Ty} {xs : List e.den} (hf : e.flat = true) (h : FArr w D r e xs) : FArr w D' r e xs := by
  cases r with
  | none => exact h
  | some r =>
    obtain ⟨k1, cu, ti, k2, k3, k4, k5, k6⟩ := h
    exact ⟨k1, cu, ti, k2, k3, k4, k5, fun i y hy => by
      obtain ⟨es, g1, g2, g3⟩ := k6 i y hy
      exact ⟨es, g1, g2, Cells.flat e es y hf g3⟩⟩
theorem OutAt.any {D D' : Nat → Prop} {ρ : Pi} : ∀ (cs : List CK) (k : Nat) (x : CKs.den cs) (us : List Value), cs.all (·.flat) = true → OutAt w D ρ k cs x us → OutAt w D' ρ k cs x us
  | [], _, _, [], _, h => h
  | [], _, _, _ :: _, _, h => h.elim
  | _ :: _, _, _, [], _, h => h.elim
  | c :: r, k, x, u :: us, hf, h => by
    simp only [List.all_cons, Bool.and_eq_true] at hf
    refine ⟨?_, OutAt.any r (k + 1) x.2 us hf.2 h.2⟩
    have h1 := h.1
    cases c with
    | dat τ => exact ⟨h1.1, RepVal.flat hf.1 h1.2⟩
    | row e te => exact ⟨h1.1, FArr.any hf.1 h1.2⟩
    | xrow e te => exact h1
    | part e te => exact ⟨h1.1, h1.2.1, FArr.any hf.1 h1.2.2⟩
theorem IOAt.any {D D' : Nat → Prop} {π : Pi} : ∀ (cs : List (Bool × CK)) (k : Nat) (x : IOs.den cs), (cs.all fun p => !p.1 || p.2.flat) = true → IOAt w D π k cs x → IOAt w D' π k cs x
  | [], _, _, _, h => h
  | (false, _) :: r, k, x, hf, h => IOAt.any r (k + 1) x (by simp only [List.all_cons, Bool.and_eq_true] at hf; exact hf.2) h
  | (true, .dat _) :: r, k, x, hf, h => IOAt.any r (k + 1) x (by simp only [List.all_cons, Bool.and_eq_true] at hf; exact hf.2) h
  | (true, .row e te) :: r, k, x, hf, h => by
    simp only [List.all_cons, Bool.and_eq_true, Bool.not_true, Bool.false_or] at hf
    exact ⟨FArr.any hf.1 h.1, IOAt.any r (k + 1) x.2 hf.2 h.2⟩
  | (true, .xrow e te) :: r, k, x, hf, h => by
    simp only [List.all_cons, Bool.and_eq_true, Bool.not_true, Bool.false_or] at hf
    exact ⟨h.1, IOAt.any r (k + 1) x.2 hf.2 h.2⟩
  | (true, .part e te) :: r, k, x, hf, h => by
    simp only [List.all_cons, Bool.and_eq_true, Bool.not_true, Bool.false_or] at hf
    exact ⟨FArr.any hf.1 h.1, IOAt.any r (k + 1) x.2 hf.2 h.2⟩
theorem mem_viewed {tks : List (Nat × Loc)} {l : Nat} : l ∈ viewed tks ↔ ∃ t ∈ tks, t.2.reads = true ∧ t.2.lab = l := by
  unfold viewed
  simp only [List.mem_map, List.mem_filter]
  exact ⟨fun ⟨t, ⟨h1, h2⟩, h3⟩ => ⟨t, h1, h2, h3⟩, fun ⟨t, h1, h2, h3⟩ => ⟨t, ⟨h1, h2⟩, h3⟩⟩

/-- **A call of the second kind.** -/
theorem evalCallM_sound {st : St} {a : Act} (h : RelAt X π st a w) {f : FuncId} {s : MSpec} (hs : MSound P f s) (dst : Option Nat) (avs : List AV) (vs : List Value) (hlen : avs.length = vs.length)
    (hav : ∀ (i : Nat) c v, avs[i]? = some c → vs[i]? = some v → RepAV X w π st.heap c v) (av : AV) (st' : St) (he : evalCallM st dst s avs = some (av, st')) :
    Calls P f vs.toArray w fun e w' => ∃ v, e = .returned v ∧ ∃ π', RelAt X π' st' a w' ∧ RepAV X w' π' st'.heap av v := by
  unfold evalCallM at he
  split at he
  · cases he
  rename_i as hun
  split at he
  · cases he
  rename_i x tks htk
  split at he
  rotate_left
  · cases he
  rename_i hcond
  simp only [Bool.and_eq_true, Nat.blt_eq] at hcond
  obtain ⟨⟨⟨hnd, hkp⟩, hon⟩, hin⟩ := hcond
  split at he
  · cases he
  rename_i r o hfn
  split at he
  · cases he
  rename_i st1 hput
  obtain ⟨us, rfl, hsh, hrc⟩ := ungroup_rep s.shapes avs vs as hlen hav hun
  let V := (tks.filter fun t => t.2.reads).map fun t => t.2.lab
  have hV : ∀ t ∈ tks, t.2.reads = true → t.2.lab ∈ V := fun t ht hr => List.mem_map.2 ⟨t, List.mem_filter.2 ⟨ht, hr⟩, rfl⟩
  have hV' : ∀ l ∈ V, ∃ t ∈ tks, t.2.reads = true ∧ t.2.lab = l := fun l hl => by
    obtain ⟨t, h1, h2⟩ := List.mem_map.1 hl
    exact ⟨t, (List.mem_filter.1 h1).1, (List.mem_filter.1 h1).2, h2⟩
  clear_value V
  obtain ⟨etk, πc, hT, hdom, hin0, hfoot⟩ := takeIn_rep h.1 (V := V) s.ins 0 as us x tks (by omega) hrc htk hV
  have hnd' := nodupB_iff hnd
  rw [etk] at hnd'
  -- the blocks that are handed over
  have hown : ∀ b, Own πc b → ∃ t ∈ tksOf 0 s.ins as, t.2.reads = false ∧ ∃ q, π t.2.lab = some q ∧ q.foot b ∧ ∀ l i j, t.2 = .sub l i j → b ≠ q.g := fun b ⟨c, q, h1, h2⟩ => by
    obtain ⟨t, t1, _, t3⟩ := hfoot c q b h1 h2
    exact ⟨t, t1, t3⟩
  have hownπ : ∀ b, Own πc b → Own π b := fun b hb => let ⟨t, _, _, q, h1, h2, _⟩ := hown b hb; ⟨_, q, h1, h2⟩
  have hpl : Places πc (fun b => b < w.heap.size) := ⟨fun l q b h1 h2 => (h.1.own (hownπ b ⟨l, q, h1, h2⟩)).1, fun l l' q q' b h1 h2 h3 h4 => by
    obtain ⟨t, t1, t2, _, p, t3, t4, _⟩ := hfoot l q b h1 h3
    obtain ⟨t', t1', t2', _, p', t3', t4', _⟩ := hfoot l' q' b h2 h4
    have := lab_inj hnd' t1 t1' (h.1.apart t3 t3' t4 t4')
    rw [← t2, ← t2', this]⟩
  -- what is only read is not handed over
  have hweak : ∀ b, Own πc b → OwnBut X π V b := fun b hb => .inl ⟨hownπ b hb, fun l hl r' hr hf => by
    obtain ⟨t, t1, t0, q, t3, t4, _⟩ := hown b hb
    obtain ⟨t', t1', t2', rfl⟩ := hV' l hl
    rw [etk] at t1'
    have := lab_inj hnd' t1 t1' (h.1.apart t3 hr t4 hf)
    subst this
    rw [t0] at t2'; cases t2'⟩
  let S : Nat → Prop := fun b => ¬ Own πc b ∧ OwnBut X π V b
  have hS : ∀ b, S b → b < w.heap.size ∧ ¬ Own πc b := fun b hb => ⟨by
    rcases hb.2 with h1 | h1
    · exact (h.1.own h1.1).1
    · exact Nat.lt_of_lt_of_le (h.1.sc b h1).1 h.1.below.size, hb.1⟩
  refine (hs.calls w S πc us x r o hsh (InAt.weak (fun b hb => hb.elim (hweak b) fun h => h.2) s.ins 0 x us (hT.inAt s.ins 0 x as us)) hpl hS hin0 hfn).mono ?_
  rintro e w' ⟨v, us', ρ0, rfl, hret, hsh', hbel, hio, hout0, hplρ0, _⟩
  -- the new rows' places
  obtain ⟨ρ, hρ0, hout, hplρ, hclρ⟩ : ∃ ρ : Pi, (∀ l, ρ l = (ρ0 l).map full) ∧ OutAt w' (DOut S πc ρ0) ρ 0 s.outs r us' ∧ Places ρ (fun b => b < w'.heap.size ∧ (w.heap.size ≤ b ∨ ∃ l q, l < pinFrom ∧ πc l = some q ∧ q.foot b)) ∧ ∀ l q, ρ l = some q → q.cl = q.foot := by
    have un : ∀ l q, (ρ0 l).map full = some q → ∃ q0, ρ0 l = some q0 ∧ q = full q0 := fun l q hq => by
      cases hp : ρ0 l with
      | none => rw [hp] at hq; cases hq
      | some q0 => rw [hp] at hq; exact ⟨q0, rfl, (Option.some.inj hq).symm⟩
    refine ⟨fun l => (ρ0 l).map full, fun _ => rfl, OutAt.full s.outs 0 r us' hout0, ⟨fun l q b h1 h2 => ?_, fun l l' q q' b h1 h2 h3 h4 => ?_⟩, fun l q h1 => ?_⟩
    · obtain ⟨q0, h5, rfl⟩ := un l q h1
      exact hplρ0.at' l q0 b h5 h2
    · obtain ⟨q0, h5, rfl⟩ := un l q h1
      obtain ⟨q0', h6, rfl⟩ := un l' q' h2
      exact hplρ0.inj l l' q0 q0' b h5 h6 h3 h4
    · obtain ⟨q0, _, rfl⟩ := un l q h1
      rfl
  refine ⟨v, rfl, ?_⟩
  simp only at he
  -- what the data that are handed back meet no block of
  let D1 : Nat → Prop := if s.flat then fun _ => True else DOut S πc ρ0
  have hio1 : IOAt w' D1 πc 0 s.ins o := by
    show IOAt w' (if s.flat then fun _ => True else DOut S πc ρ0) πc 0 s.ins o
    split
    · rename_i hf
      unfold MSpec.flat at hf
      simp only [Bool.and_eq_true] at hf
      exact IOAt.any s.ins 0 o hf.2 hio
    · exact hio
  have hout1 : OutAt w' D1 ρ 0 s.outs r us' := by
    show OutAt w' (if s.flat then fun _ => True else DOut S πc ρ0) ρ 0 s.outs r us'
    split
    · rename_i hf
      unfold MSpec.flat at hf
      simp only [Bool.and_eq_true] at hf
      exact OutAt.any s.outs 0 r us' hf.1 hout
    · exact hout
  obtain ⟨q1, q2, q3, q4⟩ := putIO_spec (D := D1) (X := X) (π := π) (H := st.heap) h.1 hbel.size (tks := tksOf 0 s.ins as) (πc := πc) (fun t ht q b hq hb hlt hn => hbel.block b hlt fun ⟨c, r', h1, h2⟩ => by
      obtain ⟨t', t1, t2, _, p, t3, t4, _⟩ := hfoot c r' b h1 h2
      have := lab_inj hnd' ht t1 (h.1.apart hq t3 hb t4)
      subst this
      exact hn r' (t2 ▸ h1) h2) s.ins 0 x as us o st st1 (by omega) (fun _ h => h) hnd' hT hio1 hput (fun _ _ => rfl)
  -- what is only read has a low label
  have hreads : ∀ t ∈ tksOf 0 s.ins as, t.2.reads = true → t.1 < pinFrom := by
    have : ∀ (cs : List (Bool × CK)) (k : Nat) (as : List AC), k + cs.length < 100000 → ∀ t ∈ tksOf k cs as, t.2.reads = true → t.1 < pinFrom := by
      intro cs
      induction cs with
      | nil => intro k as _ t ht; cases as <;> cases ht
      | cons p r ih =>
        intro k as hk t ht hr
        simp only [List.length_cons] at hk
        cases as with
        | nil => cases ht
        | cons a as =>
          simp only [tksOf] at ht
          rcases List.mem_append.1 ht with ht | ht
          · rcases tkOf_lab ht with ⟨_, h1⟩ | ⟨h1, _⟩
            · rw [hr] at h1; cases h1
            · rw [h1]; exact rowL_false (by omega)
          · exact ih (k + 1) as (by omega) t ht hr
    exact this s.ins 0 as (by omega)
  -- labels
  let d := dst.getD 0
  let ks := callKeys s tks d
  let dead := eaten tks ++ ks ++ (if s.flat then [] else viewed tks)
  let part := whole tks
  obtain ⟨hksl, hksn, hkslt⟩ : ks.length = s.outs.length ∧ ks.Nodup ∧ ∀ l ∈ ks, l < pinFrom := keysOK_iff hkp
  have hkinj := callKey_inj hksn hkslt
  have hklt : ∀ j, j < s.outs.length → callKey ks j < pinFrom := fun j hj => hkslt _ (mem_keys.2 ⟨j, by omega, rfl⟩)
  let π' : Pi := fun l => match (List.range s.outs.length).find? fun j => decide (callKey ks j = l) with
    | some j => ρ (resL j)
    | none => if l ∈ dead then none else π l
  have hkpi : ∀ j, j < s.outs.length → π' (callKey ks j) = ρ (resL j) := fun j hj => by
    show (match (List.range s.outs.length).find? fun i => decide (callKey ks i = callKey ks j) with | some i => ρ (resL i) | none => _) = _
    cases hf : (List.range s.outs.length).find? fun i => decide (callKey ks i = callKey ks j) with
    | none =>
      have := List.find?_eq_none.1 hf j (List.mem_range.2 hj)
      simp at this
    | some i =>
      have := List.find?_some hf
      rw [hkinj i j (of_decide_eq_true this)]
  have hkdead : ∀ j, j < s.outs.length → callKey ks j ∈ dead := fun j hj => List.mem_append_left _ (List.mem_append_right _ (mem_keys.2 ⟨j, by omega, rfl⟩))
  have hknone : ∀ l, (¬ ∃ j, j < s.outs.length ∧ l = callKey ks j) → π' l = if l ∈ dead then none else π l := fun l hl => by
    show (match (List.range s.outs.length).find? fun i => decide (callKey ks i = l) with | some i => ρ (resL i) | none => _) = _
    cases hf : (List.range s.outs.length).find? fun i => decide (callKey ks i = l) with
    | none => rfl
    | some i =>
      have h1 := List.find?_some hf
      exact absurd ⟨i, List.mem_range.1 (List.mem_of_find?_eq_some hf), (of_decide_eq_true h1).symm⟩ hl
  have hπold : ∀ l, l ∉ dead → π' l = π l := fun l hl => by
    rw [hknone l (fun ⟨j, h1, h2⟩ => hl (h2 ▸ hkdead j h1)), if_neg hl]
  have hD1 : ∀ b, Own π' b ∨ X.Sc b → D1 b := by
    intro b hb
    show (if s.flat then fun _ => True else DOut S πc ρ0) b
    split
    · trivial
    rename_i hnf
    rcases hb with ⟨l, q, hl, hf⟩ | hb
    · by_cases hk : ∃ j, j < s.outs.length ∧ l = callKey ks j
      · obtain ⟨j, hj, rfl⟩ := hk
        rw [hkpi j hj, hρ0] at hl
        cases hp : ρ0 (resL j) with
        | none => rw [hp] at hl; cases hl
        | some q0 => rw [hp] at hl; simp only [Option.map_some, Option.some.injEq] at hl; subst hl; exact .inr (.inr ⟨resL j, q0, hp, hf⟩)
      · have e0 : π' l = if l ∈ dead then none else π l := hknone l hk
        rw [e0] at hl
        split at hl
        · cases hl
        · rename_i hnd2
          by_cases ho : Own πc b
          · obtain ⟨c, q', hc, hcb⟩ := ho
            obtain ⟨t, t1, t2, t0, p, t3, t4, _⟩ := hfoot c q' b hc hcb
            have hlab := h.1.apart hl t3 hf t4
            refine .inr (.inl ⟨c, q', Classical.byContradiction fun hn => ?_, hc, hcb⟩)
            exact hnd2 (List.mem_append_left _ (List.mem_append_left _ (mem_eaten.2 ⟨t, etk ▸ t1, ⟨by rw [t2]; omega, t0⟩, hlab.symm⟩)))
          · refine .inl ⟨ho, .inl ⟨⟨l, q, hl, hf⟩, fun l0 hl0 r0 hr0 hf0 => ?_⟩⟩
            have := h.1.apart hl hr0 hf hf0
            subst this
            exact hnd2 (List.mem_append_right _ (by rw [if_neg hnf]; exact mem_viewed.2 (hV' l hl0)))
    · refine .inl ⟨fun ho => ?_, .inr hb⟩
      have h1 := h.1.sc b hb
      rcases (h.1.own (hownπ b ho)).2 with h2 | h2
      · omega
      · exact h1.2 h2
  -- the heap ahead of the new rows
  let H2 := dropHs (st1.heap.map fun p => (p.1, p.2.map (forgetLs dead part))) dead
  have hH2 : ∀ l, hget H2 l = if l ∈ dead then none else (hget st1.heap l).map (OB.map (forgetLs dead part)) := fun l => by
    show hget (dropHs _ _) l = _
    rw [hget_dropHs, hget_map]
  let H' := putNew (frAll st (eaten tks)) (callKey ks) 0 s.outs r H2
  obtain ⟨n1, n2, n3⟩ := putNew_spec (D := D1) (X := X) (key := callKey ks) hkinj (fr := frAll st (eaten tks)) (ρ := ρ) s.outs 0 r us' H2 hout1 (fun j _ hj => by
    rw [hH2, if_pos (hkdead j (by omega))])
  have hH'old : ∀ l, l ∉ dead → hget H' l = (hget st1.heap l).map (OB.map (forgetLs dead part)) := fun l hl => by
    show hget (putNew _ _ _ _ _ _) l = _
    rw [n1 l fun j _ hj e => hl (e ▸ hkdead j (by omega)), hH2, if_neg hl]
  have hH'dead : ∀ l, l ∈ dead → (∀ j, j < s.outs.length → l ≠ callKey ks j) → hget H' l = none := fun l hl hj => by
    show hget (putNew _ _ _ _ _ _) l = _
    rw [n1 l fun j _ h2 => hj j (by omega), hH2, if_pos hl]
  -- a new row stands at a new label
  have newAt : ∀ l b', hget H' l = some b' → (l ∈ dead ∨ hget st.heap l = none) → ∃ j, j < s.outs.length ∧ l = callKey ks j := by
    intro l b' hb hd
    refine Classical.byContradiction fun hn => ?_
    have hn' : ∀ j, j < s.outs.length → l ≠ callKey ks j := fun j hj e => hn ⟨j, hj, e⟩
    rcases Classical.em (l ∈ dead) with hd' | hd'
    · rw [hH'dead l hd' hn'] at hb; cases hb
    · rcases hd with hd | hd
      · exact hd' hd
      · rw [hH'old l hd'] at hb
        have : hget st1.heap l = none := by
          by_cases hi : ∃ t ∈ tksOf 0 s.ins as, t.2.lab = l
          · obtain ⟨t, ht, e⟩ := hi
            by_cases hlt : t.1 < pinFrom
            · rw [← e, q3 t ht hlt, e]; exact hd
            · obtain ⟨b0, _, h1, _⟩ := q4 t ht hlt
              rw [e, hd] at h1; cases h1
          · rw [q2 l fun t ht e => hi ⟨t, ht, e.symm⟩]; exact hd
        rw [this] at hb; cases hb
  have hfreew : ∀ k, frAll st (eaten tks) = true → ∀ q, ρ (resL k) = some q → q.foot q.g → X.w0.heap.size ≤ q.g := by
    intro k hfr q hq hg
    rcases (hplρ.at' _ q _ hq hg).2 with h1 | ⟨c, p, h1, h2, h3⟩
    · exact Nat.le_trans h.1.below.size h1
    · obtain ⟨t, t1, t2, t0, p', t3, t4, _⟩ := hfoot c p _ h2 h3
      have hm : t.2.lab ∈ eaten tks := mem_eaten.2 ⟨t, etk ▸ t1, ⟨by rw [t2]; exact h1, t0⟩, rfl⟩
      have := List.all_eq_true.1 hfr _ hm
      split at this
      · rename_i fr tr e te xs hl
        unfold St.at at hl
        have hb := (h.1.heap t.2.lab).blk hl
        simp only [BlockAt, ArrAt, t3] at hb
        rw [hb.1.2.1 _ t4]
        exact hb.1.2.2 this
      · cases this
  have hfoot' : ∀ k q, ρ (resL k) = some q → k < s.outs.length → q.foot q.g := by
    intro k q hq hk
    exact OutAt.footG s.outs 0 r us' hout k (Nat.zero_le _) ((Nat.zero_add _).symm ▸ hk) q hq
  have hinv : ∀ l, l ∉ dead → (∃ t ∈ tksOf 0 s.ins as, t.2.reads = false ∧ t.2.lab = l) → Touched X D1 w' π st.heap st1.heap l := by
    rintro l hd ⟨t, ht, h0, rfl⟩
    by_cases hlt : t.1 < pinFrom
    · exact absurd (List.mem_append_left _ (List.mem_append_left _ (mem_eaten.2 ⟨t, etk ▸ ht, ⟨hlt, h0⟩, rfl⟩))) hd
    · exact q4 t ht hlt
  have hnoinv : ∀ l, (¬ ∃ t ∈ tksOf 0 s.ins as, t.2.reads = false ∧ t.2.lab = l) → hget st1.heap l = hget st.heap l := fun l hn => by
    by_cases hi : ∃ t ∈ tksOf 0 s.ins as, t.2.lab = l
    · obtain ⟨t, ht, rfl⟩ := hi
      have hr : t.2.reads = true := by
        cases h0 : t.2.reads with
        | true => rfl
        | false => exact absurd ⟨t, ht, h0, rfl⟩ hn
      exact q3 t ht (hreads t ht hr)
    · exact q2 l fun t ht e => hi ⟨t, ht, e.symm⟩
  cases hra : retA s.multi s.rshapes (outAC (callKey ks) 0 s.outs r) with
  | none => rw [show retA s.multi s.rshapes (outAC (callKey (callKeys s tks (dst.getD 0))) 0 s.outs r) = none from hra] at he; cases he
  | some av0 =>
  rw [show retA s.multi s.rshapes (outAC (callKey (callKeys s tks (dst.getD 0))) 0 s.outs r) = some av0 from hra] at he
  simp only [Option.map_some, Option.some.injEq, Prod.mk.injEq] at he
  obtain ⟨rfl, rfl⟩ := he
  refine ⟨π', ?_, ?_⟩
  · have hx := RelAt.exch (π' := π') (H' := H') (dead := dead) (part := part) (inv := fun l => ∃ t ∈ tksOf 0 s.ins as, t.2.reads = false ∧ t.2.lab = l) (gv := Own πc) h (fun b hb => by
        obtain ⟨t, h1, h0, q, h2, h3, _⟩ := hown b hb
        exact ⟨_, q, ⟨t, h1, h0, rfl⟩, h2, h3⟩) hbel (fun l b0 hd h0 => ⟨hπold l hd, ?_⟩) (fun l b' hb hd => ?_) (fun l hl => ?_) (fun m q hd hp hm hxa => ?_)
    · have : ({ tmps := (st1.forgetL dead part).tmps, heap := H' } : St) = { tmps := st.tmps.map (·.map (forgetLs dead part)), heap := H' } := by
        show ({ tmps := st1.tmps.map (·.map (forgetLs dead part)), heap := H' } : St) = _
        rw [q1]
      show RelAt X π' ({ tmps := (st1.forgetL dead part).tmps, heap := H' } : St) a w'
      rw [this]
      exact hx
    · by_cases hi : ∃ t ∈ tksOf 0 s.ins as, t.2.reads = false ∧ t.2.lab = l
      · obtain ⟨b1, b', e1, e2, e3, e4, e5, e6⟩ := hinv l hd hi
        rw [h0] at e1; cases e1
        exact .inr ⟨b', by rw [hH'old l hd, e2]; simp [e4], by rw [e3]; exact e5, fun _ => e6 π' H' hD1⟩
      · exact .inl ⟨hi, by rw [hH'old l hd, hnoinv l hi, h0]; rfl⟩
    · obtain ⟨j, hj, rfl⟩ := newAt l b' hb hd
      refine ⟨hklt j hj, ?_, fun q b hq => ?_⟩
      · rw [hkpi j hj]
        rcases n2 j (Nat.zero_le _) (by omega) with ⟨e1, _⟩ | ⟨b2, e1, e2⟩
        · rw [show hget H' (callKey ks j) = none from e1] at hb; cases hb
        · rw [show hget H' (callKey ks j) = some b2 from e1] at hb; cases hb
          exact e2 X π' H' (fun hf q hq => hfreew j hf q hq (hfoot' j q hq hj)) hD1
      · rw [hkpi j hj] at hq
        have hcl := hclρ _ q hq
        refine ⟨fun hf => by rw [hcl]; exact hf, fun hf => ?_⟩
        rw [hcl] at hf
        obtain ⟨h1, h2⟩ := hplρ.at' _ q b hq hf
        refine ⟨h1, h2.imp id ?_, fun l2 r2 hd2 hp2 hf2 => ?_⟩
        · rintro ⟨c, p, h3, h4, h5⟩
          obtain ⟨t, t1, t2, t0, p', t3, t4, _⟩ := hfoot c p b h4 h5
          exact ⟨t.2.lab, p', List.mem_append_left _ (List.mem_append_left _ (mem_eaten.2 ⟨t, etk ▸ t1, ⟨by rw [t2]; exact h3, t0⟩, rfl⟩)), t3, t4⟩
        · by_cases hk : ∃ j, j < s.outs.length ∧ l2 = callKey ks j
          · obtain ⟨j2, hj2, rfl⟩ := hk
            rw [hkpi j2 hj2] at hp2
            rw [hclρ _ r2 hp2] at hf2
            have := hplρ.inj _ _ r2 q b hp2 hq hf2 hf
            unfold resL at this
            have : j2 = j := by omega
            rw [this]
          · have e0 : π' l2 = if l2 ∈ dead then none else π l2 := hknone l2 hk
            rw [e0] at hp2
            split at hp2
            · cases hp2
            · rename_i hnd2
              rcases hd2 with hd2 | hd2
              · exact absurd hd2 hnd2
              · rw [(h.1.heap l2).emp hd2] at hp2; cases hp2
    · by_cases hk : ∃ j, j < s.outs.length ∧ l = callKey ks j
      · obtain ⟨j, hj, rfl⟩ := hk
        rw [hkpi j hj]
        rcases n2 j (Nat.zero_le _) (by omega) with ⟨_, e1⟩ | ⟨b2, e1, _⟩
        · exact e1
        · rw [show hget H' (callKey ks j) = some b2 from e1] at hl; cases hl
      · have e0 : π' l = if l ∈ dead then none else π l := hknone l hk
        rw [e0]
        split
        · rfl
        · rename_i hd
          rw [hH'old l hd] at hl
          by_cases hi : ∃ t ∈ tksOf 0 s.ins as, t.2.reads = false ∧ t.2.lab = l
          · obtain ⟨_, b', _, e2, _⟩ := hinv l hd hi
            rw [e2] at hl; cases hl
          · rw [hnoinv l hi] at hl
            cases h0 : hget st.heap l with
            | none => exact (h.1.heap l).emp h0
            | some b => rw [h0] at hl; cases hl
    · refine hbel.block _ (h.1.lt hm).1 fun ho => ?_
      obtain ⟨t, t1, t0, p, t3, t4, t5⟩ := hown _ ho
      have hlab := h.1.apart hm t3 (h.1.foot hm) t4
      have hpq : p = q := by rw [← hlab, hm] at t3; exact (Option.some.inj t3).symm
      cases ht2 : t.2 with
      | row l =>
        refine hp ?_
        show m ∈ whole tks
        unfold whole
        exact List.mem_flatMap.2 ⟨t, etk ▸ t1, by rw [ht2, hlab, ht2]; simp [Loc.lab]⟩
      | sub l i j => exact t5 l i j ht2 (by rw [hpq])
      | view l => rw [ht2] at t0; cases t0
  · have hrep := n3 π' hD1 (fun j _ hj => hkpi j (by omega))
    obtain ⟨g1, g2, g3, g4⟩ := group_rep s.rshapes _ us' hsh' hrep
    unfold retA at hra
    unfold retV at hret
    split at hra
    · rename_i hm
      rw [if_pos hm] at hret
      simp only [Option.some.injEq] at hra; subst hra
      subst hret
      exact ⟨_, rfl, g3.symm, g4⟩
    · rename_i hm
      rw [if_neg hm] at hret
      split at hra
      · rename_i av1 hga
        simp only [Option.some.injEq] at hra; subst hra
        rcases hret with hret | hret
        · exact g2 0 _ v (by rw [hga]; rfl) (by rw [hret]; rfl)
        · rw [hga, hret] at g1; cases g1
      · simp only [Option.some.injEq] at hra; subst hra; trivial
      · cases hra
end
end Go.Proofs.Ytfghmbpogmcboaa
