/-
  Part 26 of the proof that the statement FnExactIsTableSet holds.
-/
import Derived.Test.YtfghmbpogmcboaaCIsTableSet24
namespace Go.Proofs.Ytfghmbpogmcboaa
open Go.RowKit

section
variable {T : Tab} {Γ : Env}

theorem optW_iff {α : Type} {o : Option α} {K : α → Prop} : optW o K ↔ ∃ x, o = some x ∧ K x := by
  cases o with
  | none => simp [optW]
  | some x => simp [optW]

def WS.OK (w : WS) : Prop := ∀ t b, kget w.kn t = some b → ∃ fr, w.st.get t = .at (.data fr .bool b)

theorem kget_kdrop : ∀ (l : List (Nat × Bool)) (d t : Nat) (b : Bool), kget (kdrop l d) t = some b → t ≠ d ∧ kget l t = some b
  | [], _, _, _, h => by cases h
  | (k, c) :: r, d, t, b, h => by
    simp only [kdrop] at h
    split at h
    · rename_i hk
      have := kget_kdrop r d t b h
      refine ⟨this.1, ?_⟩
      simp only [kget]
      rw [if_neg (by rw [hk]; exact fun h => this.1 h.symm)]
      exact this.2
    · rename_i hk
      simp only [kget] at h ⊢
      split at h
      · rename_i hkt
        exact ⟨by rw [← hkt]; exact hk, by rw [if_pos hkt]; exact h⟩
      · rename_i hkt
        rw [if_neg hkt]
        exact kget_kdrop r d t b h

theorem WS.OK.put {w : WS} (h : w.OK) (dst : Option Tmp) (v : AV) : (w.put dst v).OK := by
  cases dst with
  | none => exact h
  | some d =>
    intro t b hb
    obtain ⟨h1, h2⟩ := kget_kdrop _ _ _ _ hb
    obtain ⟨fr, h3⟩ := h t b h2
    exact ⟨fr, by show (w.st.put (some d) v).get t = _; rw [get_put_ne _ _ h1]; exact h3⟩
theorem WS.put_st (w : WS) (dst : Option Tmp) (v : AV) : (w.put dst v).st = w.st.put dst v := by cases dst <;> rfl
theorem WS.OK.to {w : WS} (h : w.OK) {s : St} (hs : Holds w.st s) : (w.to s).OK := by
  intro t b hb
  obtain ⟨fr, h3⟩ := h t b hb
  exact ⟨fr, hs t fr _ _ h3⟩

theorem brT_sound {w : WS} (hw : w.OK) {t : Nat} {K : Bool → WS → Prop} (h : brT w t K) :
    ∃ fr b w', w.st.get t = .at (.data fr .bool b) ∧ w'.st = w.st ∧ w'.OK ∧ K b w' := by
  unfold brT at h
  split at h
  · rename_i b hb
    obtain ⟨fr, h1⟩ := hw t b hb
    exact ⟨fr, b, w, h1, rfl, hw, h⟩
  · split at h
    · rename_i fr b hb
      obtain ⟨h1, h2⟩ := h
      have ok : ∀ c : Bool, b = c → WS.OK { kn := (t, c) :: w.kn, st := w.st } := by
        intro c hc t' b' h'
        simp only [kget] at h'
        split at h'
        · rename_i ht
          injection h' with h'
          exact ⟨fr, by rw [← ht, ← h', ← hc]; exact hb⟩
        · exact hw t' b' h'
      cases b with
      | true => exact ⟨fr, true, { kn := (t, true) :: w.kn, st := w.st }, hb, rfl, ok true rfl, h1 rfl⟩
      | false => exact ⟨fr, false, { kn := (t, false) :: w.kn, st := w.st }, hb, rfl, ok false rfl, h2 rfl⟩
    · cases h

theorem brO_sound {w : WS} (hw : w.OK) {c : Operand} {K : Bool → WS → Prop} (h : brO w c K) :
    ∃ fr b w', w.st.ev c = .at (.data fr .bool b) ∧ w'.st = w.st ∧ w'.OK ∧ K b w' := by
  unfold brO at h
  split at h
  · exact brT_sound hw h
  · exact ⟨true, _, w, rfl, rfl, hw, h⟩
  · cases h

theorem binW_sound {op : BinOp} {t : TypeId} {x y : AV} {K : AV → Prop} (h : binW T op t x y K) : ∃ v, evalBinT T op t x y = some v ∧ K v := by
  unfold binW at h
  split at h
  · split at h
    · rename_i hk
      exact ⟨_, by simp only [evalBinT, evalBin, intBin]; rw [if_pos hk, if_neg h.1]; rfl, h.2⟩
    · cases h
  · split at h
    · rename_i hk
      exact ⟨_, by simp only [evalBinT, evalBin, intBin]; rw [if_pos hk, if_neg h.1]; rfl, h.2⟩
    · cases h
  · exact ⟨_, by simp only [evalBinT, evalBin]; rw [if_neg h.1]; rfl, h.2⟩
  · exact ⟨_, by simp only [evalBinT, evalBin]; rw [if_neg h.1]; rfl, h.2⟩
  · exact ⟨_, by simp only [evalBinT, evalBin]; rw [if_pos h.1], h.2⟩
  · exact optW_iff.1 h

theorem loadW_sound {st : St} {t : TypeId} {p : AV} {K : AV → Prop} (h : loadW T st t p K) : ∃ v, evalLoad T st t p = some v ∧ K v := by
  unfold loadW at h
  split at h
  · obtain ⟨τ, h1, h2⟩ := optW_iff.1 h
    split at h2
    · rename_i hb
      split at h2
      · rename_i he
        obtain ⟨x, h3, h4⟩ := h2
        exact ⟨_, by simp only [evalLoad, h1, hb, if_pos he, h3]; rfl, h4⟩
      · cases h2
    · rename_i hb
      split at h2
      · rename_i he
        obtain ⟨x, h3, h4⟩ := h2
        exact ⟨_, by simp only [evalLoad, h1, hb, if_pos he, h3]; rfl, h4⟩
      · cases h2
    · cases h2
  · obtain ⟨τ, h1, h2⟩ := optW_iff.1 h
    split at h2
    · rename_i he
      obtain ⟨y, h3, h4⟩ := h2
      subst h3
      exact ⟨_, by simp only [evalLoad, h1, if_pos he], h4⟩
    · cases h2
  · exact optW_iff.1 h

theorem fieldAddrW_sound {s : TypeId} {x : AV} {f : Nat} {K : AV → Prop} (h : fieldAddrW T s x f K) : ∃ v, evalFieldAddr T s x f = some v ∧ K v := by
  unfold fieldAddrW at h
  split at h
  · obtain ⟨y, h1, h2⟩ := h
    subst h1
    obtain ⟨v, h3, h4⟩ := optW_iff.1 h2
    refine ⟨v, ?_, h4⟩
    rw [← h3]
    unfold evalFieldAddr
    cases T.off s f <;> rfl
  · exact optW_iff.1 h

theorem sliceW_sound {st : St} {t : TypeId} {x : AV} {lo hi : Option AV} {K : AV → Prop} (h : sliceW T st t x lo hi K) : ∃ v, evalSlice T st t x lo hi = some v ∧ K v := by
  unfold sliceW at h
  obtain ⟨n, h1, h⟩ := optW_iff.1 h
  obtain ⟨l, h2, h⟩ := optW_iff.1 h
  obtain ⟨hh, h3, hc, h⟩ := optW_iff.1 h
  obtain ⟨v, h4, h5⟩ := optW_iff.1 h
  refine ⟨v, ?_, h5⟩
  simp only [evalSlice, h1, h2, h3, if_pos hc]
  exact h4

theorem indexAddrW_sound {st : St} {t : TypeId} {x i : AV} {K : AV → Prop} (h : indexAddrW T st t x i K) : ∃ v, evalIndexAddr T st t x i = some v ∧ K v := by
  unfold indexAddrW at h
  split at h
  · split at h
    · rename_i he
      obtain ⟨x, h3, h4⟩ := h
      exact ⟨_, by simp only [evalIndexAddr, if_pos he, h3]; rfl, h4⟩
    · cases h
  · split at h
    · rename_i hb
      split at h
      · rename_i he
        obtain ⟨h3, h4⟩ := h
        exact ⟨_, by simp only [evalIndexAddr, hb]; rw [if_pos ⟨he.1, he.2, inb_iff.2 h3⟩], h4⟩
      · cases h
    · rename_i hb
      split at h
      · rename_i he
        obtain ⟨h3, h4⟩ := h
        exact ⟨_, by simp only [evalIndexAddr, hb]; rw [if_pos ⟨he.1, he.2, inb_iff.2 h3⟩], h4⟩
      · cases h
    · cases h
  · cases h

theorem indexW_sound {t : TypeId} {x i : AV} {K : AV → Prop} (h : indexW T t x i K) : ∃ v, evalIndex T t x i = some v ∧ K v := by
  unfold indexW at h
  split at h
  · split at h
    · rename_i he
      obtain ⟨h1, b, h3, h4⟩ := h
      exact ⟨_, by simp only [evalIndex, if_pos he, if_pos h1, h3]; rfl, h4⟩
    · cases h
  · cases h

theorem callW_sound {st : St} {f : FuncId} {args : List AV} {K : AV → Prop} (h : callW Γ st f args K) : ∃ v, evalCall Γ st f args = some v ∧ K v := by
  unfold callW at h
  obtain ⟨s, h1, h⟩ := optW_iff.1 h
  have h1 : Γ f = some (.q s) := by
    split at h1
    · rename_i s' hs; injection h1 with h1; rw [hs, h1]
    · cases h1
  split at h
  · rename_i hf
    obtain ⟨p, h2, y, h3, h4⟩ := optW_iff.1 h
    refine ⟨_, ?_, h4⟩
    simp only [evalCall, h1]
    rw [if_pos hf, h2]
    simp only [h3]
    rfl
  · cases h

theorem callVW_sound {st : St} {v : AV} {args : List AV} {K : AV → Prop} (h : callVW Γ st v args K) : ∃ u, evalCallV Γ st v args = some u ∧ K u := by
  unfold callVW at h
  split at h
  · split at h
    · rename_i hc
      obtain ⟨u, h1, h2⟩ := callW_sound h
      exact ⟨u, by simp only [evalCallV]; rw [if_pos hc]; exact h1, h2⟩
    · cases h
  · exact callW_sound h
  · cases h

/-- What an operation is known to yield, it yields. -/
theorem opdKnows_ev {w : WS} (hw : w.OK) {x : Operand} {b : Bool} (hk : opdKnows w.kn x = some b) : ∃ fr, w.st.ev x = .at (.data fr .bool b) := by
  unfold opdKnows at hk
  split at hk
  · injection hk with hk; subst hk; exact ⟨true, rfl⟩
  · exact hw _ _ hk
  · cases hk
theorem opKnows_evalQ {w : WS} (hw : w.OK) {o : Oper} {b : Bool} (hk : opKnows w.kn o = some b) {v : AV} (he : evalQ T Γ w.st o = some v) : ∃ fr, v = .at (.data fr .bool b) := by
  unfold opKnows at hk
  split at hk
  · rename_i heq; unfold evalQ at he; rw [heq] at he; injection he with he; obtain ⟨fr, h⟩ := opdKnows_ev hw hk; exact ⟨fr, he.symm.trans h⟩
  · rename_i heq; unfold evalQ at he; rw [heq] at he; injection he with he; obtain ⟨fr, h⟩ := opdKnows_ev hw hk; exact ⟨fr, he.symm.trans h⟩
  · rename_i x heq
    cases hx : opdKnows w.kn x with
    | none => rw [hx] at hk; cases hk
    | some c =>
      rw [hx] at hk
      injection hk with hk
      obtain ⟨fr, h⟩ := opdKnows_ev hw hx
      unfold evalQ at he; rw [heq] at he
      simp only [h, evalUn, bBool] at he
      injection he with he
      exact ⟨true, by rw [← he, ← hk]⟩
  · rename_i c x y heq
    unfold evalQ at he; rw [heq] at he
    split at hk
    · rename_i hc
      obtain ⟨fr, h⟩ := opdKnows_ev hw hc
      simp only [h, evalPick, if_true] at he
      injection he with he
      obtain ⟨fr, h⟩ := opdKnows_ev hw hk
      exact ⟨fr, he.symm.trans h⟩
    · rename_i hc
      obtain ⟨fr, h⟩ := opdKnows_ev hw hc
      simp only [h, evalPick, Bool.false_eq_true, if_false] at he
      injection he with he
      obtain ⟨fr, h⟩ := opdKnows_ev hw hk
      exact ⟨fr, he.symm.trans h⟩
    · cases hk
  · cases hk
theorem opKnows_assign {w : WS} (hw : w.OK) {o : Oper} {x : Operand} (ho : o.op = .assign x) {b : Bool} (hk : opKnows w.kn o = some b) {v : AV} {s : St} (he : evalOp T Γ w.st o = some (v, s)) : ∃ fr, v = .at (.data fr .bool b) := by
  unfold opKnows at hk
  rw [ho] at hk
  obtain ⟨fr, h⟩ := opdKnows_ev hw hk
  unfold evalOp at he; rw [ho] at he
  simp only [h] at he
  injection he with he; injection he with he; exact ⟨fr, he.symm⟩

theorem qW_sound {w : WS} (hw : w.OK) {o : Oper} {K : AV → WS → Prop} (h : qW T Γ w o K) :
    ∃ v w', evalQ T Γ w.st o = some v ∧ w'.st = w.st ∧ w'.OK ∧ (∀ b, opKnows w'.kn o = some b → ∃ fr, v = .at (.data fr .bool b)) ∧ K v w' := by
  have fin : (∃ v w', evalQ T Γ w.st o = some v ∧ w'.st = w.st ∧ w'.OK ∧ K v w') → ∃ v w', evalQ T Γ w.st o = some v ∧ w'.st = w.st ∧ w'.OK ∧ (∀ b, opKnows w'.kn o = some b → ∃ fr, v = .at (.data fr .bool b)) ∧ K v w' := by
    rintro ⟨v, w', h1, h2, h3, h4⟩
    exact ⟨v, w', h1, h2, h3, fun b hb => opKnows_evalQ h3 hb (by rw [h2]; exact h1), h4⟩
  refine fin ?_
  unfold qW at h
  split at h
  · rename_i c a b heq
    obtain ⟨fr, t, w', h1, h2, h3, h4⟩ := brO_sound hw h
    cases t with
    | true => exact ⟨_, w', by unfold evalQ; rw [heq]; simp only [h1, evalPick, if_true]; rw [← h2], h2, h3, h4⟩
    | false => exact ⟨_, w', by unfold evalQ; rw [heq]; simp only [h1, evalPick]; rw [← h2]; simp, h2, h3, h4⟩
  · rename_i heq
    obtain ⟨v, h1, h2⟩ := loadW_sound h
    exact ⟨v, w, by unfold evalQ; rw [heq]; exact h1, rfl, hw, h2⟩
  · rename_i heq
    obtain ⟨v, h1, h2⟩ := binW_sound h
    exact ⟨v, w, by unfold evalQ; rw [heq]; exact h1, rfl, hw, h2⟩
  · rename_i heq
    split at h
    · obtain ⟨v, h1, h2⟩ := sliceW_sound h
      exact ⟨v, w, by unfold evalQ; rw [heq]; simpa using h1, rfl, hw, h2⟩
    · cases h
  · rename_i heq
    obtain ⟨v, h1, h2⟩ := indexAddrW_sound h
    exact ⟨v, w, by unfold evalQ; rw [heq]; exact h1, rfl, hw, h2⟩
  · rename_i heq
    obtain ⟨v, h1, h2⟩ := indexW_sound h
    exact ⟨v, w, by unfold evalQ; rw [heq]; exact h1, rfl, hw, h2⟩
  · rename_i heq
    obtain ⟨v, h1, h2⟩ := callW_sound h
    exact ⟨v, w, by unfold evalQ; rw [heq]; exact h1, rfl, hw, h2⟩
  · rename_i heq
    obtain ⟨v, h1, h2⟩ := callVW_sound h
    exact ⟨v, w, by unfold evalQ; rw [heq]; exact h1, rfl, hw, h2⟩
  · rename_i heq
    obtain ⟨v, h1, h2⟩ := fieldAddrW_sound h
    exact ⟨v, w, by unfold evalQ; rw [heq]; exact h1, rfl, hw, h2⟩
  · rename_i x heq
    unfold nilCheckW at h
    split at h
    · rename_i fr τ z hx
      obtain ⟨y, h1, h2⟩ := h
      subst h1
      exact ⟨_, w, by unfold evalQ; rw [heq]; simp only [hx], rfl, hw, h2⟩
    · obtain ⟨v, h1, h2⟩ := optW_iff.1 h
      exact ⟨v, w, h1, rfl, hw, h2⟩
  · obtain ⟨v, h1, h2⟩ := optW_iff.1 h
    exact ⟨v, w, h1, rfl, hw, h2⟩

theorem storeW_sound {st : St} {t : TypeId} {p v : AV} {K : St → Prop} (h : storeW T st t p v K) : ∃ s, evalStore T st t p v = some s ∧ K s := by
  unfold storeW at h
  split at h
  · obtain ⟨τ, h1, h⟩ := optW_iff.1 h
    obtain ⟨q, h2, h⟩ := optW_iff.1 h
    split at h
    · rename_i hb
      obtain ⟨u, h3, h⟩ := optW_iff.1 h
      split at h
      · rename_i hc
        obtain ⟨h4, h5⟩ := h
        obtain ⟨q1, q2⟩ := q
        obtain ⟨u1, u2⟩ := u
        exact ⟨_, by simp only [evalStore, h1, h2, hb, h3]; rw [dif_pos hc, if_pos h4], h5⟩
      · cases h
    · cases h
  · exact optW_iff.1 h

theorem appendW_sound {st : St} {d : Nat} {t : TypeId} {x y : Operand} {K : AV → St → Prop} (h : appendW T st d t x y K) : ∃ v s, evalAppend T st d t x y = some (v, s) ∧ K v s := by
  unfold appendW at h
  obtain ⟨te, h1, h⟩ := optW_iff.1 h
  obtain ⟨e, h2, h⟩ := optW_iff.1 h
  obtain ⟨q, h3, h⟩ := optW_iff.1 h
  obtain ⟨u, h4, h⟩ := optW_iff.1 h
  obtain ⟨q1, q2⟩ := q
  obtain ⟨u1, u2⟩ := u
  split at h
  · rename_i hx
    split at h
    · rename_i hd
      obtain ⟨h5, h6⟩ := h
      refine ⟨_, _, ?_, h6⟩
      simp only [evalAppend, h1, h2, h3, h4]
      rw [hx]
      simp only
      rw [if_pos ⟨h5, by simpa [Nat.blt_eq] using hd⟩]
      simp
    · cases h
  · rename_i l off len hx
    split at h
    · rename_i fr tr e' tid xs hb
      split at h
      · rename_i hc
        obtain ⟨h5, h6, h7, h8⟩ := h
        refine ⟨_, _, ?_, h8⟩
        simp only [evalAppend, h1, h2, h3, h4]
        rw [hx]
        simp only [hb]
        rw [dif_pos ⟨hc.1, hc.2.1⟩, if_pos ⟨h7, by simpa [Nat.blt_eq] using hc.2.2⟩]
        obtain ⟨hc1, hc2, hc3⟩ := hc
        subst hc1
        subst h5
        simp only [List.drop_zero, h6, List.take_length, List.length_append]
      · cases h
    · cases h
  · cases h

theorem makeW_sound {st : St} {d : Nat} {t : TypeId} {l c : AV} {K : AV → St → Prop} (h : makeW T st d t l c K) : ∃ v s, evalMake T st d t l c = some (v, s) ∧ K v s := by
  unfold makeW at h
  split at h
  · obtain ⟨te, h1, h⟩ := optW_iff.1 h
    obtain ⟨e, h2, h⟩ := optW_iff.1 h
    split at h
    · rename_i hz
      obtain ⟨h3, h4, h5⟩ := h
      refine ⟨_, _, ?_, h5⟩
      simp only [Bool.and_eq_true] at hz
      simp only [evalMake, h1, h2]
      rw [if_pos ⟨inb_iff.2 (by exact_mod_cast h3), h4, hz.1, by simpa [Nat.blt_eq] using hz.2⟩]
      simp
    · cases h
  · cases h

theorem takeCW_sound {st : St} {io : Bool} {k : Nat} {c : CK} {a : AC} {K : c.den → List (Nat × Loc) → Prop} (h : takeCW st io k c a K) : ∃ x t, takeC st io k c a = some (x, t) ∧ K x t := by
  cases c with
  | dat τ =>
    cases a with
    | own l off len =>
      obtain ⟨p, h1, h2⟩ := optW_iff.1 h
      exact ⟨_, _, by simp only [takeC]; rw [h1]; rfl, h2⟩
    | clo g caps =>
      simp only [takeCW] at h
      split at h
      · rename_i hc
        obtain ⟨p, h1, h2⟩ := optW_iff.1 h
        exact ⟨_, _, by simp only [takeC]; rw [if_pos hc, h1]; rfl, h2⟩
      · cases h
    | vptr l i =>
      simp only [takeCW] at h
      split at h
      · rename_i hc
        obtain ⟨p, h1, h2⟩ := optW_iff.1 h
        exact ⟨_, _, by simp only [takeC]; rw [if_pos hc, h1]; rfl, h2⟩
      · cases h
    | _ =>
      simp only [takeCW] at h
      split at h
      · rename_i hc
        obtain ⟨p, h1, h2⟩ := optW_iff.1 h
        exact ⟨_, _, by simp only [takeC]; rw [if_pos hc, h1]; rfl, h2⟩
      · cases h
  | row e te =>
    cases a <;> simp only [takeCW] at h <;> first | (cases h; done) | skip
    · exact ⟨_, _, rfl, h⟩
    · split at h
      · rename_i hl
        split at h
        · rename_i hc
          obtain ⟨h1, h2, h3⟩ := h
          exact ⟨_, _, by simp only [takeC, hl]; rw [dif_pos ⟨hc.1, hc.2, h1, h2⟩], h3⟩
        · cases h
      · cases h
    · split at h
      · rename_i hl
        split at h
        · rename_i hc
          obtain ⟨y, h1, h2⟩ := h
          exact ⟨_, _, by simp only [takeC, hl]; rw [dif_pos hc, h1]; rfl, h2⟩
        · cases h
      · cases h
  | xrow e te =>
    cases a <;> simp only [takeCW] at h <;> first | (cases h; done) | skip
    · exact ⟨_, _, rfl, h⟩
    · split at h
      · rename_i hl
        split at h
        · rename_i hc
          obtain ⟨h1, h2, h3⟩ := h
          exact ⟨_, _, by simp only [takeC, hl]; rw [dif_pos ⟨hc.1, hc.2, h1, h2⟩], h3⟩
        · cases h
      · cases h
    · split at h
      · rename_i hl
        split at h
        · rename_i hc
          obtain ⟨y, h1, h2⟩ := h
          exact ⟨_, _, by simp only [takeC, hl]; rw [dif_pos hc, h1]; rfl, h2⟩
        · cases h
      · cases h
  | part e te =>
    cases a <;> simp only [takeCW] at h <;> first | (cases h; done) | skip
    split at h
    · rename_i hl
      split at h
      · rename_i hc
        exact ⟨_, _, by simp only [takeC, hl]; rw [dif_pos hc], h⟩
      · cases h
    · cases h
theorem putPW_sound {st : St} {e : Ty} {ys : List e.den} {a : AC} {K : St → Prop} (h : putPW st e ys a K) : ∃ s, putP st e ys a = some s ∧ K s := by
  cases a <;> simp only [putPW] at h <;> first | (cases h; done) | skip
  split at h
  · rename_i hl
    split at h
    · rename_i hc
      obtain ⟨h1, h3⟩ := h
      exact ⟨_, by simp only [putP, hl]; rw [dif_pos ⟨hc, h1⟩], h3⟩
    · cases h
  · cases h
theorem takeInW_sound {st : St} : ∀ (cs : List (Bool × CK)) (k : Nat) (as : List AC) (K : Ins.den cs → List (Nat × Loc) → Prop), takeInW st k cs as K → ∃ x t, takeIn st k cs as = some (x, t) ∧ K x t
  | [], _, [], _, h => ⟨_, _, rfl, h⟩
  | [], _, _ :: _, _, h => h.elim
  | _ :: _, _, [], _, h => h.elim
  | p :: r, k, a :: as, K, h => by
    obtain ⟨x, t1, h1, h2⟩ := takeCW_sound h
    obtain ⟨y, t2, h3, h4⟩ := takeInW_sound r (k + 1) as _ h2
    exact ⟨_, _, by simp only [takeIn, h1, h3], h4⟩
theorem putCW_sound {st : St} {c : CK} {ys : c.den} {a : AC} {K : St → Prop} (h : putCW st c ys a K) : ∃ s, putC st c ys a = some s ∧ K s := by
  cases c with
  | dat τ => cases a <;> simp only [putCW] at h <;> first | (cases h; done) | exact ⟨_, rfl, h⟩
  | row e te =>
    cases a <;> simp only [putCW] at h <;> first | (cases h; done) | skip
    · exact ⟨_, rfl, h⟩
    · split at h
      · rename_i hl
        split at h
        · rename_i hc
          obtain ⟨h1, h3⟩ := h
          exact ⟨_, by simp only [putC, hl]; rw [dif_pos ⟨hc, h1⟩], h3⟩
        · cases h
      · cases h
    · split at h
      · rename_i hl
        split at h
        · rename_i hc
          obtain ⟨y, h1, h2, h3⟩ := h
          exact ⟨_, by simp only [putC, hl, dif_pos hc, h1]; rw [if_pos h2], h3⟩
        · cases h
      · cases h
  | xrow e te =>
    cases a <;> simp only [putCW] at h <;> first | (cases h; done) | skip
    · exact ⟨_, rfl, h⟩
    · split at h
      · rename_i hl
        split at h
        · rename_i hc
          obtain ⟨h1, h3⟩ := h
          exact ⟨_, by simp only [putC, hl]; rw [dif_pos ⟨hc, h1⟩], h3⟩
        · cases h
      · cases h
    · split at h
      · rename_i hl
        split at h
        · rename_i hc
          obtain ⟨y, h1, h2, h3⟩ := h
          exact ⟨_, by simp only [putC, hl, dif_pos hc, h1]; rw [if_pos h2], h3⟩
        · cases h
      · cases h
  | part e te => cases a <;> simp only [putCW] at h <;> first | (cases h; done) | exact ⟨_, rfl, h⟩
theorem putIOW_sound : ∀ (cs : List (Bool × CK)) (o : IOs.den cs) (as : List AC) (st : St) (K : St → Prop), putIOW cs o as st K → ∃ s, putIO cs o as st = some s ∧ K s
  | [], _, _, st, K, h => ⟨st, rfl, h⟩
  | (true, .dat _) :: r, o, [], st, K, h => h.elim
  | (true, .row _ _) :: r, o, [], st, K, h => h.elim
  | (true, .xrow _ _) :: r, o, [], st, K, h => h.elim
  | (true, .part _ _) :: r, o, [], st, K, h => h.elim
  | (false, _) :: r, o, [], st, K, h => h.elim
  | (true, .dat _) :: r, o, a :: as, st, K, h => by
    obtain ⟨s, h1, h2⟩ := putIOW_sound r o as st K h
    exact ⟨s, by simp only [putIO]; exact h1, h2⟩
  | (false, _) :: r, o, a :: as, st, K, h => by
    obtain ⟨s, h1, h2⟩ := putIOW_sound r o as st K h
    exact ⟨s, by simp only [putIO]; exact h1, h2⟩
  | (true, .row _ _) :: r, o, a :: as, st, K, h => by
    obtain ⟨s1, h1, h2⟩ := putCW_sound h
    obtain ⟨s, h3, h4⟩ := putIOW_sound r o.2 as s1 K h2
    exact ⟨s, by simp only [putIO, h1]; exact h3, h4⟩
  | (true, .part _ _) :: r, o, a :: as, st, K, h => by
    obtain ⟨s1, h1, h2⟩ := putPW_sound h
    obtain ⟨s, h3, h4⟩ := putIOW_sound r o.2 as s1 K h2
    exact ⟨s, by simp only [putIO, h1]; exact h3, h4⟩
  | (true, .xrow _ _) :: r, o, a :: as, st, K, h => by
    obtain ⟨s1, h1, h2⟩ := putCW_sound h
    obtain ⟨s, h3, h4⟩ := putIOW_sound r o.2 as s1 K h2
    exact ⟨s, by simp only [putIO, h1]; exact h3, h4⟩
theorem callMW_sound {st : St} {d : Option Nat} {s : MSpec} {args : List AV} {K : AV → St → Prop} (h : callMW st d s args K) : ∃ v s', evalCallM st d s args = some (v, s') ∧ K v s' := by
  unfold callMW at h
  obtain ⟨as, h1, h⟩ := optW_iff.1 h
  obtain ⟨x, tks, h2, h⟩ := takeInW_sound s.ins 0 as _ h
  split at h
  · rename_i hc
    obtain ⟨⟨r, o⟩, h3, h⟩ := h
    obtain ⟨st1, h4, h⟩ := putIOW_sound s.ins o as st _ h
    obtain ⟨v, h5, h6⟩ := optW_iff.1 h
    refine ⟨v, _, ?_, h6⟩
    unfold evalCallM
    simp only [h1, h2]
    rw [if_pos hc]
    simp only [h3, h4, h5, Option.map_some]
  · cases h

theorem opW_sound {w : WS} (hw : w.OK) {o : Oper} {K : AV → WS → Prop} (h : opW T Γ w o K) :
    ∃ v w', evalOp T Γ w.st o = some (v, w'.st) ∧ w'.OK ∧ (∀ b, opKnows w'.kn o = some b → ∃ fr, v = .at (.data fr .bool b)) ∧ K v w' := by
  have fin : ∀ v s, (∀ b, opKnows w.kn o = some b → ∃ fr, v = .at (.data fr .bool b)) → evalOp T Γ w.st o = some (v, s) → K v (w.to s) → ∃ v w', evalOp T Γ w.st o = some (v, w'.st) ∧ w'.OK ∧ (∀ b, opKnows w'.kn o = some b → ∃ fr, v = .at (.data fr .bool b)) ∧ K v w' :=
    fun v s hk h1 h2 => ⟨v, w.to s, h1, hw.to (evalOp_keeps h1), hk, h2⟩
  have fin2 : (∀ b v s, opKnows w.kn o = some b → evalOp T Γ w.st o = some (v, s) → ∃ fr, v = .at (.data fr .bool b)) → optW (evalOp T Γ w.st o) (fun r => K r.1 (w.to r.2)) → ∃ v w', evalOp T Γ w.st o = some (v, w'.st) ∧ w'.OK ∧ (∀ b, opKnows w'.kn o = some b → ∃ fr, v = .at (.data fr .bool b)) ∧ K v w' := by
    intro hk h
    obtain ⟨r, h1, h2⟩ := optW_iff.1 h
    exact fin r.1 r.2 (fun b hb => hk b _ _ hb h1) h1 h2
  unfold opW at h
  split at h
  · rename_i heq
    obtain ⟨s, h1, h2⟩ := storeW_sound h
    refine fin _ _ (fun b hb => by unfold opKnows at hb; rw [heq] at hb; cases hb) ?_ h2
    unfold evalOp; rw [heq]; simp only [h1]; rfl
  · rename_i heq
    obtain ⟨d, h1, h⟩ := optW_iff.1 h
    obtain ⟨v, s, h2, h3⟩ := makeW_sound h
    refine fin _ _ (fun b hb => by unfold opKnows at hb; rw [heq] at hb; cases hb) ?_ h3
    unfold evalOp; rw [heq]; simp only [h1, h2]
  · rename_i heq
    split at h
    · rename_i hd ha ht
      split at h
      · rename_i htt
        obtain ⟨v, s, h2, h3⟩ := appendW_sound h
        refine fin _ _ (fun b hb => by unfold opKnows at hb; rw [heq] at hb; cases hb) ?_ h3
        unfold evalOp; rw [heq]; simp only [hd, ha, ht, if_pos htt, h2]
      · cases h
    · cases h
  · rename_i heq; exact fin2 (fun b v s hb he => opKnows_assign hw heq hb he) h
  · rename_i heq; exact fin2 (fun b v s hb he => by unfold opKnows at hb; rw [heq] at hb; cases hb) h
  · rename_i heq; exact fin2 (fun b v s hb he => by unfold opKnows at hb; rw [heq] at hb; cases hb) h
  · rename_i heq; exact fin2 (fun b v s hb he => by unfold opKnows at hb; rw [heq] at hb; cases hb) h
  · rename_i heq; exact fin2 (fun b v s hb he => by unfold opKnows at hb; rw [heq] at hb; cases hb) h
  · rename_i heq; exact fin2 (fun b v s hb he => by unfold opKnows at hb; rw [heq] at hb; cases hb) h
  · rename_i heq; exact fin2 (fun b v s hb he => by unfold opKnows at hb; rw [heq] at hb; cases hb) h
  · rename_i heq; exact fin2 (fun b v s hb he => by unfold opKnows at hb; rw [heq] at hb; cases hb) h
  · rename_i heq; exact fin2 (fun b v s hb he => by unfold opKnows at hb; rw [heq] at hb; cases hb) h
  · rename_i heq; exact fin2 (fun b v s hb he => by unfold opKnows at hb; rw [heq] at hb; cases hb) h
  · -- a call
    rename_i f _ _ heq
    split at h
    · rename_i hΓ
      obtain ⟨v, s', h1, h2⟩ := callMW_sound h
      refine fin v s' (fun b hb => by unfold opKnows at hb; rw [heq] at hb; cases hb) ?_ h2
      unfold evalOp; rw [heq]; simp only [hΓ]; exact h1
    · rename_i s hΓ
      split at h
      · rename_i hns
        obtain ⟨st1, hs, h⟩ := optW_iff.1 h
        obtain ⟨v, w', h1, h2, h3, h3', h4⟩ := qW_sound (hw.to (keeps_settleOps _ hs)) h
        refine ⟨v, w', ?_, h3, h3', h4⟩
        have h1 : evalQ T Γ st1 o = some v := h1
        have h2 : w'.st = st1 := h2
        unfold evalOp
        rw [heq]
        simp only [hΓ, hns, hs, h1, h2]
        rfl
      · rename_i hns
        obtain ⟨v, w', h1, h2, h3, h3', h4⟩ := qW_sound hw h
        refine ⟨v, w', ?_, h3, h3', h4⟩
        unfold evalOp
        rw [heq]
        simp only [hΓ, hns, h1, h2]
        rfl
    · rename_i hne1 hne2
      obtain ⟨v, w', h1, h2, h3, h3', h4⟩ := qW_sound hw h
      refine ⟨v, w', ?_, h3, h3', h4⟩
      unfold evalOp
      rw [heq]
      simp only
      rw [h1, h2]; rfl
  · rename_i n1 n2 n3 n4 n5 n6 n7 n8 n9 n10 n11 n12 n13 n14
    obtain ⟨v, w', h1, h2, h3, h3', h4⟩ := qW_sound hw h
    refine ⟨v, w', ?_, h3, h3', h4⟩
    unfold evalOp
    split
    all_goals first
      | (rw [h1, h2]; rfl)
      | (rename_i hq; exact absurd hq (by first | exact n1 _ | exact n2 _ | exact n3 _ | exact n4 _ | exact n5 _ | exact n6 _ | exact n7 _ | exact n8 _ | exact n9 _ | exact n10 _ | exact n11 _ | exact n12 _ | exact n13 _ | exact n14 _))
      | (rename_i hq; exact absurd hq (by first | exact n1 _ _ | exact n2 _ _ | exact n3 _ _ | exact n4 _ _ | exact n5 _ _ | exact n6 _ _ | exact n7 _ _ | exact n8 _ _ | exact n9 _ _ | exact n10 _ _ | exact n11 _ _ | exact n12 _ _ | exact n13 _ _ | exact n14 _ _))
      | (rename_i hq; exact absurd hq (by first | exact n1 _ _ _ | exact n2 _ _ _ | exact n3 _ _ _ | exact n4 _ _ _ | exact n5 _ _ _ | exact n6 _ _ _ | exact n7 _ _ _ | exact n8 _ _ _ | exact n9 _ _ _ | exact n10 _ _ _ | exact n11 _ _ _ | exact n12 _ _ _ | exact n13 _ _ _ | exact n14 _ _ _))
      | (rename_i hq; exact absurd hq (by first | exact n1 _ _ _ _ | exact n2 _ _ _ _ | exact n3 _ _ _ _ | exact n4 _ _ _ _ | exact n5 _ _ _ _ | exact n6 _ _ _ _ | exact n7 _ _ _ _ | exact n8 _ _ _ _ | exact n9 _ _ _ _ | exact n10 _ _ _ _ | exact n11 _ _ _ _ | exact n12 _ _ _ _ | exact n13 _ _ _ _ | exact n14 _ _ _ _))

theorem get_put_same (st : St) (d : Nat) (v : AV) : (st.put (some d) v).get d = v ∨ (st.put (some d) v).get d = .undef := by
  simp only [St.put, St.get]
  rw [setL_getD]
  by_cases h : d < st.tmps.length
  · exact .inl (by rw [if_pos ⟨rfl, h⟩])
  · refine .inr ?_
    rw [if_neg (fun hc => h hc.2), List.getD_eq_getElem?_getD, List.getElem?_eq_none (by omega)]
    rfl
theorem WS.OK.putK {w : WS} (hw : w.OK) (o : Oper) (v : AV) (h : ∀ b, opKnows w.kn o = some b → ∃ fr, v = .at (.data fr .bool b)) : (w.putK o v).OK ∧ (w.putK o v).st = w.st.put o.dst v := by
  unfold WS.putK
  split
  · rename_i d b hd hk
    split
    · rename_i fr c hg
      refine ⟨?_, by rw [hd]⟩
      obtain ⟨fr', hv⟩ := h b hk
      intro t b' hb
      simp only [kget] at hb
      split at hb
      · rename_i ht
        injection hb with hb
        subst ht; subst hb
        refine ⟨fr', ?_⟩
        show (w.st.put (some d) v).get d = _
        cases get_put_same w.st d v with
        | inl h1 => rw [h1, hv]
        | inr h1 => rw [h1] at hg; cases hg
      · exact hw.put (some d) v t b' hb
    · exact ⟨hw.put _ _, by rw [WS.put_st, hd]⟩
  · exact ⟨hw.put _ _, WS.put_st _ _ _⟩

/-- A guarded step, whatever runs in it. -/
theorem stepW_sound {ops : Array Oper} {w : WS} (hw : w.OK) {o : Oper} {run : (AV → WS → Prop) → WS → Prop} {R : St → Option (AV × St)} {K : WS → Prop}
    (hr : ∀ (k : AV → WS → Prop) (w : WS), w.OK → run k w → ∃ v w', R w.st = some (v, w'.st) ∧ w'.OK ∧ (∀ b, opKnows w'.kn o = some b → ∃ fr, v = .at (.data fr .bool b)) ∧ k v w') (h : stepW ops w o run K) :
    ∃ w', (match o.guard with
      | none => (R w.st).map fun r => r.2.put o.dst r.1
      | some (j, want) => match boolAt w.st ((ops[j]?).bind (·.dst)) with
        | some (some b) => if b == want then (R w.st).map fun r => r.2.put o.dst r.1 else some (w.st.put o.dst (.at .skip))
        | some none => some (w.st.put o.dst (.at .skip))
        | none => none) = some w'.st ∧ w'.OK ∧ K w' := by
  have go : ∀ w : WS, w.OK → run (fun v w' => K (w'.putK o v)) w → ∃ w', ((R w.st).map fun r => r.2.put o.dst r.1) = some w'.st ∧ w'.OK ∧ K w' := by
    intro w hw h
    obtain ⟨v, w', h1, h2, h3, h4⟩ := hr _ _ hw h
    obtain ⟨h5, h6⟩ := h2.putK o v h3
    exact ⟨w'.putK o v, by rw [h1, h6]; rfl, h5, h4⟩
  unfold stepW at h
  split at h
  · rename_i hg
    rw [hg]
    exact go w hw h
  · rename_i j want hg
    rw [hg]
    obtain ⟨t, h1, h⟩ := optW_iff.1 h
    simp only [h1]
    split at h
    · rename_i hs
      have hsk : w.st.get t = .at .skip := by
        unfold AV.isSkip at hs
        split at hs
        · assumption
        · cases hs
      exact ⟨_, by simp only [boolAt, hsk]; rw [WS.put_st], hw.put _ _, h⟩
    · obtain ⟨fr, b, w', h2, h3, h4, h5⟩ := brT_sound hw h
      have hb : boolAt w.st (some t) = some (some b) := by simp only [boolAt, h2]
      rw [hb]
      simp only
      cases b with
      | true =>
        cases want with
        | true => rw [if_pos (by decide), ← h3]; exact go w' h4 h5
        | false => exact ⟨_, by rw [if_neg (by decide), ← h3, WS.put_st], h4.put _ _, h5⟩
      | false =>
        cases want with
        | false => rw [if_pos (by decide), ← h3]; exact go w' h4 h5
        | true => exact ⟨_, by rw [if_neg (by decide), ← h3, WS.put_st], h4.put _ _, h5⟩

theorem stepW_op {ops : Array Oper} {w : WS} (hw : w.OK) {o : Oper} {K : WS → Prop} (h : stepW ops w o (fun k w' => opW T Γ w' o k) K) : ∃ w', evalStep T Γ ops w.st o = some w'.st ∧ w'.OK ∧ K w' := by
  obtain ⟨w', h1, h2⟩ := stepW_sound hw (R := fun st => evalOp T Γ st o) (fun k w hw h => by
    obtain ⟨v, w', h1, h2, h2', h3⟩ := opW_sound hw h
    exact ⟨v, w', h1, h2, h2', h3⟩) h
  exact ⟨w', h1, h2⟩
theorem bW_sound {w : WS} (hw : w.OK) {o : Oper} {K : AV → WS → Prop} (h : bW T Γ w o K) :
    ∃ v w', evalB T Γ w.st o = some v ∧ w'.st = w.st ∧ w'.OK ∧ (∀ b, opKnows w'.kn o = some b → ∃ fr, v = .at (.data fr .bool b)) ∧ K v w' := by
  unfold bW at h
  split at h
  · rename_i t len parts hop
    obtain ⟨v, h1, h2⟩ := optW_iff.1 h
    exact ⟨v, w, by unfold evalB; rw [hop]; exact h1, rfl, hw, fun b hb => by simp [opKnows, hop] at hb, h2⟩
  · rename_i t parts hop
    obtain ⟨v, h1, h2⟩ := optW_iff.1 h
    exact ⟨v, w, by unfold evalB; rw [hop]; exact h1, rfl, hw, fun b hb => by simp [opKnows, hop] at hb, h2⟩
  · rename_i n1 n2
    obtain ⟨v, w', h1, h2⟩ := qW_sound hw h
    refine ⟨v, w', ?_, h2⟩
    rw [← h1]
    unfold evalB
    split
    · rename_i h9; exact absurd h9 (n1 _ _ _)
    · rename_i h9; exact absurd h9 (n2 _ _)
    · rfl
theorem stepW_q {ops : Array Oper} {w : WS} (hw : w.OK) {o : Oper} {K : WS → Prop} (h : stepW ops w o (fun k w' => bW T Γ w' o k) K) : ∃ v w', valQ T Γ ops w.st o = some v ∧ w'.st = w.st.put o.dst v ∧ w'.OK ∧ K w' := by
  obtain ⟨w', h1, h2, h3⟩ := stepW_sound hw (R := fun st => (evalB T Γ st o).map fun v => (v, st)) (fun k w hw h => by
    obtain ⟨v, w', h1, h2, h3, h3', h4⟩ := bW_sound hw h
    exact ⟨v, w', by simp only [h1, h2]; rfl, h3, h3', h4⟩) h
  have key : ∀ u : Option AV, ((u.map fun v => (v, w.st)).map fun r => r.2.put o.dst r.1) = some w'.st → ∃ v, u = some v ∧ w'.st = w.st.put o.dst v := by
    intro u hu
    cases u with
    | none => cases hu
    | some v => injection hu with hu; exact ⟨v, rfl, hu.symm⟩
  unfold valQ
  split at h1
  · rename_i hg
    obtain ⟨v, h4, h5⟩ := key _ h1
    exact ⟨v, w', by rw [hg]; exact h4, h5, h2, h3⟩
  · rename_i j want hg
    rw [hg]
    split at h1
    · rename_i b hb
      simp only [hb]
      split at h1
      · rename_i hbw
        obtain ⟨v, h4, h5⟩ := key _ h1
        exact ⟨v, w', by rw [if_pos hbw]; exact h4, h5, h2, h3⟩
      · rename_i hbw
        injection h1 with h1
        exact ⟨_, w', by rw [if_neg hbw], h1.symm, h2, h3⟩
    · rename_i hb
      simp only [hb]
      injection h1 with h1
      exact ⟨_, w', rfl, h1.symm, h2, h3⟩
    · cases h1

theorem opsW_sound {ops : Array Oper} : ∀ (l : List Oper) {w : WS} (_ : w.OK) {K : WS → Prop}, opsW T Γ ops l w K → ∃ w', evalOps T Γ ops l w.st = some w'.st ∧ w'.OK ∧ K w'
  | [], w, hw, K, h => ⟨w, rfl, hw, h⟩
  | o :: r, w, hw, K, h => by
    obtain ⟨w1, h1, h2, h3⟩ := stepW_op hw h
    obtain ⟨w2, h4, h5⟩ := opsW_sound r h2 h3
    exact ⟨w2, by simp only [evalOps]; rw [h1]; exact h4, h5⟩
theorem idxW_sound {ops : Array Oper} : ∀ (l : List Nat) {w : WS} (_ : w.OK) {K : WS → Prop}, idxW T Γ ops l w K → ∃ w', evalIdx T Γ ops l w.st = some w'.st ∧ w'.OK ∧ K w'
  | [], w, hw, K, h => ⟨w, rfl, hw, h⟩
  | i :: r, w, hw, K, h => by
    obtain ⟨o, h0, h⟩ := optW_iff.1 h
    obtain ⟨w1, h1, h2, h3⟩ := stepW_op hw h
    obtain ⟨w2, h4, h5⟩ := idxW_sound r h2 h3
    exact ⟨w2, by simp only [evalIdx]; rw [h0]; simp only [h1]; exact h4, h5⟩
theorem headW_sound {ops : Array Oper} : ∀ (l : List Nat) {w : WS} (_ : w.OK) {K : WS → Prop}, headW T Γ ops l w K → ∃ w', evalOpsQ T Γ ops l w.st = some w'.st ∧ w'.OK ∧ K w'
  | [], w, hw, K, h => ⟨w, rfl, hw, h⟩
  | i :: r, w, hw, K, h => by
    obtain ⟨o, h0, h⟩ := optW_iff.1 h
    obtain ⟨v, w1, h1, h1', h2, h3⟩ := stepW_q hw h
    obtain ⟨w2, h4, h5⟩ := headW_sound r h2 h3
    exact ⟨w2, by simp only [evalOpsQ]; rw [h0]; simp only [h1]; rw [← h1']; exact h4, h5⟩

theorem allW_iff {P : Nat → Prop} : ∀ (l : List Nat), allW l P → ∀ i ∈ l, P i
  | [], _, i, hi => by cases hi
  | [k], h, i, hi => by rw [List.mem_singleton.1 hi]; exact h
  | k :: j :: r, h, i, hi => by
    rcases List.mem_cons.1 hi with rfl | hi
    · exact h.1
    · exact allW_iff (j :: r) h.2 i hi
theorem anyW_sound {ops : Array Oper} {K : WS → Prop} : ∀ (f : Nat) (listed : Array Bool) {w : WS} (_ : w.OK), anyW T Γ ops f listed w K → anyS T Γ ops (fun s => ∃ w' : WS, w'.st = s ∧ w'.OK ∧ K w') f listed w.st
  | 0, listed, w, hw, h => by
    unfold anyW at h
    split at h
    · rename_i hr; exact ⟨hr, w, rfl, hw, h⟩
    · cases h
  | f + 1, listed, w, hw, h => by
    unfold anyW at h
    split at h
    · cases h
    · rename_i i r hr
      refine ⟨by rw [hr]; simp, fun k hk => ?_⟩
      rw [hr] at hk
      obtain ⟨o, h0, h1⟩ := optW_iff.1 (allW_iff _ h k hk)
      obtain ⟨w1, h2, h3, h4⟩ := stepW_op hw h1
      exact ⟨o, w1.st, h0, h2, anyW_sound f _ h3 h4⟩
theorem regionW_sound {ops : Array Oper} {draw : Bool} {w : WS} (hw : w.OK) {K : WS → Prop} (h : regionW T Γ ops draw w K) : RegR T Γ ops draw w.st (fun s => ∃ w' : WS, w'.st = s ∧ w'.OK ∧ K w') := by
  unfold regionW at h
  split at h
  · split at h
    · rename_i ho
      obtain ⟨w1, h1, h2, h3⟩ := headW_sound _ hw h
      obtain ⟨w2, h4, h5⟩ := idxW_sound _ h2 h3
      exact .inl ⟨w2.st, by simp only [evalRegion, if_true]; rw [if_pos ho, h1]; exact h4, w2, rfl, h5⟩
    · rename_i ho
      split at h
      · rename_i ho2
        obtain ⟨w1, h1, h2, h3⟩ := headW_sound _ hw h
        obtain ⟨w2, h4, h5⟩ := idxW_sound _ h2 h3
        exact .inl ⟨w2.st, by simp only [evalRegion, if_true]; rw [if_neg (by rw [ho]; decide), if_pos ho2, h1]; exact h4, w2, rfl, h5⟩
      · split at h
        · rename_i hc
          simp only [Bool.and_eq_true] at hc
          obtain ⟨w1, h1, h2, h3⟩ := headW_sound _ hw h
          exact .inr ⟨rfl, hc.1, w1.st, h1, anyW_sound _ _ h2 h3⟩
        · cases h
  · obtain ⟨w1, h1, h2⟩ := opsW_sound _ hw h
    exact .inl ⟨w1.st, by simp only [evalRegion]; rw [if_neg (by simp)]; exact h1, w1, rfl, h2⟩
end
end Go.Proofs.Ytfghmbpogmcboaa
