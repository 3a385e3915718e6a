/-
  Part 27 of the proof that the statement FnExactIsTableSet holds.
-/
import Derived.Test.YtfghmbpogmcboaaCIsTableSet25
namespace Go.Proofs.Ytfghmbpogmcboaa
open Go.RowKit

def erAC : AC → AC
  | .own l _ _ => .own l 0 0
  | c => c

theorem acRead_fill : ∀ (c d : AC) {R : Type} (r : R) (v : acV c R), acRead c d r = some v → erAC (acFill c v).1 = erAC d ∧ (acFill c v).2 = r := by
  intro c d R r v h
  cases c <;> cases d <;> simp only [acRead] at h <;> first | (cases h; first | done | exact ⟨rfl, rfl⟩) | skip
  · split at h
    · rename_i hc
      obtain ⟨h1, h2⟩ := hc
      subst h1; subst h2
      injection h with h; subst h; exact ⟨rfl, rfl⟩
    · cases h
  · split at h
    · rename_i hc; subst hc
      injection h with h; subst h; exact ⟨rfl, rfl⟩
    · cases h
  · split at h
    · rename_i hc; obtain ⟨h1, h2⟩ := hc; subst h1; subst h2
      injection h with h; subst h; exact ⟨rfl, rfl⟩
    · cases h
  · split at h
    · rename_i hc; obtain ⟨h1, h2⟩ := hc; subst h1; subst h2
      injection h with h; subst h; exact ⟨rfl, rfl⟩
    · cases h
  · split at h
    · rename_i hc; obtain ⟨h1, h2⟩ := hc; subst h1; subst h2
      injection h with h; subst h; exact ⟨rfl, rfl⟩
    · cases h
  · split at h
    · rename_i hc; subst hc
      injection h with h; subst h; exact ⟨rfl, rfl⟩
    · cases h
  · split at h
    · rename_i hc; obtain ⟨h1, h2, h3⟩ := hc; subst h1; subst h2; subst h3
      injection h with h; subst h; exact ⟨rfl, rfl⟩
    · cases h
theorem acsRead_fill : ∀ (l m : List AC) {R : Type} (r : R) (v : acsV l R), acsRead l m r = some v → (acsFill l v).1.map erAC = m.map erAC ∧ (acsFill l v).2 = r
  | [], [], R, r, v, h => by simp only [acsRead] at h; injection h with h; subst h; exact ⟨rfl, rfl⟩
  | [], _ :: _, R, r, v, h => by simp [acsRead] at h
  | _ :: _, [], R, r, v, h => by simp [acsRead] at h
  | c :: l, d :: m, R, r, v, h => by
    simp only [acsRead] at h
    cases hr : acsRead l m r with
    | none => rw [hr] at h; cases h
    | some r' =>
      rw [hr] at h
      obtain ⟨h1, h2⟩ := acRead_fill c d r' v h
      obtain ⟨h3, h4⟩ := acsRead_fill l m r r' hr
      simp only [acsFill, List.map_cons]
      rw [h1, h2, h3]
      exact ⟨rfl, h4⟩
theorem avRead_fill : ∀ (c d : AV) {R : Type} (r : R) (v : avV c R), avRead c d r = some v → (avFill c v).1.map erAC = d.map erAC ∧ (avFill c v).2 = r
  | .at a, .at b, R, r, v, h => by
    obtain ⟨h1, h2⟩ := acRead_fill a b r v h
    exact ⟨by show AV.at _ = AV.at _; rw [h1], h2⟩
  | .agg cs, .agg ds, R, r, v, h => by
    obtain ⟨h1, h2⟩ := acsRead_fill cs ds r v h
    exact ⟨by show AV.agg _ = AV.agg _; rw [h1], h2⟩
  | .tup fr τ y, .tup fr' τ' x, R, r, v, h => by
    by_cases hc : τ' = τ ∧ fr' = fr
    · obtain ⟨h1, h2⟩ := hc
      subst h1; subst h2
      have h3 : some ((x, r) : τ'.den × R) = some v := by
        have : avRead (.tup fr' τ' y) (.tup fr' τ' x) r = some ((x, r) : τ'.den × R) := dif_pos ⟨rfl, rfl⟩
        exact this.symm.trans h
      injection h3 with h3
      subst h3; exact ⟨rfl, rfl⟩
    · have h3 : avRead (.tup fr τ y) (.tup fr' τ' x) r = none := dif_neg hc
      rw [h3] at h; cases h
  | .at _, .agg _, _, _, _, h => nomatch (show none = some _ from h)
  | .at _, .tup _ _ _, _, _, _, h => nomatch (show none = some _ from h)
  | .agg _, .at _, _, _, _, h => nomatch (show none = some _ from h)
  | .agg _, .tup _ _ _, _, _, _, h => nomatch (show none = some _ from h)
  | .tup _ _ _, .at _, _, _, _, h => nomatch (show none = some _ from h)
  | .tup _ _ _, .agg _, _, _, _, h => nomatch (show none = some _ from h)
  | .tupc _, .at _, _, _, _, h => nomatch (show none = some _ from h)
  | .tupc _, .agg _, _, _, _, h => nomatch (show none = some _ from h)
  | .tupc _, .tup _ _ _, _, _, _, h => nomatch (show none = some _ from h)
  | .tupc _, .tupc _, _, _, _, h => nomatch (show none = some _ from h)
  | .at _, .tupc _, _, _, _, h => nomatch (show none = some _ from h)
  | .agg _, .tupc _, _, _, _, h => nomatch (show none = some _ from h)
  | .tup _ _ _, .tupc _, _, _, _, h => nomatch (show none = some _ from h)
theorem obRead_fill : ∀ (c d : OB) {R : Type} (r : R) (v : obV c R), obRead c d r = some v → (obFill c v).1.map erAC = d.map erAC ∧ (obFill c v).2 = r
  | .arr fr tr e tid ys, .arr fr' tr' e' tid' xs, R, r, v, h => by
    by_cases hc : e' = e ∧ fr' = fr ∧ tr' = tr ∧ tid' = tid
    · obtain ⟨h1, h2, h3, h4⟩ := hc
      subst h1; subst h2; subst h3; subst h4
      have h3 : some ((xs, r) : List e'.den × R) = some v := by
        have : obRead (.arr fr' tr' e' tid' ys) (.arr fr' tr' e' tid' xs) r = some ((xs, r) : List e'.den × R) := dif_pos ⟨rfl, rfl, rfl, rfl⟩
        exact this.symm.trans h
      injection h3 with h3
      subst h3; exact ⟨rfl, rfl⟩
    · have h3 : obRead (.arr fr tr e tid ys) (.arr fr' tr' e' tid' xs) r = none := dif_neg hc
      rw [h3] at h; cases h
  | .xarr e tid ys, .xarr e' tid' xs, R, r, v, h => by
    by_cases hc : e' = e ∧ tid' = tid
    · obtain ⟨h1, h4⟩ := hc
      subst h1; subst h4
      have h3 : some ((xs, r) : List e'.den × R) = some v := by
        have : obRead (.xarr e' tid' ys) (.xarr e' tid' xs) r = some ((xs, r) : List e'.den × R) := dif_pos ⟨rfl, rfl⟩
        exact this.symm.trans h
      injection h3 with h3
      subst h3; exact ⟨rfl, rfl⟩
    · have h3 : obRead (.xarr e tid ys) (.xarr e' tid' xs) r = none := dif_neg hc
      rw [h3] at h; cases h
  | .smp vt m, .smp vt' m', R, r, v, h => by
    by_cases hc : vt' = vt
    · subst hc
      have h3 : some ((m', r) : (ByteArray → Option vt'.den) × R) = some v := by
        have : obRead (.smp vt' m) (.smp vt' m') r = some ((m', r) : (ByteArray → Option vt'.den) × R) := dif_pos rfl
        exact this.symm.trans h
      injection h3 with h3
      subst h3; exact ⟨rfl, rfl⟩
    · have h3 : obRead (.smp vt m) (.smp vt' m') r = none := dif_neg hc
      rw [h3] at h; cases h
  | .var t vs, .var t' us, R, r, v, h => by
    by_cases hc : t' = t
    · subst hc
      have h0 : obRead (.var t' vs) (.var t' us) r = acsRead vs us r := if_pos rfl
      rw [h0] at h
      obtain ⟨h1, h2⟩ := acsRead_fill vs us r v h
      exact ⟨by show OB.var _ _ = OB.var _ _; rw [h1], h2⟩
    · have h3 : obRead (.var t vs) (.var t' us) r = none := if_neg hc
      rw [h3] at h; cases h
  | .arr _ _ _ _ _, .var _ _, _, _, _, h => nomatch (show none = some _ from h)
  | .arr _ _ _ _ _, .xarr _ _ _, _, _, _, h => nomatch (show none = some _ from h)
  | .arr _ _ _ _ _, .smp _ _, _, _, _, h => nomatch (show none = some _ from h)
  | .xarr _ _ _, .var _ _, _, _, _, h => nomatch (show none = some _ from h)
  | .xarr _ _ _, .arr _ _ _ _ _, _, _, _, h => nomatch (show none = some _ from h)
  | .xarr _ _ _, .smp _ _, _, _, _, h => nomatch (show none = some _ from h)
  | .smp _ _, .var _ _, _, _, _, h => nomatch (show none = some _ from h)
  | .smp _ _, .arr _ _ _ _ _, _, _, _, h => nomatch (show none = some _ from h)
  | .smp _ _, .xarr _ _ _, _, _, _, h => nomatch (show none = some _ from h)
  | .var _ _, .arr _ _ _ _ _, _, _, _, h => nomatch (show none = some _ from h)
  | .var _ _, .xarr _ _ _, _, _, _, h => nomatch (show none = some _ from h)
  | .var _ _, .smp _ _, _, _, _, h => nomatch (show none = some _ from h)
theorem tmpsRead_fill : ∀ (l m : List AV) {R : Type} (r : R) (v : tmpsV l R), tmpsRead l m r = some v → (tmpsFill l v).1.map (·.map erAC) = m.map (·.map erAC) ∧ (tmpsFill l v).2 = r
  | [], [], R, r, v, h => by simp only [tmpsRead] at h; injection h with h; subst h; exact ⟨rfl, rfl⟩
  | [], _ :: _, R, r, v, h => by simp [tmpsRead] at h
  | _ :: _, [], R, r, v, h => by simp [tmpsRead] at h
  | c :: l, d :: m, R, r, v, h => by
    simp only [tmpsRead] at h
    cases hr : tmpsRead l m r with
    | none => rw [hr] at h; cases h
    | some r' =>
      rw [hr] at h
      obtain ⟨h1, h2⟩ := avRead_fill c d r' v h
      obtain ⟨h3, h4⟩ := tmpsRead_fill l m r r' hr
      simp only [tmpsFill, List.map_cons]
      rw [h1, h2, h3]
      exact ⟨rfl, h4⟩
theorem heapRead_fill : ∀ (l m : List (Nat × OB)) {R : Type} (r : R) (v : heapV l R), heapRead l m r = some v → (heapFill l v).1.map (fun p => (p.1, p.2.map erAC)) = m.map (fun p => (p.1, p.2.map erAC)) ∧ (heapFill l v).2 = r
  | [], [], R, r, v, h => by simp only [heapRead] at h; injection h with h; subst h; exact ⟨rfl, rfl⟩
  | [], _ :: _, R, r, v, h => by simp [heapRead] at h
  | _ :: _, [], R, r, v, h => by simp [heapRead] at h
  | c :: l, d :: m, R, r, v, h => by
    simp only [heapRead] at h
    split at h
    · rename_i hk
      cases hr : heapRead l m r with
      | none => rw [hr] at h; cases h
      | some r' =>
        rw [hr] at h
        obtain ⟨h1, h2⟩ := obRead_fill c.2 d.2 r' v h
        obtain ⟨h3, h4⟩ := heapRead_fill l m r r' hr
        simp only [heapFill, List.map_cons]
        rw [h1, h2, h3, hk]
        exact ⟨rfl, h4⟩
    · cases h
theorem stRead_fill {s t : St} {v : stV s} (h : stRead s t = some v) : (stFill s v).mapAC erAC = t.mapAC erAC := by
  unfold stRead at h
  cases hr : heapRead s.heap t.heap () with
  | none => rw [hr] at h; cases h
  | some r =>
    rw [hr] at h
    obtain ⟨h1, h2⟩ := tmpsRead_fill s.tmps t.tmps r v h
    obtain ⟨h3, _⟩ := heapRead_fill s.heap t.heap () r hr
    simp only [stFill, St.mapAC]
    rw [h1, h2, h3]

theorem acRead_self : ∀ (c : AC) {R : Type} (r : R), acRead c c r = some (acGet c r) := by
  intro c R r
  cases c <;> simp [acRead, acGet]
theorem acsRead_self : ∀ (l : List AC) {R : Type} (r : R), acsRead l l r = some (acsGet l r)
  | [], _, _ => rfl
  | c :: l, _, r => by simp only [acsRead, acsRead_self l r, acsGet]; exact acRead_self c _
def AV.noTup : AV → Bool
  | .tupc _ => false
  | _ => true
theorem avRead_self : ∀ (c : AV), c.noTup = true → ∀ {R : Type} (r : R), avRead c c r = some (avGet c r) := by
  intro c hn R r
  cases c with
  | tupc l => cases hn
  | «at» a => exact acRead_self a r
  | agg cs => exact acsRead_self cs r
  | tup fr τ x => exact dif_pos ⟨rfl, rfl⟩
theorem obRead_self : ∀ (c : OB) {R : Type} (r : R), obRead c c r = some (obGet c r) := by
  intro c R r
  cases c with
  | arr fr tr e t xs => exact dif_pos ⟨rfl, rfl, rfl, rfl⟩
  | xarr e t xs => exact dif_pos ⟨rfl, rfl⟩
  | smp v m => exact dif_pos rfl
  | var t vs =>
    have h0 : obRead (.var t vs) (.var t vs) r = acsRead vs vs r := if_pos rfl
    exact h0.trans (acsRead_self vs r)
theorem tmpsRead_self : ∀ (l : List AV), (∀ c ∈ l, c.noTup = true) → ∀ {R : Type} (r : R), tmpsRead l l r = some (tmpsGet l r)
  | [], _, _, _ => rfl
  | c :: l, h, _, r => by simp only [tmpsRead, tmpsRead_self l (fun c hc => h c (List.mem_cons_of_mem _ hc)) r, tmpsGet]; exact avRead_self c (h c (by simp)) _
theorem heapRead_self : ∀ (l : List (Nat × OB)) {R : Type} (r : R), heapRead l l r = some (heapGet l r)
  | [], _, _ => rfl
  | c :: l, _, r => by simp only [heapRead, if_true, heapRead_self l r, heapGet]; exact obRead_self c.2 _
theorem stRead_self (s : St) (h : ∀ c ∈ s.tmps, c.noTup = true) : stRead s s = some (stGet s) := by
  simp only [stRead, heapRead_self, stGet]
  exact tmpsRead_self _ h _
theorem tmpsWhole_noTup {B : List (Nat × Nat × Nat)} {H : List (Nat × OB)} : ∀ {l : List AV} {K : Prop}, tmpsWhole B H l K → ∀ c ∈ l, c.noTup = true
  | [], _, _, c, hc => by cases hc
  | d :: l, K, h, c, hc => by
    simp only [tmpsWhole] at h
    cases d with
    | tupc l' => exact h.elim
    | «at» a =>
      rcases List.mem_cons.1 hc with rfl | hc
      · rfl
      · have h' : tmpsWhole B H l K := by
          cases a with
          | own k o n => exact h.2.2
          | _ => exact h
        exact tmpsWhole_noTup h' c hc
    | tup _ _ _ =>
      rcases List.mem_cons.1 hc with rfl | hc
      · rfl
      · exact tmpsWhole_noTup h c hc
    | agg cs =>
      rcases List.mem_cons.1 hc with rfl | hc
      · rfl
      · have : ∀ (cs : List AC) (Q : Prop), acsWhole B H cs Q → Q := by
          intro cs
          induction cs with
          | nil => exact fun Q h => h
          | cons a cs ih =>
            intro Q h
            have h2 : acsWhole B H cs Q := by
              cases a with
              | own k o n => exact h.2.2
              | _ => exact h
            exact ih Q h2
        exact tmpsWhole_noTup (this cs _ h) c hc
theorem mask_noTup : ∀ (f : List Bool) (l : List AV), (∀ c ∈ l, c.noTup = true) → ∀ c ∈ maskL f l, c.noTup = true
  | [], l, h => by simpa [maskL] using h
  | true :: f, [], h => by simp [maskL] at h ⊢
  | false :: f, [], h => by simp [maskL] at h ⊢
  | true :: f, a :: l, h => by
    intro c hc
    simp only [maskL, List.mem_cons] at hc
    rcases hc with rfl | hc
    · rfl
    · exact mask_noTup f l (fun c hc => h c (List.mem_cons_of_mem _ hc)) c hc
  | false :: f, a :: l, h => by
    intro c hc
    simp only [maskL, List.mem_cons] at hc
    rcases hc with rfl | hc
    · exact h c (by simp)
    · exact mask_noTup f l (fun c hc => h c (List.mem_cons_of_mem _ hc)) c hc

theorem lenOf_map (f : AC → AC) (H : List (Nat × OB)) (l : Nat) : lenOf (H.map fun p => (p.1, p.2.map f)) l = lenOf H l := by
  unfold lenOf
  rw [hget_map]
  cases hget H l with
  | none => rfl
  | some b => cases b <;> rfl
theorem av_map_map (f g : AC → AC) (c : AV) : (c.map f).map g = c.map fun a => g (f a) := by
  cases c <;> simp [AV.map]
theorem ob_map_map (f g : AC → AC) (c : OB) : (c.map f).map g = c.map fun a => g (f a) := by
  cases c <;> simp [OB.map]
theorem mapAC_mapAC (s : St) (f g : AC → AC) : (s.mapAC f).mapAC g = s.mapAC fun a => g (f a) := by
  simp [St.mapAC, List.map_map, Function.comp_def, av_map_map, ob_map_map]
theorem lenB_map (f : AC → AC) (H : List (Nat × OB)) (l : Nat) : ∀ (B : List (Nat × Nat × Nat)), lenB B (H.map fun p => (p.1, p.2.map f)) l = lenB B H l
  | [] => lenOf_map f H l
  | (k, o, n) :: r => by simp only [lenB]; rw [lenB_map f H l r]
theorem whole_er (B : List (Nat × Nat × Nat)) (s : St) : (s.mapAC erAC).whole B = s.whole B := by
  unfold St.whole
  rw [mapAC_mapAC]
  congr 1
  funext a
  cases a with
  | own l off len => simp only [erAC, wholeAC, St.mapAC, lenB_map]
  | _ => rfl
theorem whole_congr {B : List (Nat × Nat × Nat)} {s t : St} (h : s.mapAC erAC = t.mapAC erAC) : s.whole B = t.whole B := by rw [← whole_er B s, h, whole_er]

theorem overL_map (f : AC → AC) : ∀ (fx : List Bool) (a b : List AV), (overL fx a b).map (·.map f) = overL fx (a.map (·.map f)) (b.map (·.map f))
  | [], _, _ => by simp [overL]
  | _ :: _, [], _ => by simp [overL]
  | true :: _, _ :: _, [] => by simp [overL]
  | false :: _, _ :: _, [] => by simp [overL]
  | true :: fx, x :: a, y :: b => by simp only [overL, List.map_cons, overL_map f fx a b]
  | false :: fx, x :: a, y :: b => by simp only [overL, List.map_cons, overL_map f fx a b]
theorem over_mapAC (f : AC → AC) (fx : List Bool) (a b : St) : (St.over fx a b).mapAC f = St.over fx (a.mapAC f) (b.mapAC f) := by
  simp only [St.over, St.mapAC, overL_map]

theorem overL_mask (p : Nat → Bool) : ∀ (i : Nat) (l0 l1 : List AV), (∀ t, (l0.getD t .undef).isData = true → p (i + t) = true → l1.getD t .undef = l0.getD t .undef) →
    overL (fixedL p i l0) l0 (maskL (fixedL p i l0) l1) = l1
  | _, [], l1, _ => by simp [fixedL, maskL, overL]
  | i, a :: r, [], _ => by
    simp only [fixedL]
    cases (a.isData && p i) <;> simp [maskL, overL]
  | i, a :: r, b :: s, h => by
    have hr := overL_mask p (i + 1) r s fun t h1 h2 => by
      have := h (t + 1) (by simpa using h1) (by rw [show i + (t + 1) = i + 1 + t by omega]; exact h2)
      simpa using this
    simp only [fixedL]
    cases hc : (a.isData && p i) with
    | false => simp only [maskL, overL]; rw [hr]
    | true =>
      simp only [maskL, overL]
      rw [hr]
      simp only [Bool.and_eq_true] at hc
      have := h 0 (by simpa using hc.1) hc.2
      simp only [List.getD_cons_zero] at this
      rw [this]
theorem maskL_length : ∀ (f : List Bool) (l : List AV), (maskL f l).length = l.length
  | [], l => by simp [maskL]
  | true :: f, [] => by simp [maskL]
  | false :: f, [] => by simp [maskL]
  | true :: f, a :: l => by simp [maskL, maskL_length f l]
  | false :: f, a :: l => by simp [maskL, maskL_length f l]
theorem tmpsFill_length : ∀ (l : List AV) {R : Type} (v : tmpsV l R), (tmpsFill l v).1.length = l.length
  | [], _, _ => rfl
  | c :: l, _, v => by simp [tmpsFill, tmpsFill_length l]
theorem overL_get (p : Nat → Bool) : ∀ (i : Nat) (l0 l : List AV) (t : Nat), l.length = l0.length → (l0.getD t .undef).isData = true → p (i + t) = true → (overL (fixedL p i l0) l0 l).getD t .undef = l0.getD t .undef
  | _, [], _, t, _, h, _ => by simp [AV.isData] at h
  | i, a :: r, [], _, h, _, _ => by simp at h
  | i, a :: r, b :: s, 0, _, h1, h2 => by
    have : (a.isData && p i) = true := by
      simp only [Bool.and_eq_true]
      exact ⟨by simpa using h1, h2⟩
    simp only [fixedL, this, overL, List.getD_cons_zero]
  | i, a :: r, b :: s, t + 1, hl, h1, h2 => by
    have hr := overL_get p (i + 1) r s t (by simpa using hl) (by simpa using h1) (by rw [show i + 1 + t = i + (t + 1) by omega]; exact h2)
    simp only [fixedL]
    cases (a.isData && p i) <;> simpa only [overL, List.getD_cons_succ] using hr

theorem acWhole_sound {B : List (Nat × Nat × Nat)} {H : List (Nat × OB)} {c : AC} {K : Prop} (h : acWhole B H c K) : wholeAC B H c = c ∧ K := by
  cases c with
  | own l off len => obtain ⟨h1, h2, h3⟩ := h; exact ⟨by rw [h1, h2]; rfl, h3⟩
  | _ => exact ⟨rfl, h⟩
theorem acsWhole_sound {B : List (Nat × Nat × Nat)} {H : List (Nat × OB)} : ∀ {l : List AC} {K : Prop}, acsWhole B H l K → l.map (wholeAC B H) = l ∧ K
  | [], _, h => ⟨rfl, h⟩
  | c :: l, _, h => by
    obtain ⟨h1, h2⟩ := acWhole_sound h
    obtain ⟨h3, h4⟩ := acsWhole_sound h2
    exact ⟨by rw [List.map_cons, h1, h3], h4⟩
theorem avWhole_sound {B : List (Nat × Nat × Nat)} {H : List (Nat × OB)} {c : AV} {K : Prop} (h : avWhole B H c K) : c.map (wholeAC B H) = c ∧ K := by
  cases c with
  | «at» a => obtain ⟨h1, h2⟩ := acWhole_sound h; exact ⟨by rw [AV.map, h1], h2⟩
  | agg cs => obtain ⟨h1, h2⟩ := acsWhole_sound h; exact ⟨by rw [AV.map, h1], h2⟩
  | tup _ _ _ => exact ⟨rfl, h⟩
  | tupc l => exact h.elim
theorem tmpsWhole_sound {B : List (Nat × Nat × Nat)} {H : List (Nat × OB)} : ∀ {l : List AV} {K : Prop}, tmpsWhole B H l K → l.map (·.map (wholeAC B H)) = l ∧ K
  | [], _, h => ⟨rfl, h⟩
  | c :: l, _, h => by
    obtain ⟨h1, h2⟩ := avWhole_sound h
    obtain ⟨h3, h4⟩ := tmpsWhole_sound h2
    exact ⟨by rw [List.map_cons, h1, h3], h4⟩
theorem heapWhole_sound {B : List (Nat × Nat × Nat)} {H : List (Nat × OB)} : ∀ {l : List (Nat × OB)} {K : Prop}, heapWhole B H l K → l.map (fun p => (p.1, p.2.map (wholeAC B H))) = l ∧ K
  | [], _, h => ⟨rfl, h⟩
  | (k, .var t vs) :: l, _, h => by
    obtain ⟨h1, h2⟩ := acsWhole_sound h
    obtain ⟨h3, h4⟩ := heapWhole_sound h2
    exact ⟨by rw [List.map_cons, h3]; simp only [OB.map, h1], h4⟩
  | (k, .arr a b c d e) :: l, _, h => by
    obtain ⟨h3, h4⟩ := heapWhole_sound (l := l) h
    exact ⟨by rw [List.map_cons, h3]; rfl, h4⟩
  | (k, .xarr a b c) :: l, _, h => by
    obtain ⟨h3, h4⟩ := heapWhole_sound (l := l) h
    exact ⟨by rw [List.map_cons, h3]; rfl, h4⟩
  | (k, .smp a b) :: l, _, h => by
    obtain ⟨h3, h4⟩ := heapWhole_sound (l := l) h
    exact ⟨by rw [List.map_cons, h3]; rfl, h4⟩
theorem stWhole_sound {B : List (Nat × Nat × Nat)} {s : St} {K : Prop} (h : stWhole B s K) : s.whole B = s ∧ K := by
  obtain ⟨h1, h2⟩ := tmpsWhole_sound h
  obtain ⟨h3, h4⟩ := heapWhole_sound h2
  exact ⟨by unfold St.whole St.mapAC; rw [h1, h3], h4⟩

theorem clearTmps_dead (live : List Nat) : ∀ (i : Nat) (l : List AV) (t : Nat), i + t ∉ live → (clearTmps live i l).getD t .undef = .undef
  | _, [], _, _ => rfl
  | i, v :: r, 0, h => by simp [clearTmps]; intro hn; exact absurd hn h
  | i, v :: r, t + 1, h => by
    simp only [clearTmps, List.getD_cons_succ]
    exact clearTmps_dead live (i + 1) r t (by rw [show i + 1 + t = i + (t + 1) by omega]; exact h)
theorem forgetAll_undef : ∀ (l : List Nat) (st : St) (t : Nat), st.get t = .undef → (forgetAll l st).get t = .undef
  | [], _, _, h => h
  | a :: r, st, t, h => forgetAll_undef r _ t (by
    show (st.tmps.map (·.map (forgetAC a))).getD t .undef = .undef
    rw [getD_map_av (forgetAC a) rfl, show st.tmps.getD t .undef = .undef from h]
    rfl)
theorem rename_undef (l k : Nat) (st : St) (t : Nat) (h : st.get t = .undef) : (st.rename l k).get t = .undef := by
  unfold St.rename
  split
  · split
    · show (st.tmps.map (·.map (renAC l k))).getD t .undef = .undef
      rw [getD_map_av (renAC l k) rfl, show st.tmps.getD t .undef = .undef from h]
      rfl
    · exact h
  · exact h
theorem renameRows_undef : ∀ (n i : Nat) (st : St) (t : Nat), st.get t = .undef → (renameRows n i st).get t = .undef
  | 0, _, _, _, h => h
  | n + 1, i, st, t, h => by
    simp only [renameRows]
    refine renameRows_undef n (i + 1) _ t ?_
    split
    · split
      · split
        · exact h
        · exact rename_undef _ _ _ t h
      · exact h
    · exact h
theorem clean_live {live : List Nat} {st : St} {t : Nat} (h : ((st.clean live).get t).isData = true) : t ∈ live := by
  refine Classical.byContradiction fun hn => ?_
  have : (st.clean live).get t = .undef := by
    have key : ∀ s : St, s.get t = .undef → (if live.contains renMark then renameRows s.tmps.length 0 s else s).get t = .undef := by
      intro s hs
      split
      · exact renameRows_undef _ _ s t hs
      · exact hs
    unfold St.clean
    have key0 : ∀ s : St, s.get t = .undef → (if live.any (fun t => Nat.ble weakMark t) then s.weak live else s).get t = .undef := by
      intro s hs
      split <;> exact hs
    refine key0 _ (key _ (forgetAll_undef _ _ t ?_))
    exact clearTmps_dead live 0 st.tmps t (by simpa using hn)
  rw [this] at h
  cases h
theorem isData_iff {c : AV} (h : c.isData = true) : ∃ fr τ, ∃ x : τ.den, c = .at (.data fr τ x) := by
  unfold AV.isData at h
  split at h
  · exact ⟨_, _, _, rfl⟩
  · cases h

theorem stays_iff {live : Nat → List Nat} {c : Code} {t : Nat} (h : stays live c t = true) : t ∉ writes c ∧ keptIn live c t = true := by
  unfold stays at h
  simpa using h

section
variable {T : Tab} {Γ : Env} {live : Nat → List Nat}

theorem Runs.keeps {c : Code} {st : St} {Q : AExit → St → Prop} (h : Runs T Γ live c st Q) : Runs T Γ live c st (fun e s => Q e s ∧ HoldsOn (fun t => t ∉ writes c ∧ keptIn live c t = true) st s) := by
  exact runs_keeps h st _ Holds.rfl'.on fun t ht => ht

def wsQ (Q : AExit → WS → Prop) (e : AExit) (s : St) : Prop := ∃ w' : WS, w'.st = s ∧ w'.OK ∧ Q e w'

theorem loopW_sound {c : Code} (ih : ∀ (w : WS) (Q : AExit → WS → Prop), w.OK → codeW T Γ live c w Q → Runs T Γ live c w.st (wsQ Q)) {w : WS} {Q : AExit → WS → Prop} (h : codeW T Γ live (.loop c) w Q) :
    Runs T Γ live (.loop c) w.st (wsQ Q) := by
  simp only [codeW, forceS_eq, forceBs_eq] at h
  obtain ⟨hw0, I, μ, h0, hs⟩ := stWhole_sound h
  have hget : ∀ (t : Nat), ((w.st.clean (live (headId c))).get t).isData = true → stays live c t = true → ∀ v, ((St.over (fixedL (stays live c) 0 (w.st.clean (live (headId c))).tmps) (w.st.clean (live (headId c))) (stFill ((w.st.clean (live (headId c))).mask (fixedL (stays live c) 0 (w.st.clean (live (headId c))).tmps)) v)).whole (baseOf T.parts (w.st.clean (live (headId c))).tmps)).get t = (w.st.clean (live (headId c))).get t := by
    intro t h1 h2 v
    have h3 := overL_get (stays live c) 0 (w.st.clean (live (headId c))).tmps (stFill ((w.st.clean (live (headId c))).mask (fixedL (stays live c) 0 (w.st.clean (live (headId c))).tmps)) v).tmps t
      ((tmpsFill_length _ _).trans (maskL_length _ _)) h1 (by simpa using h2)
    obtain ⟨fr, τ, x, hx⟩ := isData_iff h1
    refine (keeps_mapAC _ _ rfl fun _ _ _ => rfl) t fr τ x ?_ |>.trans hx.symm
    exact h3.trans hx
  have hmk : ∀ (s1 : St), (∀ t, ((w.st.clean (live (headId c))).get t).isData = true → stays live c t = true → s1.get t = (w.st.clean (live (headId c))).get t) → s1.whole (baseOf T.parts (w.st.clean (live (headId c))).tmps) = s1 → ∀ v, stRead ((w.st.clean (live (headId c))).mask (fixedL (stays live c) 0 (w.st.clean (live (headId c))).tmps)) (s1.mask (fixedL (stays live c) 0 (w.st.clean (live (headId c))).tmps)) = some v →
      s1 = (St.over (fixedL (stays live c) 0 (w.st.clean (live (headId c))).tmps) (w.st.clean (live (headId c))) (stFill ((w.st.clean (live (headId c))).mask (fixedL (stays live c) 0 (w.st.clean (live (headId c))).tmps)) v)).whole (baseOf T.parts (w.st.clean (live (headId c))).tmps) := by
    intro s1 hf hwh v hv
    have h1 := stRead_fill hv
    have h2 : St.over (fixedL (stays live c) 0 (w.st.clean (live (headId c))).tmps) (w.st.clean (live (headId c))) (s1.mask (fixedL (stays live c) 0 (w.st.clean (live (headId c))).tmps)) = s1 := by
      simp only [St.over, St.mask]
      rw [overL_mask (stays live c) 0 (w.st.clean (live (headId c))).tmps s1.tmps fun t h3 h4 => hf t h3 (by simpa using h4)]
    have h3 : (St.over (fixedL (stays live c) 0 (w.st.clean (live (headId c))).tmps) (w.st.clean (live (headId c))) (stFill ((w.st.clean (live (headId c))).mask (fixedL (stays live c) 0 (w.st.clean (live (headId c))).tmps)) v)).whole (baseOf T.parts (w.st.clean (live (headId c))).tmps) = s1.whole (baseOf T.parts (w.st.clean (live (headId c))).tmps) := by
      refine whole_congr ?_
      rw [over_mapAC, h1, ← over_mapAC, h2]
    rw [h3, hwh]
  refine runs_loop (fun v => (St.over (fixedL (stays live c) 0 (w.st.clean (live (headId c))).tmps) (w.st.clean (live (headId c))) (stFill ((w.st.clean (live (headId c))).mask (fixedL (stays live c) 0 (w.st.clean (live (headId c))).tmps)) v)).whole (baseOf T.parts (w.st.clean (live (headId c))).tmps)) I μ _ h0 (hmk _ (fun _ _ _ => rfl) hw0 _ (stRead_self _ (mask_noTup _ _ (tmpsWhole_noTup h)))) ?_
  intro a ha
  refine (Runs.keeps (ih ⟨[], _⟩ _ (fun t b h => by cases h) (hs a ha))).mono ?_
  intro e s hQ
  obtain ⟨⟨w', h1, h2, h3⟩, hk⟩ := hQ
  subst h1
  cases e with
  | normal =>
    obtain ⟨h4, h5⟩ := stWhole_sound h3
    obtain ⟨v', h6, h7, h8⟩ := optW_iff.1 h5
    refine ⟨v', hmk _ (fun t hd ht => ?_) h4 _ h6, h7, h8⟩
    obtain ⟨fr, τ, x, hx⟩ := isData_iff hd
    rw [hx]
    exact keepsOn_clean (live (headId c)) w'.st t fr τ x (clean_live hd) (hk t fr τ x (stays_iff ht) (by rw [hget t hd ht a]; exact hx))
  | exit id => exact ⟨w', rfl, h2, h3⟩
  | ret => exact ⟨w', rfl, h2, h3⟩

theorem codeW_sound : ∀ (c : Code) (w : WS) (Q : AExit → WS → Prop), w.OK → codeW T Γ live c w Q → Runs T Γ live c w.st (wsQ Q) := by
  intro c
  induction c with
  | skip => intro w Q hw h; exact .skip ⟨w, rfl, hw, h⟩
  | label _ => intro w Q hw h; exact .label ⟨w, rfl, hw, h⟩
  | exit _ => intro w Q hw h; exact .exit ⟨w, rfl, hw, h⟩
  | ret => intro w Q hw h; exact .ret ⟨w, rfl, hw, h⟩
  | region id ops draw =>
    intro w Q hw h
    exact .region ((regionW_sound hw h).mono fun s ⟨w', h1, h2, h3⟩ => ⟨w', h1, h2, forceW_iff.1 h3⟩)
  | seq x y ihx ihy =>
    intro w Q hw h
    refine runs_seq ((ihx w _ hw h).mono fun e s hQ => ?_)
    obtain ⟨w', h1, h2, h3⟩ := hQ
    subst h1
    cases e with
    | normal => exact ihy w' Q h2 h3
    | exit id => exact ⟨w', rfl, h2, h3⟩
    | ret => exact ⟨w', rfl, h2, h3⟩
  | cond c x y ihx ihy =>
    intro w Q hw h
    obtain ⟨fr, b, w', h1, h2, h3, h4⟩ := brO_sound hw h
    refine runs_cond h1 (fun hb => ?_) (fun hb => ?_)
    · subst hb; rw [← h2]; exact ihx w' Q h3 h4
    · subst hb; rw [← h2]; exact ihy w' Q h3 h4
  | block id c ih =>
    intro w Q hw h
    refine runs_block ((ih w _ hw h).mono fun e s hQ => ?_)
    obtain ⟨w', h1, h2, h3⟩ := hQ
    subst h1
    cases e with
    | normal => exact ⟨w', rfl, h2, h3⟩
    | ret => exact ⟨w', rfl, h2, h3⟩
    | exit id' =>
      simp only at h3
      simp only [inBlk]
      split at h3
      · rename_i hi; rw [if_pos hi]; exact ⟨w', rfl, h2, h3⟩
      · rename_i hi; rw [if_neg hi]; exact ⟨w', rfl, h2, h3⟩
  | loop c ih => intro w Q hw h; exact loopW_sound ih h
  | _ => intro w Q hw h; exact absurd h (by simp [codeW])

theorem endW_sound {s : Spec} {fn : Func} {P : s.res.den → Prop} {st : St} (h : endW T s fn P st) : ∃ fr y, evalRes T s fn st = some (fr, y) ∧ (fr || !s.fresh) = true ∧ P y := by
  obtain ⟨p, h1, h2⟩ := optW_iff.1 h
  split at h2
  · rename_i hf; exact ⟨p.1, p.2, h1, hf, h2⟩
  · cases h2

theorem fnW_sound {s : Spec} {fn : Func} {x : s.arg.den} {P : s.res.den → Prop} (h : fnW T Γ s fn x P) : RunsF T Γ s fn x P := by
  unfold fnW at h
  obtain ⟨c, h1, h2⟩ := optW_iff.1 h
  refine ⟨c, h1, (codeW_sound c _ _ (fun t b h => by cases h) h2).mono fun e st ⟨w, h4, h5, h6⟩ => ?_⟩
  subst h4
  cases e with
  | normal => exact ⟨fun id hh => (by cases hh), endW_sound h6⟩
  | ret => exact ⟨fun id hh => (by cases hh), endW_sound h6⟩
  | exit id => cases h6

theorem fnMW_sound {s : MSpec} {fn : Func} {x : Ins.den s.ins} {P : CKs.den s.outs × IOs.den s.ins → Prop} (h : fnMW T Γ s fn x P) : RunsM T Γ s fn x P := by
  unfold fnMW at h
  split at h
  · cases h
  rename_i hlen
  obtain ⟨c, h1, h2⟩ := optW_iff.1 h
  refine ⟨hlen, c, h1, (codeW_sound c _ _ (fun t b h => by cases h) h2).mono fun e st ⟨w, h4, h5, h6⟩ => ?_⟩
  subst h4
  cases e with
  | normal => exact ⟨fun id hh => (by cases hh), optW_iff.1 h6⟩
  | ret => exact ⟨fun id hh => (by cases hh), optW_iff.1 h6⟩
  | exit id => cases h6

/-- A contract of the second kind, from its condition. -/
theorem MSound.ofW {P : Program} (hT : TabOK P T) (hΓ : EnvOK P Γ) (hm : P.follows .mixedOrders = true) {f : FuncId} {fn : Func} (hf : P.funcs[f]? = some fn) (hn : (fn.name == "runtime.NumGoroutine") = false)
    (hb : fn.body.isNone = false) (s : MSpec) (h : ∀ x y, s.fn x = some y → fnMW T Γ s fn x (fun z => z = y)) : MSound P f s :=
  ⟨callFunc_enter hf hn hb, fun w S π us x r o h1 h2 h3 hS h4 h5 => evalFnM_calls hT hΓ hm hf s w S π us x r o h1 h2 h3 hS h4 (fnMW_sound (h x (r, o) h5))⟩

/-- A contract, from its condition. -/
theorem Sound.ofW {P : Program} (hT : TabOK P T) (hΓ : EnvOK P Γ) (hm : P.follows .mixedOrders = true) {f : FuncId} {fn : Func} (hf : P.funcs[f]? = some fn) (hn : (fn.name == "runtime.NumGoroutine") = false)
    (hb : fn.body.isNone = false) (s : Spec) (h : ∀ x y, s.fn x = some y → fnW T Γ s fn x (fun z => z = y)) : Sound P f s :=
  sound_of hT hΓ hm hf hn hb s fun x y hx => fnW_sound (h x y hx)
end
end Go.Proofs.Ytfghmbpogmcboaa
