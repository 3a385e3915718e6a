/-
  Part 18 of the proof that the statement FnExactIsTableSet holds.
-/
import Derived.Test.YtfghmbpogmcboaaCIsTableSet16
namespace Go.Proofs.Ytfghmbpogmcboaa
open Go.RowKit

section
variable {P : Program} {T : Tab} {X : Ctx} {w w' : World} {π : Pi} {H : List (Nat × OB)}

theorem cells_shrink {π' : Pi} {st' : St} {a : Act} (h : RelAt X π' st' a w) (k : Keeps π π' H st'.heap) {fr : Bool} (τ : Ty) (cs : List Value) (x : τ.den) (hc : Cells w (Avoid X.w0.heap.size X.Sc π fr) τ cs x) :
    Cells w (Avoid X.w0.heap.size X.Sc π' fr) τ cs x :=
  Cells.keep (Nat.le_refl _) (fun _ _ _ => rfl) (fun b _ hA => by
    rcases hA with ⟨l, r, hl, hg⟩ | h2
    · have hh := h.1.heap l
      cases hb : hget st'.heap l with
      | none => have := hh.emp hb; rw [this] at hl; cases hl
      | some b' => have := (k l b' hb).1; rw [this] at hl; exact .inl ⟨l, r, hl, hg⟩
    · exact .inr h2) τ cs x hc

theorem FreeT.drop {F : List Nat} {l : Nat} (h : FreeT X w π F) : FreeT X w (upd π l none) F :=
  ⟨h.1, fun b hb => ⟨(h.2 b hb).1, (h.2 b hb).2.1, fun m r hm => by
    by_cases e : m = l
    · subst e; rw [upd_same] at hm; cases hm
    · rw [upd_ne π none e] at hm; exact (h.2 b hb).2.2 m r hm⟩⟩
theorem newNil_rel {st : St} {a : Act} (h : RelAt X π st a w) (l : Nat) (hl : l < pinFrom) (f0 t0 : Bool) (te : TypeId) (e : Ty) :
    RelAt X (upd π l none) (st.new l (.arr f0 t0 e te [])) a w ∧ RepAV X w (upd π l none) (st.new l (.arr f0 t0 e te [])).heap (.at (.own l 0 0)) (.slice none 0 0) ∧
      ∀ fr τ cs x, Cells w (Avoid X.w0.heap.size X.Sc π fr) τ cs x → Cells w (Avoid X.w0.heap.size X.Sc (upd π l none) fr) τ cs x :=
  ⟨h.replace l hl none _ (grown_self w _) (fun r hr => by cases hr) (fun _ => rfl),
   mk_av (St.new_heap_same st l _) (Nat.le_refl _) (by rw [upd_same]; exact ⟨rfl, rfl, rfl⟩),
   fun fr τ cs x hc => Cells.keep (Nat.le_refl _) (fun _ _ _ => rfl) (fun b _ hA => by
    rcases hA with ⟨m, r, hm, hg⟩ | h2
    · by_cases e : m = l
      · subst e; rw [upd_same] at hm; cases hm
      · rw [upd_ne π none e] at hm; exact .inl ⟨m, r, hm, hg⟩
    · exact .inr h2) τ cs x hc⟩

theorem evalAppend_sound (hT : TabOK P T) {st : St} {a : Act} (h : RelAt X π st a w) (dst : Nat) (t ty : TypeId) (x y : Operand) (av : AV) (st' : St) (he : evalAppend T st dst t x y = some (av, st')) :
    ∃ v' w' π', (Builtin.append_ #[t, t] ty #[a.eval x, a.eval y]).run P w = .ok v' w' ∧ RelAt X π' st' a w' ∧ RepAV X w' π' st'.heap av v' := by
  unfold evalAppend at he
  split at he
  · cases he
  · rename_i te hte
    split at he
    · rename_i e y' st1 hty hs
      obtain ⟨π1, h1, h2, h3, h4, h5⟩ := settle_rel h (ev_rep h.2 y) hs
      split at he
      · cases he
      · rename_i fr2 ys hv
        dsimp only at he
        have htree : ∀ tr2, tr2 = (e.flat || (treeAV st (st.ev y) && e.tree)) → tr2 = true → e.flat = true ∨ ∃ F, TCells w F (.slice e) [a.eval y] ys ∧ FreeT X w π1 F := by
          intro tr2 e2 htr
          subst e2
          cases hef : e.flat with
          | true => exact .inl rfl
          | false =>
          right
          simp only [hef, Bool.false_or, Bool.and_eq_true] at htr
          obtain ⟨F, us, f1, f2, f3, _⟩ := h5 htr.1 (.slice e) fr2 ys htr.2 hv
          have hus : us = [a.eval y] := by
            simp only [TCells] at f1
            obtain ⟨a0, len, cap, rfl, _⟩ := f1
            rw [f2]; simp [mkVal, Ty.isStruct]
          rw [hus] at f1
          exact ⟨F, f1, f3⟩
        have hyc : Cells w (Avoid X.w0.heap.size X.Sc π1 fr2) (.slice e) [a.eval y] ys := RepVal.of_cells rfl (viewAV_settled _ y' _ fr2 ys h3 h2 hv)
        have hxr := ev_rep h1.2 x
        split at he
        · rename_i hx
          rw [hx] at hxr
          have hxv : a.eval x = .slice none 0 0 := hxr
          split at he
          · rename_i hbig
            simp only [Option.some.injEq, Prod.mk.injEq] at he
            obtain ⟨rfl, rfl⟩ := he
            obtain ⟨k1, k2, k3⟩ := newNil_rel h1 dst hbig.2 (T.fr0 || e.flat) T.tr0 te e
            have := append_sound (ty := ty) hT k1 hte hty hbig.2 (fr3 := fr2 || e.flat) (tr2 := e.flat || (treeAV st (st.ev y) && e.tree)) rfl (St.new_heap_same st1 dst _) k2 (k3 _ _ _ _ hyc) (by rw [Nat.zero_add]; exact hbig.1) (fun ht => by
              rcases htree _ rfl ht with h0 | ⟨F, f1, f2⟩
              · exact .inl h0
              · exact .inr ⟨F, f1, f2.drop⟩)
            rw [← hxv] at this
            exact this
          · cases he
        · rename_i l off len hx
          rw [hx] at hxr
          split at he
          · rename_i fr tr e' tid xs hl
            split at he
            · rename_i hcond
              obtain ⟨rfl, rfl⟩ := hcond
              split at he
              · rename_i hbig
                simp only [Option.some.injEq, Prod.mk.injEq] at he
                obtain ⟨rfl, rfl⟩ := he
                exact append_sound (ty := ty) hT h1 hte hty hbig.2 (fr3 := fr2 || e'.flat) (tr2 := e'.flat || (treeAV st (st.ev y) && e'.tree)) rfl hl hxr hyc hbig.1 (htree _ rfl)
              · cases he
            · cases he
          · cases he
        · cases he
    · cases he

theorem zero_cells {S : Nat → Prop} {e : Ty} (h : zeroOK e = true) : ∃ z, zeroVals e = [z] ∧ e.isStruct = false ∧ e.size = 1 ∧ Cells w S e [z] e.zero ∧ z.oneCell' = true := by
  cases e <;> simp [zeroOK] at h
  · exact ⟨_, rfl, rfl, rfl, rfl, rfl⟩
  · exact ⟨_, rfl, rfl, rfl, rfl, rfl⟩
  · exact ⟨_, rfl, rfl, rfl, rfl, rfl⟩
  · exact ⟨_, rfl, rfl, rfl, ⟨none, 0, 0, rfl, rfl, Nat.le_refl _, .inl rfl⟩, rfl⟩

theorem zero_tcells {e : Ty} {z : Value} (h : zeroOK e = true) (hz : zeroVals e = [z]) : TCells w [] e [z] e.zero := by
  cases e <;> simp [zeroOK] at h <;> simp only [zeroVals, List.cons.injEq, and_true] at hz <;> subst hz
  · exact ⟨rfl, rfl⟩
  · exact ⟨rfl, rfl⟩
  · exact ⟨rfl, rfl⟩
  · exact ⟨none, 0, 0, rfl, rfl, Nat.le_refl _, .inl ⟨rfl, rfl, rfl, rfl⟩⟩

theorem zero_all {S : Nat → Prop} : ∀ (e : Ty), zeroAll e = true → (zeroVals e).length = e.size ∧ Cells w S e (zeroVals e) e.zero ∧ TCells w [] e (zeroVals e) e.zero := by
  intro e
  induction e with
  | unit => intro _; exact ⟨rfl, rfl, rfl, rfl⟩
  | pair a r iha ihr =>
    intro h
    simp only [zeroAll, Bool.and_eq_true] at h
    obtain ⟨a1, a2, a3⟩ := iha h.1
    obtain ⟨r1, r2, r3⟩ := ihr h.2
    exact ⟨by simp [zeroVals, Ty.size, a1, r1], ⟨_, _, rfl, a2, r2⟩, ⟨_, _, [], [], rfl, rfl, a3, r3⟩⟩
  | _ =>
    intro h
    simp only [zeroAll] at h
    obtain ⟨z, z1, z2, z3, z4, _⟩ := zero_cells (w := w) (S := S) h
    exact ⟨by rw [z1, z3]; rfl, by rw [z1]; exact z4, by rw [z1]; exact zero_tcells h z1⟩
theorem made_at {z : Array Value} {s m j q : Nat} (hz : z.size = s) (hj : j < m) (hq : q < s) : (madeCells z (m * s))[j * s + q]? = z[q]? := by
  have h1 : j * s + q < m * s := by
    have := Nat.mul_le_mul_right s (show j + 1 ≤ m by omega)
    rw [Nat.succ_mul] at this
    omega
  have h2 : (j * s + q) % z.size = q := by rw [hz, Nat.mul_comm, Nat.mul_add_mod, Nat.mod_eq_of_lt hq]
  have h3 : q < z.size := by omega
  unfold madeCells
  simp [h1, h2, h3]
theorem evalMake_sound (hT : TabOK P T) {st : St} {a : Act} (h : RelAt X π st a w) (dst : Nat) (t : TypeId) (l c : AV) (vl vc : Value) (hl : RepAV X w π st.heap l vl) (hc : RepAV X w π st.heap c vc) (av : AV) (st' : St)
    (he : evalMake T st dst t l c = some (av, st')) : ∃ v' w' π', (Instr.makeSlice t vl vc).run P w = .ok v' w' ∧ RelAt X π' st' a w' ∧ RepAV X w' π' st'.heap av v' := by
  unfold evalMake at he
  split at he
  · rename_i te fr1 k1 n fr2 k2 m hte
    have := rep_int hl; subst this
    have := rep_int hc; subst this
    split at he
    · rename_i e hty
      split at he
      · rename_i hcond
        obtain ⟨h0, hnm, hz, hdp⟩ := hcond
        obtain ⟨h1, h2⟩ := inb_iff.1 h0
        subst hnm
        simp only [Option.some.injEq, Prod.mk.injEq] at he
        obtain ⟨rfl, rfl⟩ := he
        obtain ⟨i, hi, hisz, hiby, hiz⟩ := (hT.ty te e hty).info
        obtain ⟨z1, z4, z5⟩ := zero_all (w := w) (S := Avoid X.w0.heap.size X.Sc π (T.fr0 || e.flat)) e hz
        have hzc : (mkVal e (zeroVals e)).cells = (zeroVals e).toArray := mkVal_cells e _ _ z4
        have hu := hT.elem t te hte
        have hn : n.toNat ≤ 4294967296 := by unfold maxRow at h2; omega
        have hr := run_make (P := P) (w := w) t te i _ hu hi hiz k1 k2 n n h1 (Int.le_refl _) (by
          have : (i.bytes : Int) * n ≤ 256 * 4294967296 := by
            obtain ⟨nn, rfl⟩ := Int.eq_ofNat_of_zero_le h1
            have h7 : i.bytes * nn ≤ 256 * 4294967296 := Nat.mul_le_mul hiby (by simpa using hn)
            have h8 : ((i.bytes * nn : Nat) : Int) ≤ 256 * 4294967296 := by omega
            rwa [Int.natCast_mul] at h8
          omega) (by unfold maxRow at h2; omega)
        rw [hzc, hisz] at hr
        have hsz : ((zeroVals e).toArray).size = e.size := by simpa using z1
        have cell : ∀ j, j < n.toNat → ∀ q u, (zeroVals e)[q]? = some u → (madeCells (zeroVals e).toArray (n.toNat * e.size)).toList[j * e.size + q]? = some u := by
          intro j hj q u hu
          have hq : q < e.size := by rw [← z1]; exact (List.getElem?_eq_some_iff.1 hu).1
          have := made_at hsz hj hq
          rw [Array.getElem?_toList, this]
          simpa using hu
        have := newRow_rel (w1 := w.alloc (.cells (madeCells (zeroVals e).toArray (n.toNat * e.size)) te)) h dst hdp (T.fr0 || e.flat) T.tr0 e te (List.replicate n.toNat e.zero) (madeCells (zeroVals e).toArray (n.toNat * e.size)).toList (madeCells (zeroVals e).toArray (n.toNat * e.size)) n.toNat []
          (.inr rfl) (by rw [size_madeCells]) (by unfold maxLen; omega) (by simp)
          (fun k u hu => by
            rw [Array.getElem?_toList] at hu; exact hu) ⟨by simp [size_madeCells], fun j x hx => by
              have hj := (List.getElem?_eq_some_iff.1 hx).1
              simp only [List.length_replicate] at hj
              refine ⟨zeroVals e, z1, fun q u hu => cell j hj q u hu, ?_⟩
              rw [List.eq_of_mem_replicate (List.mem_of_getElem? hx)]; exact z4⟩ (by simp) (fun _ => ⟨List.nodup_nil, List.replicate n.toNat [], by simp, by simp, fun j x F hx hF => by
            have hj := (List.getElem?_eq_some_iff.1 hx).1
            simp only [List.length_replicate] at hj
            refine ⟨zeroVals e, z1, fun q u hu => cell j hj q u hu, ?_⟩
            have e1 := List.eq_of_mem_replicate (List.mem_of_getElem? hx)
            have e2 := List.eq_of_mem_replicate (List.mem_of_getElem? hF)
            rw [e1, e2]
            exact z5⟩)
        exact ⟨_, _, _, hr, this.1, this.2 _ (by simp)⟩
      · cases he
    · cases he
  · cases he

theorem foldl_setCells (off : Nat) : ∀ (us : List Value) (k : Nat) (cells : List Value), off + k + us.length ≤ cells.length →
    (us.zipIdx k).foldl (fun cs p => cs.setIfInBounds (off + p.2) p.1) cells.toArray = (splice cells (off + k) us).toArray
  | [], k, cells, h => by simp [splice]
  | u :: us, k, cells, h => by
    simp only [List.zipIdx_cons, List.foldl_cons]
    rw [show cells.toArray.setIfInBounds (off + k) u = (cells.set (off + k) u).toArray by simp]
    rw [foldl_setCells off us (k + 1) (cells.set (off + k) u) (by simp at h ⊢; omega)]
    congr 1
    apply List.ext_getElem?
    intro j
    have hl : off + k + (u :: us).length ≤ cells.length := h
    have hl2 : off + (k + 1) + us.length ≤ (cells.set (off + k) u).length := by simp at h ⊢; omega
    rw [splice_get _ _ _ _ hl, splice_get _ _ _ _ hl2]
    simp only [List.length_cons]
    by_cases h1 : j < off + k
    · rw [if_pos (by omega), if_pos h1, List.getElem?_set_ne (by omega)]
    · rw [if_neg h1]
      by_cases h2 : j = off + k
      · subst h2
        rw [if_pos (by omega), if_pos (by omega), List.getElem?_set_self (by simp at h; omega)]
        simp
      · rw [if_neg (by omega)]
        by_cases h3 : j < off + k + (us.length + 1)
        · rw [if_pos (by omega), if_pos h3]
          rw [show j - (off + k) = (j - (off + (k + 1))) + 1 by omega, List.getElem?_cons_succ]
        · rw [if_neg (by omega), if_neg h3, List.getElem?_set_ne (by omega)]

theorem fill_step (place : Nat → Option (Nat × Nat)) (cells : List Value) (i : Nat) (v : Value) (rest : List (Nat × Value)) (off size : Nat) (us : List Value) (hp : place i = some (off, size)) (hv : v.cells = us.toArray)
    (hl : us.length = size) (hle : off + size ≤ cells.length) : Instr.fill place cells.toArray ((i, v) :: rest) = Instr.fill place (splice cells off us).toArray rest := by
  simp only [Instr.fill, hp, hv, List.size_toArray, hl]
  rw [if_neg (by simp; omega)]
  congr 1
  have := foldl_setCells off us 0 cells (by omega)
  simp only [Nat.add_zero] at this
  rw [← this]
  simp

theorem buildParts_sound (e : Ty) {a : Act} : ∀ (parts : List (Nat × Operand)) (i : Nat) (st : St) (π : Pi) (fr tr : Bool) (ys : List e.den) (st' : St) (cells : List Value), RelAt X π st a w → buildParts e i parts st = some (fr, tr, ys, st') →
    (i + parts.length) * e.size ≤ cells.length →
    ∃ π' cl, RelAt X π' st' a w ∧ Flat w (Avoid X.w0.heap.size X.Sc π' fr) e cl ys ∧ ys.length = parts.length ∧ Keeps π π' st.heap st'.heap ∧
      Instr.fill (fun i => some (i * e.size, e.size)) cells.toArray (parts.map fun p => (p.1, a.eval p.2)) = some (splice cells (i * e.size) cl).toArray ∧
      (tr = true → ∃ Fs, TFlat w e cl ys Fs ∧ FreeT X w π' (List.flatten Fs) ∧ ∀ b ∈ List.flatten Fs, ∃ l r, π l = some r ∧ r.cl b)
  | [], i, st, π, fr, tr, ys, st', cells, h, he, hle => by
    simp only [buildParts, Option.some.injEq, Prod.mk.injEq] at he
    obtain ⟨rfl, rfl, rfl, rfl⟩ := he
    exact ⟨π, [], h, Flat.nil, rfl, Keeps.refl _ _, by simp [Instr.fill, splice], fun _ => ⟨[], ⟨rfl, fun i z F hz => by simp at hz⟩, ⟨List.nodup_nil, by simp⟩, by simp⟩⟩
  | (j, x) :: r, i, st, π, fr, tr, ys, st', cells, h, he, hle => by
    simp only [buildParts] at he
    split at he
    · rename_i hij; subst hij
      split at he
      · rename_i v' st1 hs
        obtain ⟨π1, h1, h2, h3, h4, h5⟩ := settle_rel h (ev_rep h.2 x) hs
        split at he
        · rename_i fr1 y hv
          split at he
          · rename_i fr2 tr2 zs st2 hr
            simp only [Option.some.injEq, Prod.mk.injEq] at he
            obtain ⟨rfl, rfl, rfl, rfl⟩ := he
            obtain ⟨es, hes, hev⟩ := viewAV_settled e v' _ fr1 y h3 h2 hv
            have hel := Cells.len e es y hes
            have hle1 : i * e.size + e.size ≤ cells.length := by
              have : (i + 1) * e.size ≤ (i + ((i, x) :: r).length) * e.size := Nat.mul_le_mul_right _ (by simp)
              rw [Nat.add_mul, Nat.one_mul] at this
              omega
            have hle1' : i * e.size + es.length ≤ cells.length := by omega
            obtain ⟨π2, cl, g1, g2, g3, g4, g5, g6⟩ := buildParts_sound e r (i + 1) st1 π1 fr2 tr2 zs st2 (splice cells (i * e.size) es) h1 hr (by
              rw [splice_length _ _ _ hle1']
              rw [show i + 1 + r.length = i + ((i, x) :: r).length by simp; omega]; exact hle)
            have f1 : Flat w (Avoid X.w0.heap.size X.Sc π2 fr1) e es [y] := ⟨by simp [hel], fun q z hz => by
              rcases q with _ | q
              · simp at hz; subst hz
                exact ⟨es, hel, fun j u hu => by simpa using hu, cells_shrink g1 g4 e es y hes⟩
              · simp at hz⟩
            refine ⟨π2, es ++ cl, g1, ?_, by simp [g3], h4.trans g4, ?_, fun ht => ?_⟩
            · have := (f1.cells fun es z hc => hc.and_left (f2 := fr2)).append (g2.cells fun es z hc => hc.and_right (f1 := fr1))
              simpa using this
            · simp only [List.map_cons]
              rw [fill_step _ cells i (a.eval x) _ (i * e.size) e.size es rfl (by rw [hev]; exact mkVal_cells e es y hes) hel hle1, g5]
              congr 2
              have hcl : cl.length = r.length * e.size := by rw [g2.1, g3]
              have hfit : (i + 1) * e.size + cl.length ≤ (splice cells (i * e.size) es).length := by
                rw [splice_length _ _ _ hle1', hcl, ← Nat.add_mul]
                rw [show i + 1 + r.length = i + ((i, x) :: r).length by simp; omega]; exact hle
              have hfit2 : i * e.size + (es ++ cl).length ≤ cells.length := by
                rw [splice_length _ _ _ hle1'] at hfit
                rw [List.length_append, hel]
                rw [Nat.add_mul, Nat.one_mul] at hfit
                omega
              have e1 : (i + 1) * e.size = i * e.size + es.length := by rw [Nat.add_mul, Nat.one_mul, hel]
              apply List.ext_getElem?
              intro k
              rw [splice_get _ _ _ _ hfit, splice_get _ _ _ _ hfit2, splice_get _ _ _ _ hle1', e1, List.length_append]
              by_cases k1 : k < i * e.size
              · rw [if_pos (by omega), if_pos k1, if_pos k1]
              · rw [if_neg k1, if_neg k1]
                by_cases k2 : k < i * e.size + es.length
                · rw [if_pos k2, if_pos k2, if_pos (by omega), List.getElem?_append_left (by omega)]
                · rw [if_neg k2, if_neg k2]
                  by_cases k3 : k < i * e.size + es.length + cl.length
                  · rw [if_pos k3, if_pos (by omega), List.getElem?_append_right (by omega)]
                    congr 1; omega
                  · rw [if_neg k3, if_neg (by omega)]
            · simp only [Bool.and_eq_true] at ht
              obtain ⟨⟨ht1, ht2⟩, ht3⟩ := ht
              obtain ⟨F, us, t1, t2, t3, t7⟩ := h5 ht1 e fr1 y ht2 hv
              obtain ⟨Fs, t4, t5, t6⟩ := g6 ht3
              -- the cells of the value are these
              have hus : us = es := by
                have c1 := TCells.cells (S := fun _ => False) F e us y t1 (fun _ _ h => h)
                have a1 := mkVal_cells e us y c1
                have a2 := mkVal_cells e es y hes
                rw [← t2, hev, a2] at a1
                simpa using a1.symm
              subst hus
              refine ⟨F :: Fs, ?_, ?_, fun b hb => ?_⟩
              · have k1 : TFlat w e us [y] [F] := ⟨rfl, fun q z G hz hG => by
                  rcases q with _ | q
                  · simp at hz hG; subst hz; subst hG
                    exact ⟨us, hel, fun j u hu => by simpa using hu, t1⟩
                  · simp at hz⟩
                exact TFlat.append (by simp [hel]) k1 t4
              · rw [List.flatten_cons]
                refine ⟨List.nodup_append.2 ⟨t3.1, t5.1, fun b hb b' hb' e => ?_⟩, fun b hb => ?_⟩
                · subst e
                  obtain ⟨l, r, q1, q2⟩ := t6 b hb'
                  exact (t3.2 b hb).2.2 l r q1 q2
                · rcases List.mem_append.1 hb with hb | hb
                  · have := t3.2 b hb
                    refine ⟨this.1, this.2.1, fun l r q1 q2 => ?_⟩
                    cases hh : hget st2.heap l with
                    | none => rw [(g1.1.heap l).emp hh] at q1; cases q1
                    | some b' => exact this.2.2 l r ((g4 l b' hh).1 ▸ q1) q2
                  · exact t5.2 b hb
              · rw [List.flatten_cons] at hb
                rcases List.mem_append.1 hb with hb | hb
                · exact t7 b hb
                · obtain ⟨l, r, q1, q2⟩ := t6 b hb
                  cases hh : hget st1.heap l with
                  | none => rw [(h1.1.heap l).emp hh] at q1; cases q1
                  | some b' => exact ⟨l, r, (h4 l b' hh).1 ▸ q1, q2⟩
          · cases he
        · cases he
      · cases he
    · cases he

theorem evalBuildSlice_sound (hT : TabOK P T) {st : St} {a : Act} (h : RelAt X π st a w) (dst : Nat) (t : TypeId) (len : Nat) (parts : Array (Nat × Operand)) (av : AV) (st' : St)
    (he : evalBuildSlice T st dst t len parts = some (av, st')) :
    ∃ v' w' π', (Instr.buildSlice t len (parts.map fun (i, x) => (i, a.eval x))).run P w = .ok v' w' ∧ RelAt X π' st' a w' ∧ RepAV X w' π' st'.heap av v' := by
  unfold evalBuildSlice at he
  split at he
  · cases he
  · rename_i te hte
    split at he
    · cases he
    · rename_i e hty
      split at he
      · rename_i hcond
        obtain ⟨hpl, hlen⟩ := hcond
        split at he
        · rename_i fr tr ys st1 hb
          simp only [Option.some.injEq, Prod.mk.injEq] at he
          obtain ⟨rfl, rfl⟩ := he
          obtain ⟨i, hi, hisz, hiby, hiz⟩ := (hT.ty te e hty).info
          have hu := hT.elem t te hte
          have hpl' : parts.toList.length = len := by simpa using hpl
          have hz : ∃ z : Array Value, (len * e.size = 0 ∧ z = #[]) ∨ (¬ len * e.size = 0 ∧ (zeroValue te).run P w = .ok (mkVal e (zeroVals e)) w ∧ z = (mkVal e (zeroVals e)).cells) := by
            by_cases h0 : len * e.size = 0
            · exact ⟨#[], .inl ⟨h0, rfl⟩⟩
            · exact ⟨_, .inr ⟨h0, by simp [zeroValue, typeInfo, hi, hiz], rfl⟩⟩
          obtain ⟨z, hz⟩ := hz
          obtain ⟨π1, cl, g1, g2, g3, g4, g5, g6⟩ := buildParts_sound e parts.toList 0 st π fr tr ys st1 ((Array.range (len * e.size)).map (z[· % z.size]!)).toList h hb (by simp [hpl'])
          have hcl : cl.length = len * e.size := by rw [g2.1, g3, hpl']
          have hsp : (splice ((Array.range (len * e.size)).map (z[· % z.size]!)).toList (0 * e.size) cl) = cl := by
            simp [splice, hcl]
          rw [hsp] at g5
          have hrun : (Instr.buildSlice t len (parts.map fun (i, x) => (i, a.eval x))).run P w = .ok (.slice (some ⟨w.heap.size, 0, none⟩) len len) (w.alloc (.cells cl.toArray te)) := by
            have h24 : ¬ (len * e.size > 2 ^ 24) := by
              have : len * e.size ≤ 64 * 64 := Nat.mul_le_mul hlen.1 hlen.2.1
              omega
            simp only [Instr.buildSlice, Sem.run_bind, run_underlying hu, Result.andThen_ok, (hT.ty te e hty).size, if_neg h24]
            have e1 : (parts.map fun (i, x) => (i, a.eval x)).toList = parts.toList.map fun p => (p.1, a.eval p.2) := by simp
            simp only [e1]
            have e2 : (((Array.range (len * e.size)).map (z[· % z.size]!)).toList.toArray) = (Array.range (len * e.size)).map (z[· % z.size]!) := Array.toArray_toList
            rw [e2] at g5
            rcases hz with ⟨h0, rfl⟩ | ⟨h0, hz, rfl⟩
            · rw [if_pos h0]
              simp only [Sem.run_bind, Sem.run_pure, Result.andThen_ok, g5, newRow]
              simp
            · rw [if_neg h0]
              simp only [Sem.run_bind, Sem.run_pure, Result.andThen_ok, hz, g5, newRow]
              simp
          have hN : ∃ N : List Nat, (∀ b ∈ N, (X.w0.heap.size ≤ b ∨ X.gv b) ∧ b < w.heap.size ∧ ∀ m r0, m ≠ dst → π1 m = some r0 → ¬ r0.cl b) ∧ (tr = true → N.Nodup ∧ ∃ Fs, List.flatten Fs = N ∧ TFlat w e cl ys Fs) := by
            cases tr with
            | false => exact ⟨[], by simp, fun h => by cases h⟩
            | true =>
              obtain ⟨Fs, t1, t2, _⟩ := g6 rfl
              exact ⟨_, fun b hb => ⟨(t2.2 b hb).1, (t2.2 b hb).2.1, fun m r0 _ => (t2.2 b hb).2.2 m r0⟩, fun _ => ⟨t2.1, Fs, rfl, t1⟩⟩
          obtain ⟨N, q1, q2⟩ := hN
          have := newRow_rel (w1 := w.alloc (.cells cl.toArray te)) g1 dst hlen.2.2 ((T.fr0 || e.flat) && fr) (T.tr0 && tr) e te ys cl cl.toArray len N (.inr rfl) (by simpa using hcl) (by simp only [maxLen]; omega) (by omega) (fun k u hu => by simpa using hu) (g2.cells fun es z hc => hc.and_right) q1 (fun ht => q2 (by simp only [Bool.and_eq_true] at ht; exact ht.2))
          exact ⟨_, _, _, hrun, this.1, this.2 _ (by omega)⟩
        · cases he
      · cases he

theorem zeroCells_rep : ∀ τ : Ty, RepACs X w π H (zeroCells τ) (zeroVals τ) := by
  have one : ∀ (c : AC) (v : Value), v.oneCell' = true → RepAC X w π H c v → RepACs X w π H [c] [v] := fun c v h1 h2 => ⟨rfl, fun i c' hc => by
    rcases i with _ | i
    · simp at hc; subst hc; exact ⟨v, rfl, h1, h2⟩
    · simp at hc⟩
  intro τ
  induction τ with
  | unit => exact ⟨rfl, fun i c hc => by simp [zeroCells] at hc⟩
  | pair a r iha ihr =>
    refine ⟨by simp [zeroCells, zeroVals, iha.1, ihr.1], fun i c hc => ?_⟩
    simp only [zeroCells] at hc
    simp only [zeroVals]
    by_cases hi : i < (zeroCells a).length
    · rw [List.getElem?_append_left hi] at hc
      obtain ⟨u, hu, h⟩ := iha.2 i c hc
      exact ⟨u, by rw [List.getElem?_append_left (by rw [iha.1]; exact hi)]; exact hu, h⟩
    · rw [List.getElem?_append_right (by omega)] at hc
      obtain ⟨u, hu, h⟩ := ihr.2 _ c hc
      exact ⟨u, by rw [List.getElem?_append_right (by rw [iha.1]; omega), iha.1]; exact hu, h⟩
  | int k => exact one (.data true _ _) _ rfl (mk_int (H := H) k 0 true)
  | bool => exact one (.data true _ _) _ rfl (mk_bool (H := H) false true)
  | str => exact one (.data true _ _) _ rfl (mk_str (H := H) ByteArray.empty true)
  | slice e => exact one _ _ rfl rfl
  | oslice e => exact one _ _ rfl rfl
  | ptr e => exact one _ _ rfl rfl
  | optr e => exact one _ _ rfl rfl
  | smap v => exact one (.data true _ _) _ rfl ⟨[.map none], .inl ⟨rfl, rfl⟩, by simp [mkVal, Ty.isStruct]⟩
  | clo f c => exact one .undef .nilFunc rfl trivial

theorem buildCells_sound (hT : TabOK P T) {st : St} {a : Act} (h : RelAt X π st a w) (t : TypeId) (places : Array (Nat × Nat))
    (hpl : ∀ f o u ρ, T.off t f = some (o, u) → T.ty u = some ρ → places[f]? = some (o, ρ.size)) : ∀ (parts : List (Nat × Operand)) (cs cs' : List AC) (us : List Value), RepACs X w π st.heap cs us →
    buildCells T st t parts cs = some cs' → ∃ us' : List Value, Instr.fill (fun i => places[i]?) us.toArray (parts.map fun p => (p.1, a.eval p.2)) = some us'.toArray ∧ RepACs X w π st.heap cs' us'
  | [], cs, cs', us, hr, he => by
    simp only [buildCells, Option.some.injEq] at he; subst he
    exact ⟨us, rfl, hr⟩
  | (f, x) :: r, cs, cs', us, hr, he => by
    simp only [buildCells] at he
    split at he
    · rename_i o u ho
      split at he
      · rename_i ρ hρ
        split at he
        · rename_i c hc
          split at he
          · rename_i hle
            obtain ⟨vs, hv, hl, hr2⟩ := cellsOf_rep (ev_rep h.2 x) hc
            have e1 := hr.1
            have e2 := hr2.1
            obtain ⟨us', g1, g2⟩ := buildCells_sound hT h t places hpl r _ cs' _ (splice_rep hr hr2 o hle) he
            refine ⟨us', ?_, g2⟩
            simp only [List.map_cons]
            rw [fill_step _ us f (a.eval x) _ o ρ.size vs (hpl f o u ρ ho hρ) hv hl (by omega)]
            exact g1
          · cases he
        · cases he
      · cases he
    · cases he

theorem evalBuild_sound (hT : TabOK P T) {st : St} {a : Act} (h : RelAt X π st a w) (t : TypeId) (parts : Array (Nat × Operand)) (av : AV) (he : evalBuild T st t parts = some av) :
    ∃ v', (Instr.build t (parts.map fun (i, x) => (i, a.eval x))).run P w = .ok v' w ∧ RepAV X w π st.heap av v' := by
  unfold evalBuild at he
  split at he
  · cases he
  · rename_i τ hty
    split at he
    · rename_i hs
      cases hb : buildCells T st t parts.toList (zeroCells τ) with
      | none => rw [hb] at he; cases he
      | some cs' =>
        rw [hb] at he
        simp only [Option.map_some, Option.some.injEq] at he; subst he
        obtain ⟨fs, places, h1, h2, h3⟩ := hT.fill t τ hty hs
        obtain ⟨i, hi, hisz, hiby, hiz⟩ := (hT.ty t τ hty).info
        obtain ⟨us', g1, g2⟩ := buildCells_sound hT h t places h3 parts.toList (zeroCells τ) cs' (zeroVals τ) (zeroCells_rep τ) hb
        refine ⟨.agg us'.toArray, ?_, us', rfl, g2⟩
        have hz : (zeroValue t).run P w = .ok (mkVal τ (zeroVals τ)) w := by simp [zeroValue, typeInfo, hi, hiz]
        have hzc : (mkVal τ (zeroVals τ)).cells = (zeroVals τ).toArray := by simp [mkVal, hs, Value.cells]
        have h2' := h2 w
        unfold placesOf at h2'
        have e1 : (parts.map fun (i, x) => (i, a.eval x)).toList = parts.toList.map fun p => (p.1, a.eval p.2) := by simp
        simp only [Instr.build, Sem.run_bind, hz, Result.andThen_ok, run_underlying h1, h2', hzc, e1, g1, Sem.run_pure]
    · cases he

theorem settle_settled {st : St} {v : AV} (h : v.settled = true) : settle st v = some (v, st) := by
  cases v with
  | «at» a => cases a <;> simp [AV.settled, AC.settled] at h <;> simp [settle, AC.settled]
  | agg cs =>
    have hs : cs.all (·.settled) = true := h
    have : settleCells cs.length st cs = some (cs, st) := by
      cases hn : cs.length with
      | zero => simp [settleCells, hs]
      | succ n =>
        have hf : cs.find? (fun c => !c.settled) = none := List.find?_eq_none.2 fun c hc => by simpa using List.all_eq_true.1 hs c hc
        simp [settleCells, hf]
    simp [settle, this]
  | tup fr τ x => rfl
  | tupc l => simp [AV.settled] at h
theorem partsQ_parts {e : Ty} {st : St} : ∀ (parts : List (Nat × Operand)) (i : Nat) (fr : Bool) (ys : List e.den), partsQ e i parts st = some (fr, ys) → ∃ tr, buildParts e i parts st = some (fr, tr, ys, st)
  | [], i, fr, ys, h => by
    simp only [partsQ, Option.some.injEq, Prod.mk.injEq] at h
    obtain ⟨rfl, rfl⟩ := h
    exact ⟨true, rfl⟩
  | (j, x) :: r, i, fr, ys, h => by
    simp only [partsQ] at h
    split at h
    · rename_i hc
      split at h
      · rename_i f1 y f2 zs h1 h2
        simp only [Option.some.injEq, Prod.mk.injEq] at h
        obtain ⟨rfl, rfl⟩ := h
        obtain ⟨tr, h3⟩ := partsQ_parts r (i + 1) f2 zs h2
        refine ⟨treeAV st (st.ev x) && e.tree && tr, ?_⟩
        simp only [buildParts]
        rw [if_pos hc.1, settle_settled hc.2]
        simp only [h1, h3]
      · cases h
    · cases h
/-- A row of plain data, made and written no more. -/
theorem evalBuildQ_sound (hT : TabOK P T) {st : St} {a : Act} (h : RelAt X π st a w) (t : TypeId) (len : Nat) (parts : Array (Nat × Operand)) (av : AV) (he : evalBuildQ T st t len parts = some av) :
    ∃ v' w' π', (Instr.buildSlice t len (parts.map fun (i, x) => (i, a.eval x))).run P w = .ok v' w' ∧ RelAt X π' st a w' ∧ RepAV X w' π' st.heap av v' := by
  unfold evalBuildQ at he
  split at he
  · cases he
  · rename_i te hte
    split at he
    · cases he
    · rename_i e hty
      split at he
      · rename_i hcond
        obtain ⟨hpl, hlen⟩ := hcond
        cases hp : partsQ e 0 parts.toList st with
        | none => rw [hp] at he; cases he
        | some p =>
          obtain ⟨fr, ys⟩ := p
          rw [hp] at he
          simp only [Option.map_some, Option.some.injEq] at he
          subst he
          obtain ⟨tr, hb⟩ := partsQ_parts _ _ _ _ hp
          obtain ⟨i, hi, hisz, hiby, hiz⟩ := (hT.ty te e hty).info
          have hu := hT.elem t te hte
          have hpl' : parts.toList.length = len := by simpa using hpl
          have hz : ∃ z : Array Value, (len * e.size = 0 ∧ z = #[]) ∨ (¬ len * e.size = 0 ∧ (zeroValue te).run P w = .ok (mkVal e (zeroVals e)) w ∧ z = (mkVal e (zeroVals e)).cells) := by
            by_cases h0 : len * e.size = 0
            · exact ⟨#[], .inl ⟨h0, rfl⟩⟩
            · exact ⟨_, .inr ⟨h0, by simp [zeroValue, typeInfo, hi, hiz], rfl⟩⟩
          obtain ⟨z, hz⟩ := hz
          obtain ⟨π1, cl, g1, g2, g3, g4, g5, g6⟩ := buildParts_sound e parts.toList 0 st π fr tr ys st ((Array.range (len * e.size)).map (z[· % z.size]!)).toList h hb (by simp [hpl'])
          have hcl : cl.length = len * e.size := by rw [g2.1, g3, hpl']
          have hsp : (splice ((Array.range (len * e.size)).map (z[· % z.size]!)).toList (0 * e.size) cl) = cl := by
            simp [splice, hcl]
          rw [hsp] at g5
          have hrun : (Instr.buildSlice t len (parts.map fun (i, x) => (i, a.eval x))).run P w = .ok (.slice (some ⟨w.heap.size, 0, none⟩) len len) (w.alloc (.cells cl.toArray te)) := by
            have h24 : ¬ (len * e.size > 2 ^ 24) := by
              have : len * e.size ≤ 64 * 64 := Nat.mul_le_mul hlen.1 hlen.2
              omega
            simp only [Instr.buildSlice, Sem.run_bind, run_underlying hu, Result.andThen_ok, (hT.ty te e hty).size, if_neg h24]
            have e1 : (parts.map fun (i, x) => (i, a.eval x)).toList = parts.toList.map fun p => (p.1, a.eval p.2) := by simp
            simp only [e1]
            have e2 : (((Array.range (len * e.size)).map (z[· % z.size]!)).toList.toArray) = (Array.range (len * e.size)).map (z[· % z.size]!) := Array.toArray_toList
            rw [e2] at g5
            rcases hz with ⟨h0, rfl⟩ | ⟨h0, hz, rfl⟩
            · rw [if_pos h0]
              simp only [Sem.run_bind, Sem.run_pure, Result.andThen_ok, g5, newRow]
              simp
            · rw [if_neg h0]
              simp only [Sem.run_bind, Sem.run_pure, Result.andThen_ok, hz, g5, newRow]
              simp
          have hblk : (w.alloc (.cells cl.toArray te)).heap[w.heap.size]? = some (.cells cl.toArray te (0, 0)) := heap_alloc_new w _
          have hB : Below w.heap.size w (w.alloc (.cells cl.toArray te)) := (Below.refl _ _).alloc (Nat.le_refl _) _
          have hlt := lt_of_heap hblk
          refine ⟨_, _, π1, hrun, g1.quiet hB, ⟨[_], ?_, rfl⟩⟩
          refine ⟨some ⟨w.heap.size, 0, none⟩, len, len, rfl, by rw [g3, hpl'], Nat.le_refl _, .inr ⟨w.heap.size, 0, rfl, hlt, fun hA => ?_, fun k x hx => ?_⟩⟩
          · rcases hA with hA | hA | ⟨_, hA⟩
            · exact absurd (g1.1.own hA).1 (Nat.lt_irrefl _)
            · exact absurd (Nat.lt_of_lt_of_le (g1.1.sc _ hA).1 g1.1.below.size) (Nat.lt_irrefl _)
            · exact absurd (Nat.lt_of_lt_of_le hA g1.1.below.size) (Nat.lt_irrefl _)
          · obtain ⟨es, k1, k2, k3⟩ := g2.2 k x hx
            refine ⟨es, k1, fun j u hu => ?_, Cells.keep hB.size (fun b hb _ => hB.block b hb) (fun _ _ h => h) e es x k3⟩
            rw [cellOf hblk, Nat.zero_add]
            simpa using k2 j u hu
      · cases he

/-- Quiet operations of a region that draws its order. -/
theorem evalB_sound {Γ : Env} (hT : TabOK P T) (hΓ : EnvOK P Γ) {st : St} {a : Act} (h : RelAt X π st a w) (o : Oper) (av : AV) (he : evalB T Γ st o = some av) :
    GoodE P X st a w av ((execOp a.eval o).run P w) := by
  obtain ⟨dst, op, ty, pos, af, gd⟩ := o
  have val : ∀ (s : Sem Value) (v : Value) (w' : World) (π' : Pi), s.run P w = .ok v w' → RelAt X π' st a w' → RepAV X w' π' st.heap av v → (execOp a.eval ⟨dst, op, ty, pos, af, gd⟩ = do pure (.value (← s))) →
      GoodE P X st a w av ((execOp a.eval ⟨dst, op, ty, pos, af, gd⟩).run P w) := by
    intro s v w' π' h1 h2 h3 h4
    rw [h4, Sem.run_bind, h1]
    exact ⟨π', h2, h3⟩
  have quiet : evalQ T Γ st ⟨dst, op, ty, pos, af, gd⟩ = some av → GoodE P X st a w av ((execOp a.eval ⟨dst, op, ty, pos, af, gd⟩).run P w) := by
    intro hq
    have := evalQ_sound hT hΓ h _ av hq
    generalize (execOp a.eval ⟨dst, op, ty, pos, af, gd⟩).run P w = r at *
    cases r with
    | halt x w' => exact this
    | ok n w' =>
      cases n <;> simp only [GoodQ] at this <;> simp only [GoodE]
      · obtain ⟨rfl, hr⟩ := this
        exact ⟨π, h, hr⟩
      · obtain ⟨rfl, hc⟩ := this
        exact ⟨rfl, hc.mono fun e w'' ⟨v, hv, hb, hr⟩ => ⟨v, hv, π, h.quiet hb, hr⟩⟩
  unfold evalB at he
  split at he
  · rename_i t len parts hop
    dsimp only at hop; subst hop
    obtain ⟨v, w', π', h1, h2, h3⟩ := evalBuildQ_sound hT h t len parts av he
    exact val _ v w' π' h1 h2 h3 rfl
  · rename_i t parts hop
    dsimp only at hop; subst hop
    obtain ⟨v', h1, h2⟩ := evalBuild_sound hT h t parts av he
    exact val _ v' w π h1 h h2 rfl
  · exact quiet he

theorem settleOps_rel {a : Act} : ∀ (l : List Operand) {π : Pi} {st st1 : St}, RelAt X π st a w → settleOps l st = some st1 → ∃ π', RelAt X π' st1 a w
  | [], π, st, st1, h, he => by
    simp only [settleOps, Option.some.injEq] at he
    subst he
    exact ⟨π, h⟩
  | x :: r, π, st, st1, h, he => by
    simp only [settleOps] at he
    cases hs : settle st (st.ev x) with
    | none => rw [hs] at he; cases he
    | some p =>
      rw [hs] at he
      obtain ⟨π1, h1, _⟩ := settle_rel h (ev_rep h.2 x) hs
      exact settleOps_rel r h1 he

/-- **Every operation is what the machine does.** -/
theorem evalOp_sound {Γ : Env} (hT : TabOK P T) (hΓ : EnvOK P Γ) {st : St} {a : Act} (h : RelAt X π st a w) (o : Oper) (av : AV) (st' : St) (he : evalOp T Γ st o = some (av, st')) :
    GoodE P X st' a w av ((execOp a.eval o).run P w) := by
  have quiet : ∀ {π : Pi} {st : St}, RelAt X π st a w → (evalQ T Γ st o).map (fun v => (v, st)) = some (av, st') → GoodE P X st' a w av ((execOp a.eval o).run P w) := by
    intro π st h he
    cases hq : evalQ T Γ st o with
    | none => rw [hq] at he; cases he
    | some v =>
      rw [hq] at he
      simp only [Option.map_some, Option.some.injEq, Prod.mk.injEq] at he
      obtain ⟨rfl, rfl⟩ := he
      have := evalQ_sound hT hΓ h o v hq
      generalize (execOp a.eval o).run P w = r at *
      cases r with
      | halt x w' => exact this
      | ok n w' =>
        cases n <;> simp only [GoodQ] at this <;> simp only [GoodE]
        · obtain ⟨rfl, hr⟩ := this
          exact ⟨π, h, hr⟩
        · obtain ⟨rfl, hc⟩ := this
          exact ⟨rfl, hc.mono fun e w'' ⟨v, hv, hb, hr⟩ => ⟨v, hv, π, h.quiet hb, hr⟩⟩
  obtain ⟨dst, op, ty, pos, af, gd⟩ := o
  have val : ∀ (s : Sem Value) (v : Value) (w' : World) (π' : Pi), s.run P w = .ok v w' → RelAt X π' st' a w' → RepAV X w' π' st'.heap av v → (execOp a.eval ⟨dst, op, ty, pos, af, gd⟩ = do pure (.value (← s))) →
      GoodE P X st' a w av ((execOp a.eval ⟨dst, op, ty, pos, af, gd⟩).run P w) := by
    intro s v w' π' h1 h2 h3 h4
    rw [h4, Sem.run_bind, h1]
    exact ⟨π', h2, h3⟩
  unfold evalOp at he
  split at he
  all_goals (rename_i hop; dsimp only at hop; try subst hop)
  · -- assign
    rename_i x
    split at he
    · rename_i d te e hx hd ht
      split at he
      · rename_i hdp
        simp only [Option.some.injEq, Prod.mk.injEq] at he
        obtain ⟨rfl, rfl⟩ := he
        obtain ⟨k1, k2, _⟩ := newNil_rel h d hdp (T.fr0 || e.flat) T.tr0 te e
        have hxr := ev_rep h.2 x
        rw [hx] at hxr
        have hxv : a.eval x = .slice none 0 0 := hxr
        show GoodE P X _ a w _ (.ok (.value (a.eval x)) w)
        rw [hxv]
        exact ⟨_, k1, k2⟩
      · cases he
    · simp only [Option.some.injEq, Prod.mk.injEq] at he
      obtain ⟨rfl, rfl⟩ := he
      exact ⟨π, h, ev_rep h.2 x⟩
  · -- alloc
    rename_i t
    split at he
    · rename_i d τ hd ht
      obtain ⟨i, hi, hisz, hiby, hiz⟩ := (hT.ty t τ ht).info
      obtain ⟨π', k1, k2⟩ := mkVar_sound h d t τ (zeroCells τ) (zeroVals τ) (zeroCells_rep τ) av st' he
      have hzc : (mkVal τ (zeroVals τ)).cells = (zeroVals τ).toArray := by
        cases τ <;> simp [mkVal, Ty.isStruct, Value.cells, zeroVals]
      refine val (Instr.alloc t true (.tuple #[])) _ _ π' ?_ k1 k2 rfl
      simp [Instr.alloc, zeroValue, typeInfo, hi, hiz, newVar, newRow, hzc]
    · cases he
  · -- box
    rename_i t x
    split at he
    · rename_i d τ hd ht
      split at he
      · rename_i cs hc
        obtain ⟨us, hv, hl, hr⟩ := cellsOf_rep (ev_rep h.2 x) hc
        obtain ⟨π', k1, k2⟩ := mkVar_sound h d t τ cs us hr av st' he
        refine val (Instr.box t (a.eval x)) _ _ π' ?_ k1 k2 rfl
        simp [Instr.box, newVar, newRow, hv]
      · cases he
    · cases he
  · -- store
    rename_i t p x
    cases hs : evalStore T st t (st.ev p) (st.ev x) with
    | none => rw [hs] at he; cases he
    | some s =>
      rw [hs] at he
      simp only [Option.map_some, Option.some.injEq, Prod.mk.injEq] at he
      obtain ⟨rfl, rfl⟩ := he
      obtain ⟨w', π', h1, h2⟩ := evalStore_sound hT h t _ _ _ _ (ev_rep h.2 p) (ev_rep h.2 x) s hs
      have : (execOp a.eval ⟨dst, .store t p x, ty, pos, af, gd⟩).run P w = .ok .skip w' := by
        show (do Instr.storeAt t (a.eval p) (a.eval x); pure Next.skip : Sem Next).run P w = _
        rw [Sem.run_bind, h1]; rfl
      rw [this]
      exact ⟨π', h2, trivial⟩
  · -- makeSlice
    rename_i t l c
    split at he
    · rename_i d hd
      obtain ⟨v, w', π', h1, h2, h3⟩ := evalMake_sound hT h d t _ _ _ _ (ev_rep h.2 l) (ev_rep h.2 c) av st' he
      exact val _ v w' π' h1 h2 h3 rfl
    · cases he
  · -- makeMap
    rename_i t
    split at he
    · rename_i d hd
      obtain ⟨v, w', π', h1, h2, h3⟩ := evalMakeMap_sound hT h d t av st' he
      exact val _ v w' π' h1 h2 h3 rfl
    · cases he
  · -- mapUpdate
    rename_i t m k x
    cases hs : evalMapSet T st t (st.ev m) (st.ev k) (st.ev x) with
    | none => rw [hs] at he; cases he
    | some s =>
      rw [hs] at he
      simp only [Option.map_some, Option.some.injEq, Prod.mk.injEq] at he
      obtain ⟨rfl, rfl⟩ := he
      obtain ⟨w', h1, h2⟩ := evalMapSet_sound hT h t _ _ _ _ _ _ (ev_rep h.2 m) (ev_rep h.2 k) (ev_rep h.2 x) s hs
      have : (execOp a.eval ⟨dst, .mapUpdate t m k x, ty, pos, af, gd⟩).run P w = .ok .skip w' := by
        show (do Instr.mapUpdate t (a.eval m) (a.eval k) (a.eval x); pure Next.skip : Sem Next).run P w = _
        rw [Sem.run_bind, h1]; rfl
      rw [this]
      exact ⟨π, h2, trivial⟩
  · -- insert
    rename_i t m k x
    cases hs : evalMapSet T st t (st.ev m) (st.ev k) (st.ev x) with
    | none => rw [hs] at he; cases he
    | some s =>
      rw [hs] at he
      simp only [Option.map_some, Option.some.injEq, Prod.mk.injEq] at he
      obtain ⟨rfl, rfl⟩ := he
      obtain ⟨w', h1, h2⟩ := evalMapSet_sound hT h t _ _ _ _ _ _ (ev_rep h.2 m) (ev_rep h.2 k) (ev_rep h.2 x) s hs
      have : (execOp a.eval ⟨dst, .insert t m k x, ty, pos, af, gd⟩).run P w = .ok .skip w' := by
        show (do Instr.mapUpdate t (a.eval m) (a.eval k) (a.eval x); pure Next.skip : Sem Next).run P w = _
        rw [Sem.run_bind, h1]; rfl
      rw [this]
      exact ⟨π, h2, trivial⟩
  · -- buildSlice
    rename_i t len parts
    split at he
    · rename_i d hd
      obtain ⟨v, w', π', h1, h2, h3⟩ := evalBuildSlice_sound hT h d t len parts av st' he
      exact val _ v w' π' h1 h2 h3 rfl
    · cases he
  · -- build
    rename_i t parts
    cases hb : evalBuild T st t parts with
    | none => rw [hb] at he; cases he
    | some v =>
      rw [hb] at he
      simp only [Option.map_some, Option.some.injEq, Prod.mk.injEq] at he
      obtain ⟨rfl, rfl⟩ := he
      obtain ⟨v', h1, h2⟩ := evalBuild_sound hT h t parts v hb
      exact val _ v' w π h1 h h2 rfl
  · -- append
    rename_i args ts
    split at he
    · rename_i d x y t t' hd hargs hts
      split at he
      · rename_i htt; subst htt
        have e1 : args = #[x, y] := by apply Array.ext'; simpa using hargs
        have e2 : ts = #[t, t] := by apply Array.ext'; simpa using hts
        subst e1; subst e2
        obtain ⟨v, w', π', h1, h2, h3⟩ := evalAppend_sound hT h d t ty x y av st' he
        refine val (Builtin.append_ #[t, t] ty #[a.eval x, a.eval y]) v w' π' h1 h2 h3 ?_
        simp [execOp, resolve, invoke, builtin]
      · cases he
    · cases he
  · -- copy
    rename_i args ts
    split at he
    · rename_i x y t t' hargs hts
      have e1 : args = #[x, y] := by apply Array.ext'; simpa using hargs
      have e2 : ts = #[t, t'] := by apply Array.ext'; simpa using hts
      subst e1; subst e2
      obtain ⟨v, w', h1, h2, h3⟩ := evalCopy_sound hT h t t' ty _ _ _ _ (ev_rep h.2 x) (ev_rep h.2 y) av st' he
      refine val (Builtin.copy_ #[t, t'] ty #[a.eval x, a.eval y]) v w' π h1 h2 h3 ?_
      simp [execOp, resolve, invoke, builtin]
    · cases he
  · -- clear
    rename_i args ts
    split at he
    · rename_i x t hargs hts
      have e1 : args = #[x] := by apply Array.ext'; simpa using hargs
      have e2 : ts = #[t] := by apply Array.ext'; simpa using hts
      subst e1; subst e2
      cases hs : evalClear T st t (st.ev x) with
      | none => rw [hs] at he; cases he
      | some s =>
        rw [hs] at he
        simp only [Option.map_some, Option.some.injEq, Prod.mk.injEq] at he
        obtain ⟨rfl, rfl⟩ := he
        obtain ⟨v, w', h1, h2⟩ := evalClear_sound hT h t ty _ _ (ev_rep h.2 x) s hs
        refine val (Builtin.clear_ #[t] ty #[a.eval x]) v w' π h1 h2 trivial ?_
        simp [execOp, resolve, invoke, builtin]
    · cases he
  · -- a call
    rename_i f args ts
    split at he
    · rename_i s hΓf
      have hs : MSound P f s := hΓ f _ hΓf
      have := evalCallM_sound h hs dst (args.toList.map st.ev) (args.toList.map a.eval) (by simp) (fun i c v => reps_ops h args.toList i c v) av st' he
      rw [run_call_value a.eval f args ts dst ty pos af gd rfl hs.enter]
      refine ⟨rfl, ?_⟩
      rwa [show (args.toList.map a.eval).toArray = args.map a.eval from by apply Array.ext'; simp] at this
    · rename_i s hΓf
      split at he
      · cases hs : settleOps args.toList st with
        | none => rw [hs] at he; cases he
        | some st1 =>
          rw [hs] at he
          obtain ⟨π1, h1⟩ := settleOps_rel args.toList h hs
          exact quiet h1 he
      · exact quiet h he
    · exact quiet h he
  · exact quiet h he
end
end Go.Proofs.Ytfghmbpogmcboaa
