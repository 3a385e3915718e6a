/-
  AX, part 12: append, make, and rows written out.
-/
import Derived.Test.YtingphpncocimaaAx11
namespace Go.Proofs.Ytingphpncocimaa
open Go.RowKit

section
variable {P : Program} {T : Tab} {X : Ctx} {w w' : World} {π : Pi} {H : List (Nat × OB)}

/-- The cells 'cl' are those of the elements zs, one behind the other. -/
def Flat (w : World) (S : Nat → Prop) (e : Ty) (cl : List Value) (zs : List e.den) : Prop :=
  cl.length = zs.length * e.size ∧ ∀ (i : Nat) (z : e.den), zs[i]? = some z → ∃ es : List Value, es.length = e.size ∧ (∀ j u, es[j]? = some u → cl[i * e.size + j]? = some u) ∧ Cells w S e es z

theorem Flat.append {S : Nat → Prop} {e : Ty} {c1 c2 : List Value} {z1 z2 : List e.den} (h1 : Flat w S e c1 z1) (h2 : Flat w S e c2 z2) : Flat w S e (c1 ++ c2) (z1 ++ z2) := by
  refine ⟨by simp [h1.1, h2.1, Nat.add_mul], fun i z hz => ?_⟩
  by_cases hi : i < z1.length
  · rw [List.getElem?_append_left hi] at hz
    obtain ⟨es, he, hc, hr⟩ := h1.2 i z hz
    refine ⟨es, he, fun j u hu => ?_, hr⟩
    have := hc j u hu
    rw [List.getElem?_append_left (List.getElem?_eq_some_iff.1 this).1]; exact this
  · rw [List.getElem?_append_right (by omega)] at hz
    obtain ⟨es, he, hc, hr⟩ := h2.2 _ z hz
    refine ⟨es, he, fun j u hu => ?_, hr⟩
    have := hc j u hu
    have e1 : i * e.size = z1.length * e.size + (i - z1.length) * e.size := by rw [← Nat.add_mul]; congr 1; omega
    rw [List.getElem?_append_right (by rw [h1.1]; omega), h1.1, show i * e.size + j - z1.length * e.size = (i - z1.length) * e.size + j by omega]
    exact this
theorem Flat.cells {S S' : Nat → Prop} {e : Ty} {cl : List Value} {zs : List e.den} (h : Flat w S e cl zs) (hc : ∀ es z, Cells w S e es z → Cells w' S' e es z) : Flat w' S' e cl zs :=
  ⟨h.1, fun i z hz => let ⟨es, a, b, c⟩ := h.2 i z hz; ⟨es, a, b, hc es z c⟩⟩
theorem Flat.nil {S : Nat → Prop} {e : Ty} : Flat w S e [] [] := ⟨by simp, fun i z hz => by simp at hz⟩

theorem arrAt_of_flat {r : Real} {fr : Bool} {e : Ty} {tid : TypeId} {zs : List e.den} {cl : List Value} {cur : Array Value} (hB : X.w0.heap.size ≤ r.g) (hg : w.heap[r.g]? = some (.cells cur tid (0, 0)))
    (hs : cur.size = (r.o + r.cap) * e.size) (hm : r.cap ≤ maxLen) (hl : zs.length ≤ r.cap) (hcl : ∀ k u, cl[k]? = some u → cur[r.o * e.size + k]? = some u) (hf : Flat w (Avoid X.w0.heap.size X.Sc π fr) e cl zs) :
    ArrAt X w π (some r) fr e tid zs :=
  ⟨hB, cur, hg, hs, hm, hl, fun i z hz => by
    obtain ⟨es, a, b, c⟩ := hf.2 i z hz
    refine ⟨es, a, fun j u hu => ?_, c⟩
    have := hcl _ u (b j u hu)
    rw [← Nat.add_assoc, ← Nat.add_mul] at this
    exact this⟩

/-- The elements of a part of a row of the call's own. -/
theorem flat_of_arr {r : Real} {fr : Bool} {e : Ty} {tid : TypeId} {xs : List e.den} {off len : Nat} (h : ArrAt X w π (some r) fr e tid xs) (hl : off + len ≤ xs.length) :
    ∃ cur cl, w.heap[r.g]? = some (.cells cur tid (0, 0)) ∧ cur.size = (r.o + r.cap) * e.size ∧ Flat w (Avoid X.w0.heap.size X.Sc π fr) e cl ((xs.drop off).take len) ∧
      ∀ k u, cl[k]? = some u → k < len * e.size ∧ cur[(r.o + off) * e.size + k]? = some u := by
  obtain ⟨h1, cur, h2, h3, h4, h5, h6⟩ := h
  have hll : ((xs.drop off).take len).length = len := by simp; omega
  have hin : (r.o + off) * e.size + len * e.size ≤ cur.size := by
    rw [← Nat.add_mul, h3]; exact Nat.mul_le_mul_right _ (by omega)
  have hclk : ∀ k u, ((cur.toList.drop ((r.o + off) * e.size)).take (len * e.size))[k]? = some u ↔ k < len * e.size ∧ cur[(r.o + off) * e.size + k]? = some u := by
    intro k u
    rw [List.getElem?_take]
    split
    · rename_i hk; rw [List.getElem?_drop]; simp [hk]
    · rename_i hk; simp [hk]
  refine ⟨cur, (cur.toList.drop ((r.o + off) * e.size)).take (len * e.size), h2, h3, ⟨by rw [hll]; simp; omega, fun i z hz => ?_⟩, fun k u hu => (hclk k u).1 hu⟩
  have hi : i < len := by have := (List.getElem?_eq_some_iff.1 hz).1; omega
  have hz' : xs[off + i]? = some z := by
    rw [List.getElem?_take, if_pos hi, List.getElem?_drop] at hz; exact hz
  obtain ⟨es, a, b, c⟩ := h6 (off + i) z hz'
  refine ⟨es, a, fun j u hu => (hclk _ u).2 ⟨?_, ?_⟩, c⟩
  · have hj := (List.getElem?_eq_some_iff.1 hu).1
    have : (i + 1) * e.size ≤ len * e.size := Nat.mul_le_mul_right _ (by omega)
    rw [Nat.add_mul, Nat.one_mul] at this
    omega
  · have := b j u hu
    rw [← Nat.add_assoc, Nat.add_mul (r.o + off) i] at this
    rw [← Nat.add_assoc]; exact this

theorem run_append_zero {t ty e : TypeId} {i : TypeInfo} (hu : P.underlying t = some (.slice e)) (hi : P.info? e = some i) (b : Option Addr) (len cap : Nat) (y : Option Addr) (c : Nat) (hl : len ≤ cap) :
    (Builtin.append_ #[t, t] ty #[.slice b len cap, .slice y 0 c]).run P w = .ok (.slice b len cap) w := by
  cases b <;> cases y <;> simp [Builtin.append_, run_underlying hu, sizeOf, typeInfo, hi, Builtin.lenOf, hl, Builtin.firstCells, loadCells, loadCellsFrom, storeCells]

theorem run_append_room_off {t ty e : TypeId} {i : TypeInfo} (hu : P.underlying t = some (.slice e)) (hi : P.info? e = some i) (g ob sLen sCap : Nat) (cur : Array Value) (tid : TypeId) (hg : w.heap[g]? = some (.cells cur tid (0, 0)))
    (a : Addr) (m c : Nat) (news : List Value) (hl : news.length = m * i.size) (hnews : ∀ j u, news[j]? = some u → w.cell? (a.add j) = some u) (h1 : ∀ u ∈ news, u.oneCell' = true)
    (hroom : sLen + m ≤ sCap) (hfit : ob + sLen * i.size + news.length ≤ cur.size) :
    (Builtin.append_ #[t, t] ty #[.slice (some ⟨g, ob, none⟩) sLen sCap, .slice (some a) m c]).run P w =
      .ok (.slice (some ⟨g, ob, none⟩) (sLen + m) sCap) (w.setRow g (splice cur.toList (ob + sLen * i.size) news).toArray) := by
  have hf := run_firstCells_some (P := P) w i.size m a m c news hl hnews
  have hst := run_storeCells_at P g (ob + sLen * i.size) tid news 0 cur w hg (by simpa using hfit) h1
  simp only [Nat.add_zero] at hst
  simp [Builtin.append_, run_underlying hu, sizeOf, typeInfo, hi, Builtin.lenOf, hroom, hf, Addr.add_lit, hst, splice]

theorem size_zeroCells' (z : Array Value) (n : Nat) : (Builtin.zeroCells z n).size = n * z.size := by simp [Builtin.zeroCells]

/-- A new row in the place of l. -/
theorem newRow_rel {st : St} {a : Act} (h : RelAt X π st a w) (l : Nat) (fr : Bool) (e : Ty) (te : TypeId) (zs : List e.den) (cl : List Value) (cur : Array Value) (cap : Nat) (w1 : World)
    (hw1 : w1 = w.drew.alloc (.cells cur te) ∨ w1 = w.alloc (.cells cur te))
    (hs : cur.size = cap * e.size) (hm : cap ≤ maxLen) (hl : zs.length ≤ cap) (hcl : ∀ (k : Nat) (u : Value), cl[k]? = some u → cur[k]? = some u) (hf : Flat w (Avoid X.w0.heap.size X.Sc π fr) e cl zs) :
    RelAt X (upd π l (some ⟨w.heap.size, 0, cap⟩)) (st.new l (.arr fr e te zs)) a w1 ∧
      ∀ n, n = zs.length → RepAV X w1 (upd π l (some ⟨w.heap.size, 0, cap⟩)) (st.new l (.arr fr e te zs)).heap (.at (.own l 0 n)) (.slice (some ⟨w.heap.size, 0, none⟩) n cap) := by
  have hgb : w.grownBy w1 ((π l).map (·.g)) := by
    rcases hw1 with rfl | rfl
    · exact ⟨rfl, rfl, rfl, by simp, fun k hk _ => Below.heap_alloc w.drew _ k hk⟩
    · exact World.grownBy_alloc w _ _
  have hnew : w1.heap[w.heap.size]? = some (.cells cur te (0, 0)) := by
    rcases hw1 with rfl | rfl
    · exact heap_alloc_new w.drew _
    · exact heap_alloc_new w _
  refine ⟨h.replace l _ _ hgb (fun r hr => by cases hr; exact .inr (Nat.le_refl _)) fun m => ?_, fun n hn => ⟨fr, e, te, zs, St.new_heap_same st l _, by omega, ?_⟩⟩
  · exact arrAt_of_flat h.1.below.size hnew (by simpa using hs) hm hl (by simpa using hcl) (hf.cells fun es z hc => m.cells _ _ _ _ hc)
  · rw [upd_same]
    exact ⟨_, rfl, by dsimp only; omega, fun _ => by simp⟩

/-- **append onto a row of the call's own.** -/
theorem append_sound (hT : TabOK P T) {st : St} {a : Act} (h : RelAt X π st a w) {t te ty : TypeId} {e : Ty} (hte : T.elem t = some te) (hty : T.ty te = some e) {l off len : Nat} {fr fr2 : Bool} {xs ys : List e.den} {vb vy : Value}
    (hl : hget st.heap l = some (.arr fr e te xs)) (hb : RepAV X w π st.heap (.at (.own l off len)) vb) (hy : Cells w (Avoid X.w0.heap.size X.Sc π fr2) (.slice e) [vy] ys) (hbig : len + ys.length ≤ maxRow) :
    ∃ v' w' π', (Builtin.append_ #[t, t] ty #[vb, vy]).run P w = .ok v' w' ∧ RelAt X π' (st.new l (.arr (fr && fr2) e te (((xs.drop off).take len) ++ ys))) a w' ∧
      RepAV X w' π' (st.new l (.arr (fr && fr2) e te (((xs.drop off).take len) ++ ys))).heap (.at (.own l 0 (len + ys.length))) v' := by
  have hu := hT.elem t te hte
  obtain ⟨i, hi, hisz, hiby, hiz⟩ := (hT.ty te e hty).info
  obtain ⟨fr0, e0, tid0, xs0, g1, hlen, hov⟩ := hb
  rw [hl] at g1; cases g1
  have hA := (h.1.heap l).blk hl
  simp only [BlockAt] at hA
  have hcl : ((xs.drop off).take len).length = len := by simp; omega
  have hbytes : (len + ys.length) * i.bytes ≤ 140737488355328 := by
    have : (len + ys.length) * i.bytes ≤ 4294967296 * 256 := Nat.mul_le_mul hbig hiby
    omega
  have hsmall : len + ys.length ≤ maxLen := by unfold maxRow at hbig; simp only [maxLen]; omega
  obtain ⟨ad, c, rfl, hor⟩ := slice_news hy
  have hzs : (mkVal e (zeroVals e)).cells.size = i.size := by
    rw [hisz]
    have hz : ∀ τ : Ty, (zeroVals τ).length = τ.size := by
      intro τ
      induction τ with
      | pair a r iha ihr => simp [zeroVals, Ty.size, iha, ihr]
      | _ => rfl
    cases hst : e.isStruct with
    | true => simp [mkVal, hst, Value.cells, hz]
    | false => cases e <;> simp_all [Ty.isStruct, mkVal, zeroVals, Value.cells, Ty.size]
  by_cases hm0 : ys = []
  · -- nothing is appended
    subst hm0
    simp only [List.append_nil, List.length_nil, Nat.add_zero]
    cases hp : π l with
    | none =>
      rw [hp] at hov hA
      obtain ⟨rfl, rfl, rfl⟩ := hov
      have hr := run_append_zero (P := P) (w := w) (ty := ty) hu hi none 0 0 ad c (Nat.le_refl _)
      refine ⟨_, w, upd π l none, hr, h.replace l none _ (grown_self w _) (fun r hr => by cases hr) (fun _ => ?_), ?_⟩
      · simp only [BlockAt, ArrAt]; simp
      · exact ⟨_, e, te, _, St.new_heap_same st l _, by simp, by rw [upd_same]; exact ⟨rfl, rfl, rfl⟩⟩
    | some r =>
      rw [hp] at hov hA
      obtain ⟨adb, rfl, h10, h11⟩ := hov
      have hr := run_append_zero (P := P) (w := w) (ty := ty) hu hi (some adb) len (r.cap - off) ad c (by omega)
      obtain ⟨cur, cl, k1, k2, k3, k4⟩ := flat_of_arr hA hlen
      have hcap : r.cap ≤ maxLen := by obtain ⟨_, _, _, _, h4, _⟩ := hA; exact h4
      refine ⟨_, w, upd π l (some ⟨r.g, r.o + off, r.cap - off⟩), hr, h.replace l _ _ (grown_self w _) (fun r' hr' => by cases hr'; exact .inl ⟨r, hp, rfl⟩) (fun m => ?_), ?_⟩
      · exact arrAt_of_flat hA.1 k1 (by rw [k2]; congr 1; dsimp only; omega) (by dsimp only; omega) (by rw [hcl]; dsimp only; omega) (fun k u hu => (k4 k u hu).2) (k3.cells fun es z hc => (m.cells _ _ _ _ hc).and_left)
      · refine ⟨_, e, te, _, St.new_heap_same st l _, by rw [hcl]; omega, ?_⟩
        rw [upd_same]
        exact ⟨adb, rfl, by dsimp only; omega, fun hlt => by simpa using h11 (by dsimp only at hlt; omega)⟩
  · rcases hor with h0 | ⟨g, o, rfl, news, n1, n2, n3, n4⟩
    · exact absurd h0 hm0
    · have hpos : 0 < ys.length := by
        rcases Nat.eq_zero_or_pos ys.length with h0 | h0
        · exact absurd (List.eq_nil_of_length_eq_zero h0) hm0
        · exact h0
      have n1' : news.length = ys.length * i.size := by rw [hisz]; exact n1
      have n2' : ∀ j u, news[j]? = some u → w.cell? ((⟨g, o, none⟩ : Addr).add j) = some u := fun j u hu => by rw [Addr.add_lit]; exact n2 j u hu
      have hfn : Flat w (Avoid X.w0.heap.size X.Sc π fr2) e news ys := ⟨n1, n4⟩
      have hzlen : ∀ zs : List e.den, (((xs.drop off).take len) ++ ys).length = len + ys.length := fun _ => by simp [hcl]
      cases hp : π l with
      | none =>
        rw [hp] at hov hA
        obtain ⟨rfl, rfl, rfl⟩ := hov
        have hr := run_append_nil (P := P) w t ty te i _ hu hi hiz ⟨g, o, none⟩ ys.length c news n1' n2' hpos (by simp only [maxLen] at hsmall; omega) (by have := hbytes; rw [Nat.zero_add] at this; omega)
        have hge := grownCap_ge w ys.length 0 te
        have hcm := grownCap_le_maxLen w ys.length 0 te (by omega)
        have := newRow_rel h l (fr && fr2) e te ((List.take 0 (List.drop 0 xs)) ++ ys) news (news.toArray ++ Builtin.zeroCells (mkVal e (zeroVals e)).cells (grownCap w ys.length 0 te - ys.length)) (grownCap w ys.length 0 te) _ (.inl rfl) (by
            rw [Array.size_append, List.size_toArray, size_zeroCells', hzs, n1, hisz, ← Nat.add_mul]; congr 1; omega) hcm (by simpa using hge) (fun k u hu => by
            rw [Array.getElem?_append_left (by simpa using (List.getElem?_eq_some_iff.1 hu).1)]; simpa using hu) (by simpa using hfn.cells fun es z hc => hc.and_right)
        refine ⟨_, _, _, hr, this.1, ?_⟩
        have := this.2 ys.length (by simp)
        simpa using this
      | some r =>
        rw [hp] at hov hA
        obtain ⟨adb, rfl, h10, h11⟩ := hov
        obtain ⟨cur, cl, k1, k2, k3, k4⟩ := flat_of_arr hA hlen
        have hcap : r.cap ≤ maxLen := by obtain ⟨_, _, _, _, h4, _⟩ := hA; exact h4
        have k3l : cl.length = len * e.size := by rw [k3.1, hcl]
        by_cases hroom : len + ys.length ≤ r.cap - off
        · -- there is room
          have hadb := h11 (by omega)
          subst hadb
          have hfit : (r.o + off) * e.size + len * i.size + news.length ≤ cur.size := by
            rw [hisz, n1, ← Nat.add_mul, ← Nat.add_mul, k2]
            exact Nat.mul_le_mul_right _ (by omega)
          have hfit' : (r.o + off) * e.size + len * i.size + news.length ≤ cur.toList.length := by simpa using hfit
          have hr := run_append_room_off (P := P) (w := w) (ty := ty) hu hi r.g ((r.o + off) * e.size) len (r.cap - off) cur te k1 ⟨g, o, none⟩ ys.length c news n1' n2' n3 hroom hfit
          refine ⟨_, _, upd π l (some ⟨r.g, r.o + off, r.cap - off⟩), hr, h.replace l _ _ (by rw [hp]; exact grown_setRow w r.g _) (fun r' hr' => by cases hr'; exact .inl ⟨r, hp, rfl⟩) (fun m => ?_), ?_⟩
          · refine arrAt_of_flat (cl := cl ++ news) hA.1 (setRow_heap w r.g cur _ te _ k1) ?_ (by dsimp only; omega) (by rw [hzlen xs]; dsimp only; omega) (fun k u hu => ?_)
              (((k3.cells fun es z hc => (m.cells _ _ _ _ hc).and_left)).append (hfn.cells fun es z hc => (m.cells _ _ _ _ hc).and_right))
            · rw [List.size_toArray, splice_length _ _ _ hfit', Array.length_toList, k2]; congr 1; dsimp only; omega
            · dsimp only
              rw [List.getElem?_toArray, splice_get _ _ _ _ hfit']
              by_cases hk : k < cl.length
              · rw [List.getElem?_append_left hk] at hu
                rw [if_pos (by rw [hisz]; omega)]
                simpa using (k4 k u hu).2
              · rw [List.getElem?_append_right (by omega)] at hu
                have := (List.getElem?_eq_some_iff.1 hu).1
                rw [if_neg (by rw [hisz]; omega), if_pos (by rw [hisz]; omega)]
                rw [show (r.o + off) * e.size + k - ((r.o + off) * e.size + len * i.size) = k - cl.length by rw [hisz, k3l]; omega]
                exact hu
          · refine ⟨_, e, te, _, St.new_heap_same st l _, by rw [hzlen xs]; omega, ?_⟩
            rw [upd_same]
            exact ⟨_, rfl, by dsimp only; omega, fun _ => by simp⟩
        · -- a new row
          have hold : ∀ j u, cl[j]? = some u → w.cell? (adb.add j) = some u := by
            intro j u hu
            obtain ⟨q1, q2⟩ := k4 j u hu
            have hlp : 0 < len := by
              rcases Nat.eq_zero_or_pos len with h0 | h0
              · rw [h0] at q1; simp at q1
              · exact h0
            rw [h11 (by omega), Addr.add_lit, cellOf k1]; exact q2
          have hr := run_append_grow (P := P) w t ty te i _ hu hi hiz adb len (r.cap - off) cl (by rw [hisz]; exact k3l) hold ⟨g, o, none⟩ ys.length c news n1' n2' (by omega) (by simp only [maxLen] at hsmall; omega) (growslice_fits (by omega) hbytes)
          have hge := grownCap_ge w (len + ys.length) (r.cap - off) te
          have hcm := grownCap_le_maxLen w (len + ys.length) (r.cap - off) te hsmall
          have := newRow_rel h l (fr && fr2) e te (((xs.drop off).take len) ++ ys) (cl ++ news) (cl.toArray ++ news.toArray ++ Builtin.zeroCells (mkVal e (zeroVals e)).cells (grownCap w (len + ys.length) (r.cap - off) te - (len + ys.length))) (grownCap w (len + ys.length) (r.cap - off) te) _ (.inl rfl) (by
              rw [Array.size_append, Array.size_append, List.size_toArray, List.size_toArray, size_zeroCells', hzs, k3l, n1, hisz, ← Nat.add_mul, ← Nat.add_mul]; congr 1; omega) hcm (by rw [hzlen xs]; exact hge) (fun k u hu => by
              have hk := (List.getElem?_eq_some_iff.1 hu).1
              rw [Array.getElem?_append_left (by simpa using hk)]
              simpa using hu) ((k3.cells fun es z hc => hc.and_left).append (hfn.cells fun es z hc => hc.and_right))
          exact ⟨_, _, _, hr, this.1, this.2 _ (hzlen xs).symm⟩
end
end Go.Proofs.Ytingphpncocimaa
