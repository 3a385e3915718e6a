/-
  Part 25 of the proof that the statement FnExactIsMethodSolution holds.
-/
import Derived.Test.YtebabhocakedaaaCIsMethodSolution23
namespace Go.Proofs.Ytebabhocakedaaa
open Go.RowKit
section
variable {P:Program} {T:Tab} {Γ:Env} {X:Ctx} {w w':World} {π:Pi} {ops:Array Oper} {hd tl:List Nat}
structure Of (ops:Array Oper) (tl fl:List Nat) (listed:Array Bool):Prop where
 size:listed.size=ops.size
 done: ∀i,i∈fl→listed.getD i false=true
 closed: ∀j oj,ops[j]?=some oj→listed.getD j false=true→ ∀e∈oj.after,Region.binds .any e=true→listed.getD e.on false=true
 tail: ∀t,t∈tl→listed.getD t true=false
theorem Of.set {fl:List Nat} {i:Nat} {listed:Array Bool} (inv:Of ops tl fl listed) (hi:i∈Region.ready .any ops listed) (hin:i∉tl):Of ops tl fl (listed.setIfInBounds i true):=by
 obtain ⟨_,oi,hoi,hall⟩:=mem_ready.1 hi
 refine ⟨by simp [inv.size],fun k hk=>getD_set_true (inv.done k hk),fun j oj hj hl e he hb=>?_,fun t ht=>by
  have hne:i≠t:=fun e=>hin (by rw [e];exact ht)
  rw [getD_set_ne true hne];exact inv.tail t ht⟩
 by_cases hij:i=j
 ·subst hij
  have:oj=oi:=Option.some.inj (hj.symm.trans hoi)
  subst this
  exact getD_set_true (hall e he hb)
 ·rw [getD_set_ne false hij] at hl
  exact getD_set_true (inv.closed j oj hj hl e he hb)
theorem Aio: ∀(k:Nat) (r:List Nat),Acw.chain ops k r=true→ ∀t,t∈r→ ∃k',(k'=k∨k'∈r)∧Region.waitsFor .any ops t k'=true
 |_,[],_,t,ht=>by cases ht
 |k,t0::r,h,t,ht=>by
  simp only [Acw.chain,Bool.and_eq_true] at h
  rcases List.mem_cons.1 ht with rfl|ht
  ·exact ⟨k, .inl rfl,h.1⟩
  ·obtain ⟨k',h1,h2⟩:=Aio t0 r h.2 t ht
   exact ⟨k', .inr (by rcases h1 with rfl|h1<;>simp [*]),h2⟩
theorem Aua {fl:List Nat} {listed:Array Bool} (hs:Acw ops hd tl=true) (inv:Of ops tl fl listed) (hsz: ∀i,i∈hd→i<ops.size):
  ∀(d i:Nat),ops.size-i=d→i∈hd→listed.getD i true=false→ ∀t,t∈tl→t∉Region.ready .any ops listed:=by
 cases tl with
 |nil=>intro d i _ _ _ t ht;cases ht
 |cons f r=>
  simp only [Acw,Bool.and_eq_true] at hs
  obtain ⟨hs1,hs2⟩:=hs
  intro d
  induction d using Nat.strongRecOn with
  |_ d ih=>
   intro i hd' hi hun t ht hr
   obtain ⟨_,ot,hot,hall⟩:=mem_ready.1 hr
   rcases List.mem_cons.1 ht with rfl|htr
   ·have h1:=List.all_eq_true.1 hs1 i hi
    obtain ⟨j,hj,hj2⟩:=List.any_eq_true.1 h1
    simp only [Bool.and_eq_true,decide_eq_true_eq] at hj2
    obtain ⟨oj,hoj,e,he,hb,hon⟩:=Region.waitsFor_spec hj2.2
    rcases List.mem_cons.1 hj with rfl|hjh
    ·have:oj=ot:=Option.some.inj (hoj.symm.trans hot)
     subst this
     have h2:=hall e he hb
     rw [hon,getD_both hun] at h2
     cases h2
    ·cases hl:listed.getD j false with
     |true=>
      have h2:=inv.closed j oj hoj hl e he hb
      rw [hon,getD_both hun] at h2
      cases h2
     |false=>
      have hjs:j<listed.size:=by rw [inv.size];exact hsz j hjh
      have:=hsz j hjh
      exact ih (ops.size-j) (by omega) j rfl hjh (getD_in hjs hl) t (by simp) hr
   ·obtain ⟨k',h1,h2⟩:=Aio f r hs2 t htr
    obtain ⟨o',ho',e,he,hb,hon⟩:=Region.waitsFor_spec h2
    have:o'=ot:=Option.some.inj (ho'.symm.trans hot)
    subst this
    have h3:=hall e he hb
    have hk:k'∈f::r:=by rcases h1 with rfl|h1<;>simp [*]
    rw [hon,getD_both (inv.tail k' hk)] at h3
    cases h3
def Baq (T:Tab) (Γ:Env) (ops:Array Oper) (hd:List Nat) (L:Array Bool→St→Prop):Nat→Array Bool→St→Prop
 |0,listed,st=>L listed st
 |f+1,listed,st=>
  Region.ready .any ops listed≠ []∧ ∀i∈Region.ready .any ops listed,i∈hd∧ ∃o v,ops[i]?=some o∧Xq T Γ ops st o=some v∧Baq T Γ ops hd L f (listed.setIfInBounds i true) (st.put o.dst v)
theorem Ar7 (hT:Bt P T) (hΓ:Gl P Γ) {Q:Exit→Act→World→Prop} {K:Act→World→Prop} {st:St} {a:Act} (h:Rel X st a w) {i:Nat} {o:Oper} {v:AV} (ho:ops[i]?=some o) (hv:Xq T Γ ops st o=some v)
  (hK: ∀a' w',Rel X (st.put o.dst v) a' w'→K a' w'):wpOp P ops Q i K a w:=by
 obtain ⟨π,h⟩:=h
 have run:Oi T Γ st o=some v→o.wp P a w K Q:=fun he=>Ahf (X:=X) (st':=st) (av:=v) (Ary hT hΓ h o v he) hK
 have skip:v= .at .skip→K (a.put o.dst undef) w:=fun e=>by subst e;exact hK _ _ ⟨π,h.put o.dst Atx⟩
 unfold wpOp
 simp only [ho]
 unfold Xq at hv
 split at hv
 ·rename_i hg
  rw [if_pos (by simp [Region.wanted,hg])]
  exact .inl (run hv)
 ·rename_i j want hg
  split at hv
  ·rename_i b hb
   have hy:=(Vd h j).1 b hb
   split at hv
   ·rename_i hbw
    rw [if_pos (by simp only [Region.wanted,hg,hy];simpa using hbw)]
    exact .inl (run hv)
   ·rename_i hbw
    rw [if_neg (by simp only [Region.wanted,hg,hy];simpa using hbw)]
    simp only [Option.some.injEq] at hv
    exact skip hv.symm
  ·rename_i hb
   have hy:=(Vd h j).2 hb
   rw [if_neg (by simp [Region.wanted,hg,hy])]
   simp only [Option.some.injEq] at hv
   exact skip hv.symm
  ·cases hv
theorem Abu (hT:Bt P T) (hΓ:Gl P Γ) {g:Nat} {L:Array Bool→St→Prop} {Q:Exit→Act→World→Prop} (hL: ∀listed st a w,L listed st→Rel X st a w→wpAny P .any ops Q g listed a w):
  ∀(f:Nat) (listed:Array Bool) (st:St) (a:Act) (w:World),Baq T Γ ops hd L f listed st→Rel X st a w→wpAny P .any ops Q (f+g) listed a w
 |0,listed,st,a,w,h,hr=>by rw [Nat.zero_add];exact hL _ _ _ _ h hr
 |f+1,listed,st,a,w,h,hr=>by
  rw [show f+1+g=(f+g)+1 by omega]
  refine ⟨fun h0=>absurd h0 h.1,fun i hi=>?_⟩
  obtain ⟨_,o,v,ho,hv,hrest⟩:=h.2 i hi
  exact Ar7 hT hΓ hr ho hv fun a' w' h'=>Abu hT hΓ hL f _ _ _ _ hrest h'
theorem Auv {fl:List Nat} {i:Nat} {oi:Oper} {v:AV} {L:Array Bool→St→Prop} (hi:ops[i]?=some oi) (hs:Acw ops hd tl=true) (hsz: ∀i,i∈hd→i<ops.size) (hin:i∈hd)
  (hall: ∀j,j<ops.size→j∈fl∨j∈hd∨j∈tl) (hdis: ∀j,j∈hd→j∉tl) (hdone: ∀listed st,L listed st→ ∀j∈Region.ready .any ops listed,j∈tl):
  ∀(f:Nat) (listed:Array Bool) (st:St),Of ops tl fl listed→
   (∀j oj,ops[j]?=some oj→j≠i→listed.getD j true=false→(∀e∈oj.after,Region.binds .any e=true→e.on≠i)→oi.apart ops oj=true)→
   i∈Region.ready .any ops listed→Xq T Γ ops st oi=some v→
   Baq T Γ ops hd L f (listed.setIfInBounds i true) (st.put oi.dst v)→Baq T Γ ops hd L (f+1) listed st:=by
 intro f
 have inhd: ∀listed,Of ops tl fl listed→i∈Region.ready .any ops listed→ ∀j,j∈Region.ready .any ops listed→j∈hd:=by
  intro listed inv hr j hj
  obtain ⟨hun,oj,hoj,_⟩:=mem_ready.1 hj
  rcases hall j (Array.getElem?_eq_some_iff.1 hoj).1 with h|h|h
  ·have h1:=inv.done j h
   rw [getD_both hun] at h1;cases h1
  ·exact h
  ·exact absurd hj (Aua hs inv hsz _ i rfl hin (mem_ready.1 hr).1 j h)
 induction f with
 |zero=>
  intro listed st inv _ hr hv Hh
  refine ⟨fun h=>(by rw [h] at hr;cases hr),fun j hj=>?_⟩
  have hjh:=inhd listed inv hr j hj
  refine ⟨hjh,?_⟩
  by_cases hji:j=i
  ·subst hji;exact ⟨oi,v,hi,hv,Hh⟩
  ·exact absurd (hdone _ _ Hh j (ready_mono hj hji)) (hdis j hjh)
 |succ f ih=>
  intro listed st inv hfree hr hv Hh
  have hun:=(mem_ready.1 hr).1
  refine ⟨fun h=>(by rw [h] at hr;cases hr),fun j hj=>?_⟩
  have hjh:=inhd listed inv hr j hj
  refine ⟨hjh,?_⟩
  by_cases hji:j=i
  ·subst hji;exact ⟨oi,v,hi,hv,Hh⟩
  ·obtain ⟨_,oj,vj,hoj,hvj,hrest⟩:=Hh.2 j (ready_mono hj hji)
   obtain ⟨hjun,oj',hoj',hallj⟩:=mem_ready.1 hj
   have:oj'=oj:=Option.some.inj (hoj'.symm.trans hoj)
   subst this
   have hnot: ∀e∈oj'.after,Region.binds .any e=true→e.on≠i:=fun e he hb heq=>by
    have h1:=hallj e he hb
    rw [heq,getD_both hun] at h1
    cases h1
   obtain ⟨p1,p2,p3⟩:=Oper.apart_spec (hfree j oj' hoj hji hjun hnot)
   rw [Auf p1] at hvj
   refine ⟨oj',vj,hoj,hvj,?_⟩
   have hfree': ∀k ok,ops[k]?=some ok→k≠i→(listed.setIfInBounds j true).getD k true=false→
     (∀e∈ok.after,Region.binds .any e=true→e.on≠i)→oi.apart ops ok=true:=fun k ok hk hki hunk hno=>by
    refine hfree k ok hk hki ?_ hno
    by_cases hjk:j=k
    ·subst hjk;exact hjun
    ·rw [getD_set_ne true hjk] at hunk;exact hunk
   refine ih (listed.setIfInBounds j true) (st.put oj'.dst vj) (inv.set hj (hdis j hjh)) hfree' (ready_mono hr (Ne.symm hji)) (by rw [Auf p3];exact hv) ?_
   rw [Array.setIfInBounds_comm _ _ hji,←St.put_comm st v vj p2]
   exact hrest
theorem Atv: ∀(l:List Nat) (listed:Array Bool),Aek ops l listed=true→ ∀j∈Region.ready .any ops listed,j∈l
 | [],listed,h,j,hj=>by simp only [Aek,List.isEmpty_iff] at h;rw [h] at hj;cases hj
 |k::r,listed,h,j,hj=>by
  simp only [Aek,Bool.and_eq_true,decide_eq_true_eq] at h
  rw [h.1] at hj
  simp at hj
  simp [hj]
theorem Ar8 {fl:List Nat} (hsel:Region.noSelect ops=true) (hs:Acw ops hd tl=true) (hsz: ∀i,i∈hd→i<ops.size) (hall: ∀j,j<ops.size→j∈fl∨j∈hd∨j∈tl) (hdis: ∀j,j∈hd→j∉tl) (st':St):
  ∀(l:List Nat) (listed:Array Bool) (st:St),(∀i,i∈l→i∈hd)→Of ops tl fl listed→Afe ops tl l listed=true→Dh T Γ ops l st=some st'→
  Baq T Γ ops hd (fun listed' s=>Aek ops tl listed'=true∧s=st') l.length listed st
 | [],listed,st,_,_,hB,he=>by
  simp only [Dh,Option.some.injEq] at he
  exact ⟨by simpa [Afe] using hB,he⟩
 |k::l,listed,st,hl,inv,hB,he=>by
  simp only [Afe,Bool.and_eq_true] at hB
  obtain ⟨⟨hr,hf⟩,hB'⟩:=hB
  have hkh:=hl k (by simp)
  have hr':k∈Region.ready .any ops listed:=by simpa using hr
  simp only [Dh] at he
  split at he
  ·cases he
  ·rename_i o ho
   split at he
   ·rename_i v hv
    exact Auv ho hs hsz hkh hall hdis (fun listed' s hL=>Atv tl listed' hL.1) l.length listed st inv (Region.free_spec ho hf) hr' hv
     (Ar8 hsel hs hsz hall hdis st' l _ _ (fun i hi=>hl i (by simp [hi])) (inv.set hr' (hdis k hkh)) hB' he)
   ·cases he
theorem Abw {Q:Exit→Act→World→Prop} : ∀(l:List Nat) (listed:Array Bool) (a:Act) (w:World),Aek ops l listed=true→wpOps P ops Q l a w→wpAny P .any ops Q l.length listed a w
 | [],listed,a,w,hB,h=>⟨by simpa [Aek] using hB,h⟩
 |k::r,listed,a,w,hB,h=>by
  simp only [Aek,Bool.and_eq_true,decide_eq_true_eq] at hB
  refine ⟨fun h1=>(by rw [hB.1] at h1;cases h1),fun i hi=>?_⟩
  rw [hB.1] at hi
  have hik:i=k:=by simpa using hi
  subst hik
  rw [wpOps_cons] at h
  exact wpOp_mono (fun a' w' h'=>Abw r _ a' w' hB.2 h') h
theorem Adu {P:Program} {o:Oper} {t:Tmp} {a:Act} (h:o.op= .move (.tmp t)) (hg:o.guard=none):Yields P ops o (a.tmps.getD t undef) a:=by
 refine .inl ⟨by simp [Region.wanted,hg],fun w=>?_⟩
 unfold execOp
 rw [h]
 rfl
theorem Ap3 {hd tl:List Nat} {i:Nat} (h:Ady ops hd tl i=true): ∃o t,ops[i]?=some o∧o.op= .move (.tmp t)∧o.guard=none:=by
 unfold Ady at h
 split at h
 ·rename_i o ho
  simp only [Bool.and_eq_true] at h
  have h1:=h.1
  split at h1
  ·rename_i t h2 h3
   exact ⟨o,t,ho,h2,h3⟩
  ·cases h1
 ·cases h
theorem Xo {q:Bool} {hd:List Nat} {Q:Exit→Act→World→Prop} (hQ: ∀c a w,¬Q (.panic c) a w) (hsel:Region.noSelect ops=true) {n:Nat} {st1:St}
  (hrest: ∀listed st a w,(∀j oj,ops[j]?=some oj→listed.getD j false=true→ ∀e∈oj.after,Region.binds .any e=true→listed.getD e.on false=true)→listed.size=ops.size→Afe ops tl hd listed=true→st=st1→Rel X st a w→
   (∀j,listed.getD j false=true↔j∈Mb q Γ ops)→wpAny P .any ops Q n listed a w):
  ∀(l dn:List Nat) (listed:Array Bool) (st:St) (a:Act) (w:World),(∀j,j∈Mb q Γ ops↔j∈dn∨j∈l)→(∀i,i∈l→ ∃o t,ops[i]?=some o∧o.op= .move (.tmp t)∧o.guard=none)→
   (∀j oj,ops[j]?=some oj→listed.getD j false=true→ ∀e∈oj.after,Region.binds .any e=true→listed.getD e.on false=true)→listed.size=ops.size→(∀j,listed.getD j false=true↔j∈dn)→
   Adt ops tl hd l listed=true→Dh T Γ ops l st=some st1→Rel X st a w→wpAny P .any ops Q (l.length+n) listed a w
 | [],dn,listed,st,a,w,hm,_,hc,hsz,hdn,hf,he,hr=>by
  simp only [Dh,Option.some.injEq] at he
  rw [List.length_nil,Nat.zero_add]
  exact hrest listed st a w hc hsz (by simpa [Adt] using hf) he hr fun j=>by rw [hdn j,hm j];simp
 |k::l,dn,listed,st,a,w,hm,hl,hc,hsz,hdn,hf,he,hr=>by
  simp only [Adt,Bool.and_eq_true] at hf
  obtain ⟨⟨h1,h2⟩,h3⟩:=hf
  obtain ⟨o,t,ho,hop,hg⟩:=hl k (by simp)
  have hkr:k∈Region.ready .any ops listed:=by simpa using h1
  obtain ⟨_,o',ho',hall⟩:=mem_ready.1 hkr
  have ho2:o'=o:=Option.some.inj (ho'.symm.trans ho)
  subst ho2
  have hks:k<listed.size:=by rw [hsz];exact (Array.getElem?_eq_some_iff.1 ho).1
  simp only [Dh,ho] at he
  have hv:Xq T Γ ops st o'=some (st.get t):=by simp only [Xq,hg,Oi,Bz,hop];rfl
  rw [hv] at he
  rw [List.length_cons,show l.length+1+n=(l.length+n)+1 by omega]
  refine wpAny_take ho hsel h2 h1 (fun c a w hq=>absurd hq (hQ c _ w)) (Adu hop hg) ?_
  obtain ⟨π,hr⟩:=hr
  refine Xo hQ hsel hrest l (k::dn) _ _ _ _ (fun j=>by rw [hm j,List.mem_cons,List.mem_cons];exact ⟨fun h=>h.elim (fun h=> .inl (.inr h)) (fun h=>h.elim (fun h=> .inl (.inl h)) .inr),fun h=>h.elim (fun h=>h.elim (fun h=> .inr (.inl h)) .inl) (fun h=> .inr (.inr h))⟩) (fun i hi=>hl i (by simp [hi])) ?_ (by simp [hsz]) (fun j=>?_) h3 he ⟨π,hr.put o'.dst (hr.2.tmps t)⟩
  ·intro j oj hj hlj e hem hb
   by_cases hkj:k=j
   ·subst hkj
    have:oj=o':=Option.some.inj (hj.symm.trans ho)
    subst this
    exact getD_set_true (hall e hem hb)
   ·rw [getD_set_ne false hkj] at hlj
    exact getD_set_true (hc j oj hj hlj e hem hb)
  ·by_cases hkj:k=j
   ·subst hkj
    refine ⟨fun _=>by simp,fun _=>?_⟩
    simp [hks]
   ·rw [getD_set_ne false hkj,hdn j]
    simp [Ne.symm hkj]
theorem Xa {ops:Array Oper} : ∀(a b:List Nat) (st st':St),Dh T Γ ops (a++b) st=some st'→ ∃s,Dh T Γ ops a st=some s∧Dh T Γ ops b s=some st'
 | [],b,st,st',h=>⟨st,rfl,h⟩
 |i::a,b,st,st',h=>by
  simp only [List.cons_append,Dh] at h⊢
  split at h
  ·cases h
  ·split at h
   ·exact Xa a b _ st' h
   ·cases h
theorem Af6 (hT:Bt P T) (hΓ:Gl P Γ) (hm:P.follows .mixedOrders=true) {Q:Exit→Act→World→Prop} {id:Nat} {draw:Bool} {st st':St} {a:Act} (h:Rel X st a w)
  (he:Jp T Γ ops draw st=some st') (hQ: ∀a' w',Rel X st' a' w'→Q .normal a' w'):(Code.region id ops draw).wp P Q a w:=by
 unfold Jp at he
 cases draw with
 |false=>
  rw [if_neg (by simp)] at he
  exact wp_region_list (Ab5 hT hΓ ops.toList st st' a w h he hQ)
 |true=>
  rw [if_pos rfl] at he
  have go: ∀(q:Bool),Aal q Γ ops=true→(match Dh T Γ ops (Aag q Γ ops) st with
    |some st'=>Hs T Γ ops (Ei q Γ ops) st'
    |none=>none)=some st'→(Code.region id ops true).wp P Q a w:=by
   intro q hok he
   split at he
   ·rename_i st1 h1
    simp only [Aal,Bool.and_eq_true,beq_iff_eq] at hok
    obtain ⟨⟨⟨hsel,hlen⟩,hfloat⟩,hsink⟩:=hok
    refine wp_mono (Q:=fun e a w=>e= .normal∧Q .normal a w) ?_ fun e a w h=>h.1▸h.2
    refine wp_region_any hm ?_
    have hrel:Rel X st a {w with drawn:=w.drawn+1} :=by
     obtain ⟨π,h⟩:=h
     exact ⟨π,h.quiet ⟨rfl,rfl,rfl,Nat.le_refl _,fun _ _=>rfl⟩⟩
    obtain ⟨s0,h0,h1⟩:=Xa _ _ _ _ h1
    have hin: ∀i,i∈Sh q Γ ops→i<ops.size:=fun i hi=>List.mem_range.1 (List.mem_filter.1 hi).1
    have hsz: ∀i,i∈Md q Γ ops→i<ops.size:=fun i hi=>hin i (List.mem_filter.1 hi).1
    have hall: ∀j,j<ops.size→j∈Mb q Γ ops∨j∈Md q Γ ops∨j∈Ei q Γ ops:=fun j hj=>by
     by_cases ht:j∈Ei q Γ ops
     ·exact .inr (.inr ht)
     ·have hh:j∈Sh q Γ ops:=List.mem_filter.2 ⟨List.mem_range.2 hj,by simpa using ht⟩
      cases hfl:Ady ops (Sh q Γ ops) (Ei q Γ ops) j with
      |true=>exact .inl (List.mem_filter.2 ⟨hh,hfl⟩)
      |false=>exact .inr (.inl (List.mem_filter.2 ⟨hh,by rw [hfl];rfl⟩))
    have hdisA: ∀j,j∈Sh q Γ ops→j∉Ei q Γ ops:=fun j hj=>by
     have:=(List.mem_filter.1 hj).2
     simpa using this
    have hdis: ∀j,j∈Md q Γ ops→j∉Ei q Γ ops:=fun j hj=>hdisA j (List.mem_filter.1 hj).1
    have hdisF: ∀j,j∈Mb q Γ ops→j∉Ei q Γ ops:=fun j hj=>hdisA j (List.mem_filter.1 hj).1
    have htl: ∀t,t∈Ei q Γ ops→t<ops.size:=by
     intro t ht
     unfold Ei at ht
     have: ∀(l:List Nat) (acc:List Nat),(∀i,i∈acc→i<ops.size)→(∀i,i∈l→i<ops.size)→ ∀i,i∈l.foldl (init:=acc) (fun acc i=>match ops[i]? with
       |some o=>if Bbl q Γ o||o.after.any (fun e=>Region.binds .any e&&acc.contains e.on) then acc++ [i] else acc
       |none=>acc)→i<ops.size:=by
      intro l
      induction l with
      |nil=>intro acc h1 _ i hi;exact h1 i hi
      |cons x l ih=>
       intro acc h1 h2 i hi
       simp only [List.foldl_cons] at hi
       refine ih _ ?_ (fun i hi=>h2 i (by simp [hi])) i hi
       intro k hk
       split at hk
       ·split at hk
        ·rcases List.mem_append.1 hk with hk|hk
         ·exact h1 k hk
         ·simp at hk;rw [hk];exact h2 x (by simp)
        ·exact h1 k hk
       ·exact h1 k hk
     exact this (List.range ops.size) [] (by simp) (fun i hi=>List.mem_range.1 hi) t ht
    rw [←hlen]
    refine Xo (q:=q) (X:=X) (T:=T) (Γ:=Γ) (tl:=Ei q Γ ops) (hd:=Md q Γ ops) (st1:=s0) (fun c a w hq=>by cases hq.1) hsel ?_ (Mb q Γ ops) [] _ st a _ (fun j=>by simp)
     (fun i hi=>Ap3 (List.mem_filter.1 hi).2) (fun j oj _ hl=>(by rw [hlen,getD_replicate_false] at hl;cases hl)) (by simp [hlen]) (fun j=>by rw [hlen,getD_replicate_false];simp) (by rw [hlen];exact hfloat) h0 hrel
    intro listed s a' w' hc hls hhead hs hr hfl
    subst hs
    have inv0:Of ops (Ei q Γ ops) (Mb q Γ ops) listed:=
     ⟨hls,fun i hi=>(hfl i).2 hi,hc,fun t ht=>getD_in (by rw [hls];exact htl t ht) (by
      cases hg:listed.getD t false with
      |false=>rfl
      |true=>exact absurd ht (hdisF t ((hfl t).1 hg)))⟩
    have HA:=Ar8 (T:=T) (Γ:=Γ) hsel hsink hsz hall hdis st1 (Md q Γ ops) _ s (fun i hi=>hi) inv0 hhead h1
    exact Abu (X:=X) (P:=P) (Q:=fun e a w=>e= .normal∧Q .normal a w) (g:=(Ei q Γ ops).length) hT hΓ (fun listed s a' w' hL hr=>by
     obtain ⟨hseq,rfl⟩:=hL
     exact Abw (Ei q Γ ops) listed a' w' hseq (Ab1 hT hΓ _ _ st' a' w' hr he fun a w h=>⟨rfl,hQ a w h⟩)) _ _ _ _ _ HA hr
   ·cases he
  split at he
  ·rename_i hok;exact go false hok he
  ·split at he
   ·rename_i hok;exact go true hok he
   ·cases he
theorem Tf (q:Bool): ∀(l:List Nat) (listed:Array Bool),(Eg q ops l listed).length≤l.length
 | [],_=>Nat.le_refl _
 |i::r,listed=>by
  simp only [Eg]
  split
  ·simp only [List.length_cons];have:=Tf q r (listed.setIfInBounds i true);omega
  ·simp only [List.length_cons];have:=Tf q r listed;omega
theorem Atp (hT:Bt P T) {st:St} {a:Act} (h:Af X π st a w) {i:Nat} {o:Oper} (ho:ops[i]?=some o) (hp:Aaj ops i=true) {v:AV} (hv:Xq T Γ ops st o=some v):
  ∃u,Yields P ops o u a∧Ai X w π st.heap v u:=by
 unfold Aaj at hp
 rw [ho] at hp
 simp only at hp
 obtain ⟨dst,op,ty,pos,af,gd⟩:=o
 split at hp
 ·rename_i t h3 h4
  simp only at h3 h4;subst h3;subst h4
  refine ⟨a.tmps.getD t undef,Adu rfl rfl,?_⟩
  simp only [Xq,Oi,Bz,Option.some.injEq] at hv
  subst hv
  exact h.2.tmps t
 ·rename_i x h3 h4
  simp only at h3 h4;subst h3;subst h4
  have e:=Bk h.2 x
  have fin:(∃ad,a.eval x= .pointer (some ad))→Yields P ops ⟨dst, .nilCheck x,ty,pos,af,none⟩ (a.eval x) a:=fun ⟨ad,hx⟩=>
   .inl ⟨by simp [Region.wanted],fun w=>by simp [execOp,hx]⟩
  simp only [Xq,Oi,Bz] at hv
  split at hv
  ·rename_i fr τ y hx
   simp only [Option.some.injEq] at hv;subst hv
   rw [hx] at e
   have e':=e
   obtain ⟨cs,hc,hv⟩:=e
   simp only [Cells] at hc
   obtain ⟨g,o,rfl,_⟩:=hc
   simp only [Ap,Ty.Ab,Bool.false_eq_true,if_false,List.headD_cons] at hv
   exact ⟨_,fin ⟨_,hv⟩,e'⟩
  ·rename_i fr τ y hx
   simp only [Option.some.injEq] at hv;subst hv
   rw [hx] at e
   obtain ⟨cs,hc,hv⟩:=e
   simp only [Cells] at hc
   rcases hc with ⟨h0,_⟩|⟨y',g,o,h0,rfl,hr⟩
   ·cases h0
   simp only [Option.some.injEq] at h0;subst h0
   simp only [Ap,Ty.Ab,Bool.false_eq_true,if_false,List.headD_cons] at hv
   exact ⟨_,fin ⟨_,hv⟩,[_],⟨g,o,rfl,hr⟩,by rw [hv];simp [Ap,Ty.Ab]⟩
  ·rename_i l i hx
   simp only [Option.some.injEq] at hv;subst hv
   rw [hx] at e
   have e':=e
   obtain ⟨r,tid,vs,_,_,hv⟩:=e
   exact ⟨_,fin ⟨_,hv⟩,e'⟩
  ·rename_i l i hx
   simp only [Option.some.injEq] at hv;subst hv
   rw [hx] at e
   have e':=e
   obtain ⟨r,b,sz,n,_,_,_,_,hv⟩:=e
   exact ⟨_,fin ⟨_,hv⟩,e'⟩
  ·cases hv
 ·rename_i s x f h3 h4
  simp only at h3 h4;subst h3;subst h4
  simp only [Xq,Oi,Bz] at hv
  obtain ⟨u,h1,h2⟩:=Sa hT (st:=st) _ _ _ _ v (Bk h.2 x) hv
  refine ⟨u, .inl ⟨by simp [Region.wanted],fun w=>?_⟩,h2⟩
  have:=h1 w
  simp only [execOp,Sem.run_bind]
  first
   |(rw [this];rfl)
   |simp [this]
 ·cases hp
theorem Apz {i:Nat} (h:Ap4 ops i=true):Aaj ops i=true:=by
 unfold Ap4 at h
 unfold Aaj
 split at h
 ·rename_i o ho
  split at h
  ·rename_i h1 h2
   simp only [h1,h2]
  ·cases h
 ·cases h
theorem Rw (hT:Bt P T) (q:Bool) {Q:Exit→Act→World→Prop} (hQ: ∀c a w,¬Q (.panic c) a w) (hsel:Region.noSelect ops=true) {n:Nat} {st1:St} :
  ∀(l:List Nat) (listed:Array Bool) (st:St) (a:Act) (w:World),Dh T Γ ops (Eg q ops l listed) st=some st1→Rel X st a w→
   (∀a w,Rel X st1 a w→wpAny P .any ops Q n (Dm (Eg q ops l listed) listed) a w)→wpAny P .any ops Q ((Eg q ops l listed).length+n) listed a w
 | [],listed,st,a,w,he,hr,hK=>by
  simp only [Eg,Dh,Option.some.injEq] at he
  subst he
  simp only [Eg,List.length_nil,Nat.zero_add]
  exact hK a w hr
 |k::l,listed,st,a,w,he,hr,hK=>by
  simp only [Eg] at he hK⊢
  split
  ·rename_i hc
   rw [if_pos hc] at he hK
   simp only [Bool.and_eq_true] at hc
   obtain ⟨h0,h1,h2⟩:=hc
   have hp:Aaj ops k=true:=by
    cases q with
    |true=>exact h0
    |false=>exact Apz h0
   simp only [Dh] at he
   split at he
   ·cases he
   rename_i o ho
   split at he
   rotate_left
   ·cases he
   rename_i v hv
   obtain ⟨π,hr⟩:=hr
   obtain ⟨u,hy,hu⟩:=Atp (Γ:=Γ) hT hr ho hp hv
   rw [List.length_cons,show (Eg q ops l (listed.setIfInBounds k true)).length+1+n=((Eg q ops l (listed.setIfInBounds k true)).length+n)+1 by omega]
   refine wpAny_take ho hsel h2 h1 (fun c a w hq=>absurd hq (hQ c _ w)) hy ?_
   exact Rw hT q hQ hsel l _ _ _ _ he ⟨π,hr.put o.dst hu⟩ hK
  ·rename_i hc
   rw [if_neg hc] at he hK
   exact Rw hT q hQ hsel l listed st a w he hr hK
theorem Abv (hT:Bt P T) (hΓ:Gl P Γ) {Q:Exit→Act→World→Prop} {K:St→Prop} (hK: ∀st a w,K st→Rel X st a w→Q .normal a w):
  ∀(f:Nat) (listed:Array Bool) (st:St) (a:Act) (w:World),anyS T Γ ops K f listed st→Rel X st a w→wpAny P .any ops Q f listed a w
 |0,listed,st,a,w,h,hr=>⟨h.1,hK _ _ _ h.2 hr⟩
 |f+1,listed,st,a,w,h,hr=>by
  refine ⟨fun h0=>absurd h0 h.1,fun i hi=>?_⟩
  obtain ⟨o,st',ho,he,hrest⟩:=h.2 i hi
  obtain ⟨π,hr⟩:=hr
  unfold wpOp
  simp only [ho]
  exact Rb hT hΓ hr o he fun a' w' h'=>Abv hT hΓ hK f _ _ _ _ hrest h'
theorem Awn (hT:Bt P T) (hΓ:Gl P Γ) (hm:P.follows .mixedOrders=true) {Q:Exit→Act→World→Prop} {id:Nat} {draw:Bool} {st:St} {K:St→Prop} {a:Act} (h:Rel X st a w)
  (he:Aof T Γ ops draw st K) (hQ: ∀st' a' w',K st'→Rel X st' a' w'→Q .normal a' w'):(Code.region id ops draw).wp P Q a w:=by
 rcases he with ⟨st',h1,h2⟩|⟨rfl,hsel,st0,h1,h2⟩
 ·exact Af6 hT hΓ hm h h1 fun a' w' h'=>hQ st' a' w' h2 h'
 ·refine wp_mono (Q:=fun e a w=>e= .normal∧Q .normal a w) ?_ fun e a w h=>h.1▸h.2
  refine wp_region_any hm ?_
  have hrel:Rel X st a {w with drawn:=w.drawn+1} :=by
   obtain ⟨π,h⟩:=h
   exact ⟨π,h.quiet ⟨rfl,rfl,rfl,Nat.le_refl _,fun _ _=>rfl⟩⟩
  have hlen:(Il ops).length≤ops.size:=by
   have:=Tf (ops:=ops) (!Aac false ops) (List.range ops.size) (Array.replicate ops.size false)
   rw [List.length_range] at this
   exact this
  have:=Rw hT (!Aac false ops) (X:=X) (P:=P) (T:=T) (Γ:=Γ) (Q:=fun e a w=>e= .normal∧Q .normal a w) (n:=ops.size-(Il ops).length) (st1:=st0) (fun c a w hq=>by cases hq.1) hsel (List.range ops.size) (Array.replicate ops.size false) st a _ h1 hrel fun a' w' h'=>
   Abv hT hΓ (fun st' a' w' hk hr=>⟨rfl,hQ st' a' w' hk hr⟩) _ _ _ _ _ h2 h'
  have e:(Eg (!Aac false ops) ops (List.range ops.size) (Array.replicate ops.size false)).length+(ops.size-(Il ops).length)=ops.size:=by
   have e2:(Eg (!Aac false ops) ops (List.range ops.size) (Array.replicate ops.size false)).length=(Il ops).length:=rfl
   omega
  rw [e] at this
  exact this
end
end Go.Proofs.Ytebabhocakedaaa
