/-
  Part 25 of the proof that the statement FnExactPhaseTwoWord holds.
-/
import Derived.Test.YtjbdmibbbpdnnaaCPhaseTwoWord23
namespace Go.Proofs.Ytjbdmibbbpdnnaa
open Go.RowKit
section
variable {P:Program} {T:Tab} {Γ:Env} {X:Ctx} {w w':World} {π:Pi} {ops:Array Oper} {hd tl:List Nat}
structure Rv (ops:Array Oper) (tl fl:List Nat) (Ab:Array Bool):Prop where
 size:Ab.size=ops.size
 done: ∀i,i∈fl->Ab.getD i false=true
 closed: ∀j oj,ops[j]?=some oj->Ab.getD j false=true-> ∀e∈oj.after,Region.binds .any e=true->Ab.getD e.on false=true
 tail: ∀t,t∈tl->Ab.getD t true=false
theorem Rv.set {fl:List Nat} {i:Nat} {Ab:Array Bool} (inv:Rv ops tl fl Ab) (hi:i∈Region.ready .any ops Ab) (Oz:i∉tl):Rv ops tl fl (Ab.setIfInBounds i true):=by
 obtain ⟨_,oi,hoi,Hx⟩:=mem_ready.1 hi
 refine ⟨by simp [inv.size],λk hk=>getD_set_true (inv.done k hk),λj oj hj hl e he hb=>?_,λt ht=>by
  have Ff:i≠t:= λe=>Oz (by rw [e];exact ht)
  rw [getD_set_ne true Ff];exact inv.tail t ht⟩
 by_cases eo:i=j
 ·subst eo
  have:oj=oi:=Option.some.inj (hj.symm.trans hoi)
  subst this
  exact getD_set_true (Hx e he hb)
 ·rw [getD_set_ne false eo] at hl
  exact getD_set_true (inv.closed j oj hj hl e he hb)
theorem mb: ∀(k:Nat) (r:List Nat),fU.chain ops k r=true-> ∀t,t∈r-> ∃k',(k'=k\/k'∈r)/\Region.waitsFor .any ops t k'=true
 |_,[],_,t,ht=>by cases ht
 |k,t0::r,h,t,ht=>by
  simp only [fU.chain,Bool.and_eq_true] at h
  rcases List.mem_cons.1 ht with rfl|ht
  ·exact ⟨k, .inl rfl,h.1⟩
  ·obtain ⟨k',h1,h2⟩:=mb t0 r h.2 t ht
   exact ⟨k', .inr (by rcases h1 with rfl|h1<;>simp [*]),h2⟩
theorem wM {fl:List Nat} {Ab:Array Bool} (hs:fU ops hd tl=true) (inv:Rv ops tl fl Ab) (On: ∀i,i∈hd->i<ops.size):
  ∀(d i:Nat),ops.size-i=d->i∈hd->Ab.getD i true=false-> ∀t,t∈tl->t∉Region.ready .any ops Ab:=by
 cases tl with
 |nil=>intro d i _ _ _ t ht;cases ht
 |cons f r=>
  simp only [fU,Bool.and_eq_true] at hs
  obtain ⟨lD,AF⟩:=hs
  intro d
  induction d using Nat.strongRecOn with
  |_ d ih=>
   intro i XC hi FP t ht hr
   obtain ⟨_,ot,hot,Hx⟩:=mem_ready.1 hr
   rcases List.mem_cons.1 ht with rfl|gQ
   ·have h1:=List.all_eq_true.1 lD i hi
    obtain ⟨j,hj,hj2⟩:=List.any_eq_true.1 h1
    simp only [Bool.and_eq_true,decide_eq_true_eq] at hj2
    obtain ⟨oj,QC,e,he,hb,YB⟩:=Region.waitsFor_spec hj2.2
    rcases List.mem_cons.1 hj with rfl|MR
    ·have:oj=ot:=Option.some.inj (QC.symm.trans hot)
     subst this
     have h2:=Hx e he hb
     rw [YB,getD_both FP] at h2
     cases h2
    ·cases hl:Ab.getD j false with
     |true=>
      have h2:=inv.closed j oj QC hl e he hb
      rw [YB,getD_both FP] at h2
      cases h2
     |false=>
      have hjs:j<Ab.size:=by rw [inv.size];exact On j MR
      have:=On j MR
      exact ih (ops.size-j) (by omega) j rfl MR (getD_in hjs hl) t (by simp) hr
   ·obtain ⟨k',h1,h2⟩:=mb f r AF t gQ
    obtain ⟨o',VP,e,he,hb,YB⟩:=Region.waitsFor_spec h2
    have:o'=ot:=Option.some.inj (VP.symm.trans hot)
    subst this
    have h3:=Hx e he hb
    have hk:k'∈f::r:=by rcases h1 with rfl|h1<;>simp [*]
    rw [YB,getD_both (inv.tail k' hk)] at h3
    cases h3
def FR (T:Tab) (Γ:Env) (ops:Array Oper) (hd:List Nat) (L:Array Bool->St->Prop):Nat->Array Bool->St->Prop
 |0,Ab,st=>L Ab st
 |f+1,Ab,st=>
  Region.ready .any ops Ab≠ []/\ ∀i∈Region.ready .any ops Ab,i∈hd/\ ∃o v,ops[i]?=some o/\bB T Γ ops st o=some v/\FR T Γ ops hd L f (Ab.setIfInBounds i true) (st.put o.dst v)
theorem tK (hT:Cd P T) (Mf:Hc P Γ) {Q:Exit->Act->World->Prop} {K:Act->World->Prop} {st:St} {a:Act} (h:Rel X st a w) {i:Nat} {o:Oper} {v:AV} (ho:ops[i]?=some o) (hv:bB T Γ ops st o=some v)
  (hK: ∀a' w',Rel X (st.put o.dst v) a' w'->K a' w'):wpOp P ops Q i K a w:=by
 obtain ⟨π,h⟩:=h
 have run:Ry T Γ st o=some v->o.wp P a w K Q:= λhe=>kT (X:=X) (st':=st) (av:=v) (ux hT Mf h o v he) hK
 have skip:v= .at .skip->K (a.put o.dst undef) w:= λe=>by subst e;exact hK _ _ ⟨π,h.put o.dst wu⟩
 unfold wpOp
 simp only [ho]
 unfold bB at hv
 split at hv
 ·rename_i hg
  rw [if_pos (by simp [Region.wanted,hg])]
  exact .inl (run hv)
 ·rename_i j want hg
  split at hv
  ·rename_i b hb
   have hy:=(Zs h j).1 b hb
   split at hv
   ·rename_i xP
    rw [if_pos (by simp only [Region.wanted,hg,hy];simpa using xP)]
    exact .inl (run hv)
   ·rename_i xP
    rw [if_neg (by simp only [Region.wanted,hg,hy];simpa using xP)]
    simp only [Option.some.injEq] at hv
    exact skip hv.symm
  ·rename_i hb
   have hy:=(Zs h j).2 hb
   rw [if_neg (by simp [Region.wanted,hg,hy])]
   simp only [Option.some.injEq] at hv
   exact skip hv.symm
  ·cases hv
theorem eV (hT:Cd P T) (Mf:Hc P Γ) {g:Nat} {L:Array Bool->St->Prop} {Q:Exit->Act->World->Prop} (hL: ∀Ab st a w,L Ab st->Rel X st a w->wpAny P .any ops Q g Ab a w):
  ∀(f:Nat) (Ab:Array Bool) (st:St) (a:Act) (w:World),FR T Γ ops hd L f Ab st->Rel X st a w->wpAny P .any ops Q (f+g) Ab a w
 |0,Ab,st,a,w,h,hr=>by rw [Nat.zero_add];exact hL _ _ _ _ h hr
 |f+1,Ab,st,a,w,h,hr=>by
  rw [show f+1+g=(f+g)+1 by omega]
  refine ⟨λh0=>absurd h0 h.1,λi hi=>?_⟩
  obtain ⟨_,o,v,ho,hv,Yn⟩:=h.2 i hi
  exact tK hT Mf hr ho hv λa' w' h'=>eV hT Mf hL f _ _ _ _ Yn h'
theorem xk {fl:List Nat} {i:Nat} {oi:Oper} {v:AV} {L:Array Bool->St->Prop} (hi:ops[i]?=some oi) (hs:fU ops hd tl=true) (On: ∀i,i∈hd->i<ops.size) (Oz:i∈hd)
  (Hx: ∀j,j<ops.size->j∈fl\/j∈hd\/j∈tl) (uQ: ∀j,j∈hd->j∉tl) (XF: ∀Ab st,L Ab st-> ∀j∈Region.ready .any ops Ab,j∈tl):
  ∀(f:Nat) (Ab:Array Bool) (st:St),Rv ops tl fl Ab->
   (∀j oj,ops[j]?=some oj->j≠i->Ab.getD j true=false->(∀e∈oj.after,Region.binds .any e=true->e.on≠i)->oi.apart ops oj=true)->
   i∈Region.ready .any ops Ab->bB T Γ ops st oi=some v->
   FR T Γ ops hd L f (Ab.setIfInBounds i true) (st.put oi.dst v)->FR T Γ ops hd L (f+1) Ab st:=by
 intro f
 have ZJ: ∀Ab,Rv ops tl fl Ab->i∈Region.ready .any ops Ab-> ∀j,j∈Region.ready .any ops Ab->j∈hd:=by
  intro Ab inv hr j hj
  obtain ⟨FP,oj,QC,_⟩:=mem_ready.1 hj
  rcases Hx j (Array.getElem?_eq_some_iff.1 QC).1 with h|h|h
  ·have h1:=inv.done j h
   rw [getD_both FP] at h1;cases h1
  ·exact h
  ·exact absurd hj (wM hs inv On _ i rfl Oz (mem_ready.1 hr).1 j h)
 induction f with
 |zero=>
  intro Ab st inv _ hr hv Hh
  refine ⟨λh=>(by rw [h] at hr;cases hr),λj hj=>?_⟩
  have MR:=ZJ Ab inv hr j hj
  refine ⟨MR,?_⟩
  by_cases gh:j=i
  ·subst gh;exact ⟨oi,v,hi,hv,Hh⟩
  ·exact absurd (XF _ _ Hh j (ready_mono hj gh)) (uQ j MR)
 |succ f ih=>
  intro Ab st inv gP hr hv Hh
  have FP:=(mem_ready.1 hr).1
  refine ⟨λh=>(by rw [h] at hr;cases hr),λj hj=>?_⟩
  have MR:=ZJ Ab inv hr j hj
  refine ⟨MR,?_⟩
  by_cases gh:j=i
  ·subst gh;exact ⟨oi,v,hi,hv,Hh⟩
  ·obtain ⟨_,oj,vj,QC,hvj,Yn⟩:=Hh.2 j (ready_mono hj gh)
   obtain ⟨XM,ZO,Ae5,WY⟩:=mem_ready.1 hj
   have:ZO=oj:=Option.some.inj (Ae5.symm.trans QC)
   subst this
   have mH: ∀e∈ZO.after,Region.binds .any e=true->e.on≠i:= λe he hb heq=>by
    have h1:=WY e he hb
    rw [heq,getD_both FP] at h1
    cases h1
   obtain ⟨p1,p2,p3⟩:=Oper.apart_spec (gP j ZO QC gh XM mH)
   rw [wQ p1] at hvj
   refine ⟨ZO,vj,QC,hvj,?_⟩
   have RZ: ∀k ok,ops[k]?=some ok->k≠i->(Ab.setIfInBounds j true).getD k true=false->
     (∀e∈ok.after,Region.binds .any e=true->e.on≠i)->oi.apart ops ok=true:= λk ok hk hki YW VO=>by
    refine gP k ok hk hki ?_ VO
    by_cases hjk:j=k
    ·subst hjk;exact XM
    ·rw [getD_set_ne true hjk] at YW;exact YW
   refine ih (Ab.setIfInBounds j true) (st.put ZO.dst vj) (inv.set hj (uQ j MR)) RZ (ready_mono hr (Ne.symm gh)) (by rw [wQ p3];exact hv) ?_
   rw [Array.setIfInBounds_comm _ _ gh,<-St.put_comm st v vj p2]
   exact Yn
theorem wo: ∀(l:List Nat) (Ab:Array Bool),iv ops l Ab=true-> ∀j∈Region.ready .any ops Ab,j∈l
 | [],Ab,h,j,hj=>by simp only [iv,List.isEmpty_iff] at h;rw [h] at hj;cases hj
 |k::r,Ab,h,j,hj=>by
  simp only [iv,Bool.and_eq_true,decide_eq_true_eq] at h
  rw [h.1] at hj
  simp at hj
  simp [hj]
theorem tU {fl:List Nat} (jd:Region.noSelect ops=true) (hs:fU ops hd tl=true) (On: ∀i,i∈hd->i<ops.size) (Hx: ∀j,j<ops.size->j∈fl\/j∈hd\/j∈tl) (uQ: ∀j,j∈hd->j∉tl) (st':St):
  ∀(l:List Nat) (Ab:Array Bool) (st:St),(∀i,i∈l->i∈hd)->Rv ops tl fl Ab->jb ops tl l Ab=true->Ea T Γ ops l st=some st'->
  FR T Γ ops hd (λs7 s=>iv ops tl s7=true/\s=st') l.length Ab st
 | [],Ab,st,_,_,hB,he=>by
  simp only [Ea,Option.some.injEq] at he
  exact ⟨by simpa [jb] using hB,he⟩
 |k::l,Ab,st,hl,inv,hB,he=>by
  simp only [jb,Bool.and_eq_true] at hB
  obtain ⟨⟨hr,hf⟩,hB'⟩:=hB
  have hkh:=hl k (by simp)
  have fF:k∈Region.ready .any ops Ab:=by simpa using hr
  simp only [Ea] at he
  split at he
  ·cases he
  ·rename_i o ho
   split at he
   ·rename_i v hv
    exact xk ho hs On hkh Hx uQ (λs7 s hL=>wo tl s7 hL.1) l.length Ab st inv (Region.free_spec ho hf) fF hv
     (tU jd hs On Hx uQ st' l _ _ (λi hi=>hl i (by simp [hi])) (inv.set fF (uQ k hkh)) hB' he)
   ·cases he
theorem eX {Q:Exit->Act->World->Prop} : ∀(l:List Nat) (Ab:Array Bool) (a:Act) (w:World),iv ops l Ab=true->wpOps P ops Q l a w->wpAny P .any ops Q l.length Ab a w
 | [],Ab,a,w,hB,h=>⟨by simpa [iv] using hB,h⟩
 |k::r,Ab,a,w,hB,h=>by
  simp only [iv,Bool.and_eq_true,decide_eq_true_eq] at hB
  refine ⟨λh1=>(by rw [hB.1] at h1;cases h1),λi hi=>?_⟩
  rw [hB.1] at hi
  have hik:i=k:=by simpa using hi
  subst hik
  rw [wpOps_cons] at h
  exact wpOp_mono (λa' w' h'=>eX r _ a' w' hB.2 h') h
theorem gK {P:Program} {o:Oper} {t:Tmp} {a:Act} (h:o.op= .move (.tmp t)) (hg:o.guard=none):Yields P ops o (a.tmps.getD t undef) a:=by
 refine .inl ⟨by simp [Region.wanted,hg],λw=>?_⟩
 unfold execOp
 rw [h]
 rfl
theorem rT {hd tl:List Nat} {i:Nat} (h:gR ops hd tl i=true): ∃o t,ops[i]?=some o/\o.op= .move (.tmp t)/\o.guard=none:=by
 unfold gR at h
 split at h
 ·rename_i o ho
  simp only [Bool.and_eq_true] at h
  have h1:=h.1
  split at h1
  ·rename_i t h2 h3
   exact ⟨o,t,ho,h2,h3⟩
  ·cases h1
 ·cases h
theorem bu {q:Bool} {hd:List Nat} {Q:Exit->Act->World->Prop} (hQ: ∀c a w,¬Q (.panic c) a w) (jd:Region.noSelect ops=true) {n:Nat} {st1:St}
  (Yn: ∀Ab st a w,(∀j oj,ops[j]?=some oj->Ab.getD j false=true-> ∀e∈oj.after,Region.binds .any e=true->Ab.getD e.on false=true)->Ab.size=ops.size->jb ops tl hd Ab=true->st=st1->Rel X st a w->
   (∀j,Ab.getD j false=true↔j∈Ou q Γ ops)->wpAny P .any ops Q n Ab a w):
  ∀(l dn:List Nat) (Ab:Array Bool) (st:St) (a:Act) (w:World),(∀j,j∈Ou q Γ ops↔j∈dn\/j∈l)->(∀i,i∈l-> ∃o t,ops[i]?=some o/\o.op= .move (.tmp t)/\o.guard=none)->
   (∀j oj,ops[j]?=some oj->Ab.getD j false=true-> ∀e∈oj.after,Region.binds .any e=true->Ab.getD e.on false=true)->Ab.size=ops.size->(∀j,Ab.getD j false=true↔j∈dn)->
   gJ ops tl hd l Ab=true->Ea T Γ ops l st=some st1->Rel X st a w->wpAny P .any ops Q (l.length+n) Ab a w
 | [],dn,Ab,st,a,w,hm,_,hc,On,RV,hf,he,hr=>by
  simp only [Ea,Option.some.injEq] at he
  rw [List.length_nil,Nat.zero_add]
  exact Yn Ab st a w hc On (by simpa [gJ] using hf) he hr λj=>by rw [RV j,hm j];simp
 |k::l,dn,Ab,st,a,w,hm,hl,hc,On,RV,hf,he,hr=>by
  simp only [gJ,Bool.and_eq_true] at hf
  obtain ⟨⟨h1,h2⟩,h3⟩:=hf
  obtain ⟨o,t,ho,od,hg⟩:=hl k (by simp)
  have oD:k∈Region.ready .any ops Ab:=by simpa using h1
  obtain ⟨_,o',VP,Hx⟩:=mem_ready.1 oD
  have ho2:o'=o:=Option.some.inj (VP.symm.trans ho)
  subst ho2
  have hks:k<Ab.size:=by rw [On];exact (Array.getElem?_eq_some_iff.1 ho).1
  simp only [Ea,ho] at he
  have hv:bB T Γ ops st o'=some (st.get t):=by simp only [bB,hg,Ry,Ck,od];rfl
  rw [hv] at he
  rw [List.length_cons,show l.length+1+n=(l.length+n)+1 by omega]
  refine wpAny_take ho jd h2 h1 (λc a w hq=>absurd hq (hQ c _ w)) (gK od hg) ?_
  obtain ⟨π,hr⟩:=hr
  refine bu hQ jd Yn l (k::dn) _ _ _ _ (λj=>by rw [hm j,List.mem_cons,List.mem_cons];exact ⟨λh=>h.elim (λh=> .inl (.inr h)) (λh=>h.elim (λh=> .inl (.inl h)) .inr),λh=>h.elim (λh=>h.elim (λh=> .inr (.inl h)) .inl) (λh=> .inr (.inr h))⟩) (λi hi=>hl i (by simp [hi])) ?_ (by simp [On]) (λj=>?_) h3 he ⟨π,hr.put o'.dst (hr.2.tmps t)⟩
  ·intro j oj hj XR e hem hb
   by_cases FN:k=j
   ·subst FN
    have:oj=o':=Option.some.inj (hj.symm.trans ho)
    subst this
    exact getD_set_true (Hx e hem hb)
   ·rw [getD_set_ne false FN] at XR
    exact getD_set_true (hc j oj hj XR e hem hb)
  ·by_cases FN:k=j
   ·subst FN
    refine ⟨λ_=>by simp,λ_=>?_⟩
    simp [hks]
   ·rw [getD_set_ne false FN,RV j]
    simp [Ne.symm FN]
theorem aY {ops:Array Oper} : ∀(a b:List Nat) (st st':St),Ea T Γ ops (a++b) st=some st'-> ∃s,Ea T Γ ops a st=some s/\Ea T Γ ops b s=some st'
 | [],b,st,st',h=>⟨st,rfl,h⟩
 |i::a,b,st,st',h=>by
  simp only [List.cons_append,Ea] at h⊢
  split at h
  ·cases h
  ·split at h
   ·exact aY a b _ st' h
   ·cases h
theorem iY (hT:Cd P T) (Mf:Hc P Γ) (hm:P.follows .mixedOrders=true) {Q:Exit->Act->World->Prop} {id:Nat} {draw:Bool} {st st':St} {a:Act} (h:Rel X st a w)
  (he:Li T Γ ops draw st=some st') (hQ: ∀a' w',Rel X st' a' w'->Q .normal a' w'):(Code.region id ops draw).wp P Q a w:=by
 unfold Li at he
 cases draw with
 |false=>
  rw [if_neg (by simp)] at he
  exact wp_region_list (eb hT Mf ops.toList st st' a w h he hQ)
 |true=>
  rw [if_pos rfl] at he
  have go: ∀(q:Bool),dE q Γ ops=true->(match Ea T Γ ops (dx q Γ ops) st with
    |some st'=>Jc T Γ ops (Fe q Γ ops) st'
    |none=>none)=some st'->(Code.region id ops true).wp P Q a w:=by
   intro q cf he
   split at he
   ·rename_i st1 h1
    simp only [dE,Bool.and_eq_true,beq_iff_eq] at cf
    obtain ⟨⟨⟨jd,hlen⟩,RX⟩,YS⟩:=cf
    refine wp_mono (Q:= λe a w=>e= .normal/\Q .normal a w) ?_ λe a w h=>h.1▸h.2
    refine wp_region_any hm ?_
    have HJ:Rel X st a {w with drawn:=w.drawn+1} :=by
     obtain ⟨π,h⟩:=h
     exact ⟨π,h.quiet ⟨rfl,rfl,rfl,Nat.le_refl _,λ_ _=>rfl⟩⟩
    obtain ⟨s0,h0,h1⟩:=aY _ _ _ _ h1
    have Oz: ∀i,i∈Wj q Γ ops->i<ops.size:= λi hi=>List.mem_range.1 (List.mem_filter.1 hi).1
    have On: ∀i,i∈Ox q Γ ops->i<ops.size:= λi hi=>Oz i (List.mem_filter.1 hi).1
    have Hx: ∀j,j<ops.size->j∈Ou q Γ ops\/j∈Ox q Γ ops\/j∈Fe q Γ ops:= λj hj=>by
     by_cases ht:j∈Fe q Γ ops
     ·exact .inr (.inr ht)
     ·have hh:j∈Wj q Γ ops:=List.mem_filter.2 ⟨List.mem_range.2 hj,by simpa using ht⟩
      cases LC:gR ops (Wj q Γ ops) (Fe q Γ ops) j with
      |true=>exact .inl (List.mem_filter.2 ⟨hh,LC⟩)
      |false=>exact .inr (.inl (List.mem_filter.2 ⟨hh,by rw [LC];rfl⟩))
    have PS: ∀j,j∈Wj q Γ ops->j∉Fe q Γ ops:= λj hj=>by
     have:=(List.mem_filter.1 hj).2
     simpa using this
    have uQ: ∀j,j∈Ox q Γ ops->j∉Fe q Γ ops:= λj hj=>PS j (List.mem_filter.1 hj).1
    have XE: ∀j,j∈Ou q Γ ops->j∉Fe q Γ ops:= λj hj=>PS j (List.mem_filter.1 hj).1
    have TB: ∀t,t∈Fe q Γ ops->t<ops.size:=by
     intro t ht
     unfold Fe at ht
     have: ∀(l:List Nat) (acc:List Nat),(∀i,i∈acc->i<ops.size)->(∀i,i∈l->i<ops.size)-> ∀i,i∈l.foldl (init:=acc) (λacc i=>match ops[i]? with
       |some o=>if IF q Γ o||o.after.any (λe=>Region.binds .any e&&acc.contains e.on) then acc++ [i] else acc
       |none=>acc)->i<ops.size:=by
      intro l
      induction l with
      |nil=>intro acc h1 _ i hi;exact h1 i hi
      |cons x l ih=>
       intro acc h1 h2 i hi
       simp only [List.foldl_cons] at hi
       refine ih _ ?_ (λi hi=>h2 i (by simp [hi])) i hi
       intro k hk
       split at hk
       ·split at hk
        ·rcases List.mem_append.1 hk with hk|hk
         ·exact h1 k hk
         ·simp at hk;rw [hk];exact h2 x (by simp)
        ·exact h1 k hk
       ·exact h1 k hk
     exact this (List.range ops.size) [] (by simp) (λi hi=>List.mem_range.1 hi) t ht
    rw [<-hlen]
    refine bu (q:=q) (X:=X) (T:=T) (Γ:=Γ) (tl:=Fe q Γ ops) (hd:=Ox q Γ ops) (st1:=s0) (λc a w hq=>by cases hq.1) jd ?_ (Ou q Γ ops) [] _ st a _ (λj=>by simp)
     (λi hi=>rT (List.mem_filter.1 hi).2) (λj oj _ hl=>(by rw [hlen,getD_replicate_false] at hl;cases hl)) (by simp [hlen]) (λj=>by rw [hlen,getD_replicate_false];simp) (by rw [hlen];exact RX) h0 HJ
    intro Ab s a' w' hc fD XK hs hr LC
    subst hs
    have Af1:Rv ops (Fe q Γ ops) (Ou q Γ ops) Ab:=
     ⟨fD,λi hi=>(LC i).2 hi,hc,λt ht=>getD_in (by rw [fD];exact TB t ht) (by
      cases hg:Ab.getD t false with
      |false=>rfl
      |true=>exact absurd ht (XE t ((LC t).1 hg)))⟩
    have HA:=tU (T:=T) (Γ:=Γ) jd YS On Hx uQ st1 (Ox q Γ ops) _ s (λi hi=>hi) Af1 XK h1
    exact eV (X:=X) (P:=P) (Q:= λe a w=>e= .normal/\Q .normal a w) (g:=(Fe q Γ ops).length) hT Mf (λAb s a' w' hL hr=>by
     obtain ⟨Aeh,rfl⟩:=hL
     exact eX (Fe q Γ ops) Ab a' w' Aeh (dX hT Mf _ _ st' a' w' hr he λa w h=>⟨rfl,hQ a w h⟩)) _ _ _ _ _ HA hr
   ·cases he
  split at he
  ·rename_i cf;exact go false cf he
  ·split at he
   ·rename_i cf;exact go true cf he
   ·cases he
theorem Xk (q:Bool): ∀(l:List Nat) (Ab:Array Bool),(Fb q ops l Ab).length<=l.length
 | [],_=>Nat.le_refl _
 |i::r,Ab=>by
  simp only [Fb]
  split
  ·simp only [List.length_cons];have:=Xk q r (Ab.setIfInBounds i true);omega
  ·simp only [List.length_cons];have:=Xk q r Ab;omega
theorem wc (hT:Cd P T) {st:St} {a:Act} (h:Aj X π st a w) {i:Nat} {o:Oper} (ho:ops[i]?=some o) (hp:dC ops i=true) {v:AV} (hv:bB T Γ ops st o=some v):
  ∃u,Yields P ops o u a/\An X w π st.heap v u:=by
 unfold dC at hp
 rw [ho] at hp
 simp only at hp
 obtain ⟨dst,op,ty,pos,af,gd⟩:=o
 split at hp
 ·rename_i t h3 h4
  simp only at h3 h4;subst h3;subst h4
  refine ⟨a.tmps.getD t undef,gK rfl rfl,?_⟩
  simp only [bB,Ry,Ck,Option.some.injEq] at hv
  subst hv
  exact h.2.tmps t
 ·rename_i x h3 h4
  simp only at h3 h4;subst h3;subst h4
  have e:=Bs h.2 x
  have fin:(∃ad,a.eval x= .pointer (some ad))->Yields P ops ⟨dst, .nilCheck x,ty,pos,af,none⟩ (a.eval x) a:= λ⟨ad,hx⟩=>
   .inl ⟨by simp [Region.wanted],λw=>by simp [execOp,hx]⟩
  simp only [bB,Ry,Ck] at hv
  split at hv
  ·rename_i fr τ y hx
   simp only [Option.some.injEq] at hv;subst hv
   rw [hx] at e
   have e':=e
   obtain ⟨cs,hc,hv⟩:=e
   simp only [Cells] at hc
   obtain ⟨g,o,rfl,_⟩:=hc
   simp only [Ar,Ty.Ac,Bool.false_eq_true,if_false,List.headD_cons] at hv
   exact ⟨_,fin ⟨_,hv⟩,e'⟩
  ·rename_i fr τ y hx
   simp only [Option.some.injEq] at hv;subst hv
   rw [hx] at e
   obtain ⟨cs,hc,hv⟩:=e
   simp only [Cells] at hc
   rcases hc with ⟨h0,_⟩|⟨y',g,o,h0,rfl,hr⟩
   ·cases h0
   simp only [Option.some.injEq] at h0;subst h0
   simp only [Ar,Ty.Ac,Bool.false_eq_true,if_false,List.headD_cons] at hv
   exact ⟨_,fin ⟨_,hv⟩,[_],⟨g,o,rfl,hr⟩,by rw [hv];simp [Ar,Ty.Ac]⟩
  ·rename_i l i hx
   simp only [Option.some.injEq] at hv;subst hv
   rw [hx] at e
   have e':=e
   obtain ⟨r,tid,vs,_,_,hv⟩:=e
   exact ⟨_,fin ⟨_,hv⟩,e'⟩
  ·rename_i l i hx
   simp only [Option.some.injEq] at hv;subst hv
   rw [hx] at e
   have e':=e
   obtain ⟨r,b,sz,n,_,_,_,_,hv⟩:=e
   exact ⟨_,fin ⟨_,hv⟩,e'⟩
  ·cases hv
 ·rename_i s x f h3 h4
  simp only at h3 h4;subst h3;subst h4
  simp only [bB,Ry,Ck] at hv
  obtain ⟨u,h1,h2⟩:=We hT (st:=st) _ _ _ _ v (Bs h.2 x) hv
  refine ⟨u, .inl ⟨by simp [Region.wanted],λw=>?_⟩,h2⟩
  have:=h1 w
  simp only [execOp,Sem.run_bind]
  first
   |(rw [this];rfl)
   |simp [this]
 ·cases hp
theorem sB {i:Nat} (h:rU ops i=true):dC ops i=true:=by
 unfold rU at h
 unfold dC
 split at h
 ·rename_i o ho
  split at h
  ·rename_i h1 h2
   simp only [h1,h2]
  ·cases h
 ·cases h
theorem Vw (hT:Cd P T) (q:Bool) {Q:Exit->Act->World->Prop} (hQ: ∀c a w,¬Q (.panic c) a w) (jd:Region.noSelect ops=true) {n:Nat} {st1:St} :
  ∀(l:List Nat) (Ab:Array Bool) (st:St) (a:Act) (w:World),Ea T Γ ops (Fb q ops l Ab) st=some st1->Rel X st a w->
   (∀a w,Rel X st1 a w->wpAny P .any ops Q n (Eg (Fb q ops l Ab) Ab) a w)->wpAny P .any ops Q ((Fb q ops l Ab).length+n) Ab a w
 | [],Ab,st,a,w,he,hr,hK=>by
  simp only [Fb,Ea,Option.some.injEq] at he
  subst he
  simp only [Fb,List.length_nil,Nat.zero_add]
  exact hK a w hr
 |k::l,Ab,st,a,w,he,hr,hK=>by
  simp only [Fb] at he hK⊢
  split
  ·rename_i hc
   rw [if_pos hc] at he hK
   simp only [Bool.and_eq_true] at hc
   obtain ⟨h0,h1,h2⟩:=hc
   have hp:dC ops k=true:=by
    cases q with
    |true=>exact h0
    |false=>exact sB h0
   simp only [Ea] at he
   split at he
   ·cases he
   rename_i o ho
   split at he
   rotate_left
   ·cases he
   rename_i v hv
   obtain ⟨π,hr⟩:=hr
   obtain ⟨u,hy,hu⟩:=wc (Γ:=Γ) hT hr ho hp hv
   rw [List.length_cons,show (Fb q ops l (Ab.setIfInBounds k true)).length+1+n=((Fb q ops l (Ab.setIfInBounds k true)).length+n)+1 by omega]
   refine wpAny_take ho jd h2 h1 (λc a w hq=>absurd hq (hQ c _ w)) hy ?_
   exact Vw hT q hQ jd l _ _ _ _ he ⟨π,hr.put o.dst hu⟩ hK
  ·rename_i hc
   rw [if_neg hc] at he hK
   exact Vw hT q hQ jd l Ab st a w he hr hK
theorem eW (hT:Cd P T) (Mf:Hc P Γ) {Q:Exit->Act->World->Prop} {K:St->Prop} (hK: ∀st a w,K st->Rel X st a w->Q .normal a w):
  ∀(f:Nat) (Ab:Array Bool) (st:St) (a:Act) (w:World),anyS T Γ ops K f Ab st->Rel X st a w->wpAny P .any ops Q f Ab a w
 |0,Ab,st,a,w,h,hr=>⟨h.1,hK _ _ _ h.2 hr⟩
 |f+1,Ab,st,a,w,h,hr=>by
  refine ⟨λh0=>absurd h0 h.1,λi hi=>?_⟩
  obtain ⟨o,st',ho,he,Yn⟩:=h.2 i hi
  obtain ⟨π,hr⟩:=hr
  unfold wpOp
  simp only [ho]
  exact Uz hT Mf hr o he λa' w' h'=>eW hT Mf hK f _ _ _ _ Yn h'
theorem yQ (hT:Cd P T) (Mf:Hc P Γ) (hm:P.follows .mixedOrders=true) {Q:Exit->Act->World->Prop} {id:Nat} {draw:Bool} {st:St} {K:St->Prop} {a:Act} (h:Rel X st a w)
  (he:qX T Γ ops draw st K) (hQ: ∀st' a' w',K st'->Rel X st' a' w'->Q .normal a' w'):(Code.region id ops draw).wp P Q a w:=by
 rcases he with ⟨st',h1,h2⟩|⟨rfl,jd,bp,h1,h2⟩
 ·exact iY hT Mf hm h h1 λa' w' h'=>hQ st' a' w' h2 h'
 ·refine wp_mono (Q:= λe a w=>e= .normal/\Q .normal a w) ?_ λe a w h=>h.1▸h.2
  refine wp_region_any hm ?_
  have HJ:Rel X st a {w with drawn:=w.drawn+1} :=by
   obtain ⟨π,h⟩:=h
   exact ⟨π,h.quiet ⟨rfl,rfl,rfl,Nat.le_refl _,λ_ _=>rfl⟩⟩
  have hlen:(Jz ops).length<=ops.size:=by
   have:=Xk (ops:=ops) (!du false ops) (List.range ops.size) (Array.replicate ops.size false)
   rw [List.length_range] at this
   exact this
  have:=Vw hT (!du false ops) (X:=X) (P:=P) (T:=T) (Γ:=Γ) (Q:= λe a w=>e= .normal/\Q .normal a w) (n:=ops.size-(Jz ops).length) (st1:=bp) (λc a w hq=>by cases hq.1) jd (List.range ops.size) (Array.replicate ops.size false) st a _ h1 HJ λa' w' h'=>
   eW hT Mf (λst' a' w' hk hr=>⟨rfl,hQ st' a' w' hk hr⟩) _ _ _ _ _ h2 h'
  have e:(Fb (!du false ops) ops (List.range ops.size) (Array.replicate ops.size false)).length+(ops.size-(Jz ops).length)=ops.size:=by
   have e2:(Fb (!du false ops) ops (List.range ops.size) (Array.replicate ops.size false)).length=(Jz ops).length:=rfl
   omega
  rw [e] at this
  exact this
end
end Go.Proofs.Ytjbdmibbbpdnnaa
