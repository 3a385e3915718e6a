/-
  Part 25 of the proof that the statement FnExactBoundHistogram holds.
-/
import Derived.Test.YtjbdmibbbpdnnaaGreatCBoundHistogram23
namespace Go.Proofs.YtjbdmibbbpdnnaaGreat
open Go.RowKit
section
variable {P:Program} {T:Tab} {Γ:Env} {X:Ctx} {w w':World} {π:Pi} {ops:Array Oper} {hd tl:List Nat}
structure Rq (ops:Array Oper) (tl fl:List Nat) (Ab:Array Bool):Prop where
 size:Ab.size=ops.size
 done: ∀i,i∈fl->Ab.getD i false=true
 closed: ∀j oj,ops[j]?=some oj->Ab.getD j false=true-> ∀e∈oj.after,Region.binds .any e=true->Ab.getD e.on false=true
 tail: ∀t,t∈tl->Ab.getD t true=false
theorem Rq.set {fl:List Nat} {i:Nat} {Ab:Array Bool} (inv:Rq ops tl fl Ab) (hi:i∈Region.ready .any ops Ab) (Ts:i∉tl):Rq ops tl fl (Ab.setIfInBounds i true):=by
 obtain ⟨_,oi,hoi,Ho⟩:=mem_ready.1 hi
 refine ⟨by simp [inv.size],λk hk=>getD_set_true (inv.done k hk),λj oj hj hl e he hb=>?_,λt ht=>by
  have Fc:i≠t:= λe=>Ts (by rw [e];exact ht)
  rw [getD_set_ne true Fc];exact inv.tail t ht⟩
 by_cases iW:i=j
 ·subst iW
  have:oj=oi:=Option.some.inj (hj.symm.trans hoi)
  subst this
  exact getD_set_true (Ho e he hb)
 ·rw [getD_set_ne false iW] at hl
  exact getD_set_true (inv.closed j oj hj hl e he hb)
theorem yz (k:Nat) (r:List Nat) (h:(r.all λt=>(k::r).any λk=>Region.waitsFor .any ops t k)=true): ∀t,t∈r-> ∃k',(k'=k\/k'∈r)/\Region.waitsFor .any ops t k'=true:= λt ht=>by
 obtain ⟨k',h1,h2⟩:=List.any_eq_true.1 (List.all_eq_true.1 h t ht)
 exact ⟨k',List.mem_cons.1 h1,h2⟩
theorem xE {fl:List Nat} {Ab:Array Bool} (hs:o4 ops hd tl=true) (inv:Rq ops tl fl Ab) (Wn: ∀i,i∈hd->i<ops.size):
  ∀(d i:Nat),ops.size-i=d->i∈hd->Ab.getD i true=false-> ∀t,t∈tl->t∉Region.ready .any ops Ab:=by
 cases tl with
 |nil=>intro d i _ _ _ t ht;cases ht
 |cons f r=>
  simp only [o4,Bool.and_eq_true] at hs
  obtain ⟨gf,oZ⟩:=hs
  intro d
  induction d using Nat.strongRecOn with
  |_ d ih=>
   intro i ZB hi HV t ht hr
   obtain ⟨_,ot,hot,Ho⟩:=mem_ready.1 hr
   rcases List.mem_cons.1 ht with rfl|gU
   ·have h1:=List.all_eq_true.1 gf i hi
    obtain ⟨j,hj,hj2⟩:=List.any_eq_true.1 h1
    simp only [Bool.and_eq_true,decide_eq_true_eq] at hj2
    obtain ⟨oj,SA,e,he,hb,ZV⟩:=Region.waitsFor_spec hj2.2
    rcases List.mem_cons.1 hj with rfl|OJ
    ·have:oj=ot:=Option.some.inj (SA.symm.trans hot)
     subst this
     have h2:=Ho e he hb
     rw [ZV,getD_both HV] at h2
     cases h2
    ·cases hl:Ab.getD j false with
     |true=>
      have h2:=inv.closed j oj SA hl e he hb
      rw [ZV,getD_both HV] at h2
      cases h2
     |false=>
      have hjs:j<Ab.size:=by rw [inv.size];exact Wn j OJ
      have:=Wn j OJ
      exact ih (ops.size-j) (by omega) j rfl OJ (getD_in hjs hl) t (by simp) hr
   ·obtain ⟨k',h1,h2⟩:=yz f r oZ t gU
    obtain ⟨o',XS,e,he,hb,ZV⟩:=Region.waitsFor_spec h2
    have:o'=ot:=Option.some.inj (XS.symm.trans hot)
    subst this
    have h3:=Ho e he hb
    have hk:k'∈f::r:=by rcases h1 with rfl|h1<;>simp [*]
    rw [ZV,getD_both (inv.tail k' hk)] at h3
    cases h3
def HY (T:Tab) (Γ:Env) (ops:Array Oper) (hd:List Nat) (L:Array Bool->St->Prop):Nat->Array Bool->St->Prop
 |0,Ab,st=>L Ab st
 |f+1,Ab,st=>
  Region.ready .any ops Ab≠ []/\ ∀i∈Region.ready .any ops Ab,i∈hd/\ ∃o v,ops[i]?=some o/\bJ T Γ ops st o=some v/\HY T Γ ops hd L f (Ab.setIfInBounds i true) (st.put o.dst v)
theorem uF (hT:Cb P T) (Md:Hc P Γ) {Q:Exit->Act->World->Prop} {K:Act->World->Prop} {st:St} {a:Act} (h:Rel X st a w) {i:Nat} {o:Oper} {v:AV} (ho:ops[i]?=some o) (hv:bJ T Γ ops st o=some v)
  (hK: ∀a' w',Rel X (st.put o.dst v) a' w'->K a' w'):wpOp P ops Q i K a w:=by
 obtain ⟨π,h⟩:=h
 have run:Ru T Γ st o=some v->o.wp P a w K Q:= λhe=>l4 (X:=X) (st':=st) (av:=v) (vF hT Md h o v he) hK
 have skip:v= .at .skip->K (a.put o.dst undef) w:= λe=>by subst e;exact hK _ _ ⟨π,h.put o.dst xk⟩
 unfold wpOp
 simp only [ho]
 unfold bJ at hv
 split at hv
 ·rename_i hg
  rw [if_pos (by simp [Region.wanted,hg])]
  exact .inl (run hv)
 ·rename_i j want hg
  split at hv
  ·rename_i b hb
   have hy:=(Zy h j).1 b hb
   split at hv
   ·rename_i yM
    rw [if_pos (by simp only [Region.wanted,hg,hy];simpa using yM)]
    exact .inl (run hv)
   ·rename_i yM
    rw [if_neg (by simp only [Region.wanted,hg,hy];simpa using yM)]
    simp only [Option.some.injEq] at hv
    exact skip hv.symm
  ·rename_i hb
   have hy:=(Zy h j).2 hb
   rw [if_neg (by simp [Region.wanted,hg,hy])]
   simp only [Option.some.injEq] at hv
   exact skip hv.symm
  ·cases hv
theorem fa (hT:Cb P T) (Md:Hc P Γ) {g:Nat} {L:Array Bool->St->Prop} {Q:Exit->Act->World->Prop} (hL: ∀Ab st a w,L Ab st->Rel X st a w->wpAny P .any ops Q g Ab a w):
  ∀(f:Nat) (Ab:Array Bool) (st:St) (a:Act) (w:World),HY T Γ ops hd L f Ab st->Rel X st a w->wpAny P .any ops Q (f+g) Ab a w
 |0,Ab,st,a,w,h,hr=>by rw [Nat.zero_add];exact hL _ _ _ _ h hr
 |f+1,Ab,st,a,w,h,hr=>by
  rw [show f+1+g=(f+g)+1 by omega]
  refine ⟨λh0=>absurd h0 h.1,λi hi=>?_⟩
  obtain ⟨_,o,v,ho,hv,eB⟩:=h.2 i hi
  exact uF hT Md hr ho hv λa' w' h'=>fa hT Md hL f _ _ _ _ eB h'
theorem yh {fl:List Nat} {i:Nat} {oi:Oper} {v:AV} {L:Array Bool->St->Prop} (hi:ops[i]?=some oi) (hs:o4 ops hd tl=true) (Wn: ∀i,i∈hd->i<ops.size) (Ts:i∈hd)
  (Ho: ∀j,j<ops.size->j∈fl\/j∈hd\/j∈tl) (vV: ∀j,j∈hd->j∉tl) (ZE: ∀Ab st,L Ab st-> ∀j∈Region.ready .any ops Ab,j∈tl):
  ∀(f:Nat) (Ab:Array Bool) (st:St),Rq ops tl fl Ab->
   (∀j oj,ops[j]?=some oj->j≠i->Ab.getD j true=false->(∀e∈oj.after,Region.binds .any e=true->e.on≠i)->oi.apart ops oj=true)->
   i∈Region.ready .any ops Ab->bJ T Γ ops st oi=some v->
   HY T Γ ops hd L f (Ab.setIfInBounds i true) (st.put oi.dst v)->HY T Γ ops hd L (f+1) Ab st:=by
 intro f
 have Aat: ∀Ab,Rq ops tl fl Ab->i∈Region.ready .any ops Ab-> ∀j,j∈Region.ready .any ops Ab->j∈hd:=by
  intro Ab inv hr j hj
  obtain ⟨HV,oj,SA,_⟩:=mem_ready.1 hj
  rcases Ho j (Array.getElem?_eq_some_iff.1 SA).1 with h|h|h
  ·have h1:=inv.done j h
   rw [getD_both HV] at h1;cases h1
  ·exact h
  ·exact absurd hj (xE hs inv Wn _ i rfl Ts (mem_ready.1 hr).1 j h)
 induction f with
 |zero=>
  intro Ab st inv _ hr hv Hh
  refine ⟨λh=>(by rw [h] at hr;cases hr),λj hj=>?_⟩
  have OJ:=Aat Ab inv hr j hj
  refine ⟨OJ,?_⟩
  by_cases ph:j=i
  ·subst ph;exact ⟨oi,v,hi,hv,Hh⟩
  ·exact absurd (ZE _ _ Hh j (ready_mono hj ph)) (vV j OJ)
 |succ f ih=>
  intro Ab st inv gR hr hv Hh
  have HV:=(mem_ready.1 hr).1
  refine ⟨λh=>(by rw [h] at hr;cases hr),λj hj=>?_⟩
  have OJ:=Aat Ab inv hr j hj
  refine ⟨OJ,?_⟩
  by_cases ph:j=i
  ·subst ph;exact ⟨oi,v,hi,hv,Hh⟩
  ·obtain ⟨_,oj,vj,SA,hvj,eB⟩:=Hh.2 j (ready_mono hj ph)
   obtain ⟨ZK,oj',Afg,YX⟩:=mem_ready.1 hj
   have:oj'=oj:=Option.some.inj (Afg.symm.trans SA)
   subst this
   have nc: ∀e∈oj'.after,Region.binds .any e=true->e.on≠i:= λe he hb heq=>by
    have h1:=YX e he hb
    rw [heq,getD_both HV] at h1
    cases h1
   obtain ⟨p1,p2,p3⟩:=Oper.apart_spec (gR j oj' SA ph ZK nc)
   rw [xI p1] at hvj
   refine ⟨oj',vj,SA,hvj,?_⟩
   have TW: ∀k ok,ops[k]?=some ok->k≠i->(Ab.setIfInBounds j true).getD k true=false->
     (∀e∈ok.after,Region.binds .any e=true->e.on≠i)->oi.apart ops ok=true:= λk ok hk hki Aag UM=>by
    refine gR k ok hk hki ?_ UM
    by_cases hjk:j=k
    ·subst hjk;exact ZK
    ·rw [getD_set_ne true hjk] at Aag;exact Aag
   refine ih (Ab.setIfInBounds j true) (st.put oj'.dst vj) (inv.set hj (vV j OJ)) TW (ready_mono hr (Ne.symm ph)) (by rw [xI p3];exact hv) ?_
   rw [Array.setIfInBounds_comm _ _ ph,<-St.put_comm st v vj p2]
   exact eB
theorem kP: ∀(l:List Nat) (Ab:Array Bool),iz ops l Ab=true-> ∀j∈Region.ready .any ops Ab,j∈l
 | [],Ab,h,j,hj=>by simp only [iz,List.isEmpty_iff] at h;rw [h] at hj;cases hj
 |k::r,Ab,h,j,hj=>by
  simp only [iz,Bool.and_eq_true,Bool.or_eq_true,decide_eq_true_eq] at h
  rcases h.1 with h1|h1
  ·rw [h1] at hj
   simp at hj
   simp [hj]
  ·by_cases e:j=k
   ·simp [e]
   ·exact List.mem_cons_of_mem _ (kP r _ h.2 j (ready_mono hj e))
theorem uP {fl:List Nat} (bG:Region.noSelect ops=true) (hs:o4 ops hd tl=true) (Wn: ∀i,i∈hd->i<ops.size) (Ho: ∀j,j<ops.size->j∈fl\/j∈hd\/j∈tl) (vV: ∀j,j∈hd->j∉tl) (st':St):
  ∀(l:List Nat) (Ab:Array Bool) (st:St),(∀i,i∈l->i∈hd)->Rq ops tl fl Ab->jk ops tl l Ab=true->Ef T Γ ops l st=some st'->
  HY T Γ ops hd (λsV s=>iz ops tl sV=true/\s=st') l.length Ab st
 | [],Ab,st,_,_,hB,he=>by
  simp only [Ef,Option.some.injEq] at he
  exact ⟨by simpa [jk] using hB,he⟩
 |k::l,Ab,st,hl,inv,hB,he=>by
  simp only [jk,Bool.and_eq_true] at hB
  obtain ⟨⟨hr,hf⟩,hB'⟩:=hB
  have hkh:=hl k (by simp)
  have fH:k∈Region.ready .any ops Ab:=by simpa using hr
  simp only [Ef] at he
  split at he
  ·cases he
  ·rename_i o ho
   split at he
   ·rename_i v hv
    exact yh ho hs Wn hkh Ho vV (λsV s hL=>kP tl sV hL.1) l.length Ab st inv (Region.free_spec ho hf) fH hv
     (uP bG hs Wn Ho vV st' l _ _ (λi hi=>hl i (by simp [hi])) (inv.set fH (vV k hkh)) hB' he)
   ·cases he
theorem sv {Q:Exit->Act->World->Prop} (hQ: ∀e a w,Q e a w->e= .normal) {k i:Nat} {x:Operand} {o:Oper} (ho:ops[k]?=some o) (lY:o.op= .extract x i) (hg:o.guard=none) {K:Act->World->Prop} {a:Act} {w:World}
  (h:wpOp P ops Q k K a w): ∃v,Yields P ops o v a/\K (a.put o.dst v) w:=by
 unfold wpOp at h
 simp only [ho] at h
 have hw:Region.wanted o (yielded ops a.tmps)=true:=by simp [Region.wanted,hg]
 rw [if_pos hw] at h
 rcases h with h|⟨_,a',w',h⟩
 ·unfold Oper.wp at h
  have hr: ∀w,(execOp a.eval o).run P w=(do pure (Next.value (<-Instr.extract (a.eval x) i))).run P w:= λw=>by unfold execOp;rw [lY]
  rw [hr] at h
  unfold Instr.extract at h hr
  split at h
  ·rename_i vs hx
   split at h
   ·rename_i v hv
    rw [hx] at hr
    simp only [hv] at hr
    exact ⟨v, .inl ⟨hw,λw=>(hr w).trans rfl⟩,h⟩
   ·exact h.elim
  ·exact h.elim
 ·cases hQ _ _ _ h
theorem Xz {Q:Exit->Act->World->Prop} (hQ: ∀e a w,Q e a w->e= .normal) (bG:Region.noSelect ops=true): ∀(l:List Nat) (Ab:Array Bool) (a:Act) (w:World),iz ops l Ab=true->wpOps P ops Q l a w->wpAny P .any ops Q l.length Ab a w
 | [],Ab,a,w,hB,h=>⟨by simpa [iz] using hB,h⟩
 |k::r,Ab,a,w,hB,h=>by
  simp only [iz,Bool.and_eq_true,Bool.or_eq_true,decide_eq_true_eq] at hB
  rw [wpOps_cons] at h
  rcases hB.1 with h0|⟨h1,h2,h3⟩
  ·refine ⟨λh1=>(by rw [h0] at h1;cases h1),λi hi=>?_⟩
   rw [h0] at hi
   have hik:i=k:=by simpa using hi
   subst hik
   exact wpOp_mono (λa' w' h'=>Xz hQ bG r _ a' w' hB.2 h') h
  ·unfold KB at h1
   split at h1
   ·rename_i o ho
    split at h1
    ·rename_i x i lY hg
     obtain ⟨v,hy,hk⟩:=sv hQ ho lY hg h
     exact wpAny_take ho bG h3 h2 (λc a w hq=>by cases hQ _ _ _ hq) hy (Xz hQ bG r _ _ w hB.2 hk)
    ·cases h1
   ·cases h1
theorem gK {P:Program} {o:Oper} {t:Tmp} {a:Act} (h:o.op= .move (.tmp t)) (hg:o.guard=none):Yields P ops o (a.tmps.getD t undef) a:=by
 refine .inl ⟨by simp [Region.wanted,hg],λw=>?_⟩
 unfold execOp
 rw [h]
 rfl
theorem sM {hd tl:List Nat} {i:Nat} (h:gW ops hd tl i=true): ∃o t,ops[i]?=some o/\o.op= .move (.tmp t)/\o.guard=none:=by
 unfold gW at h
 split at h
 ·rename_i o ho
  simp only [Bool.and_eq_true] at h
  have h1:=h.1
  split at h1
  ·rename_i t h2 h3
   exact ⟨o,t,ho,h2,h3⟩
  ·cases h1
 ·cases h
theorem bB {q:Bool} {hd:List Nat} {Q:Exit->Act->World->Prop} (hQ: ∀c a w,¬Q (.panic c) a w) (bG:Region.noSelect ops=true) {n:Nat} {st1:St}
  (eB: ∀Ab st a w,(∀j oj,ops[j]?=some oj->Ab.getD j false=true-> ∀e∈oj.after,Region.binds .any e=true->Ab.getD e.on false=true)->Ab.size=ops.size->jk ops tl hd Ab=true->st=st1->Rel X st a w->
   (∀j,Ab.getD j false=true↔j∈Ox q Γ ops)->wpAny P .any ops Q n Ab a w):
  ∀(l dn:List Nat) (Ab:Array Bool) (st:St) (a:Act) (w:World),(∀j,j∈Ox q Γ ops↔j∈dn\/j∈l)->(∀i,i∈l-> ∃o t,ops[i]?=some o/\o.op= .move (.tmp t)/\o.guard=none)->
   (∀j oj,ops[j]?=some oj->Ab.getD j false=true-> ∀e∈oj.after,Region.binds .any e=true->Ab.getD e.on false=true)->Ab.size=ops.size->(∀j,Ab.getD j false=true↔j∈dn)->
   gJ ops tl hd l Ab=true->Ef T Γ ops l st=some st1->Rel X st a w->wpAny P .any ops Q (l.length+n) Ab a w
 | [],dn,Ab,st,a,w,hm,_,hc,Wn,TR,hf,he,hr=>by
  simp only [Ef,Option.some.injEq] at he
  rw [List.length_nil,Nat.zero_add]
  exact eB Ab st a w hc Wn (by simpa [gJ] using hf) he hr λj=>by rw [TR j,hm j];simp
 |k::l,dn,Ab,st,a,w,hm,hl,hc,Wn,TR,hf,he,hr=>by
  simp only [gJ,Bool.and_eq_true] at hf
  obtain ⟨⟨h1,h2⟩,h3⟩:=hf
  obtain ⟨o,t,ho,lY,hg⟩:=hl k (by simp)
  have po:k∈Region.ready .any ops Ab:=by simpa using h1
  obtain ⟨_,o',XS,Ho⟩:=mem_ready.1 po
  have ho2:o'=o:=Option.some.inj (XS.symm.trans ho)
  subst ho2
  have hks:k<Ab.size:=by rw [Wn];exact (Array.getElem?_eq_some_iff.1 ho).1
  simp only [Ef,ho] at he
  have hv:bJ T Γ ops st o'=some (st.get t):=by simp only [bJ,hg,Ru,Ch,lY];rfl
  rw [hv] at he
  rw [List.length_cons,show l.length+1+n=(l.length+n)+1 by omega]
  refine wpAny_take ho bG h2 h1 (λc a w hq=>absurd hq (hQ c _ w)) (gK lY hg) ?_
  obtain ⟨π,hr⟩:=hr
  refine bB hQ bG eB l (k::dn) _ _ _ _ (λj=>by rw [hm j,List.mem_cons,List.mem_cons];exact ⟨λh=>h.elim (λh=> .inl (.inr h)) (λh=>h.elim (λh=> .inl (.inl h)) .inr),λh=>h.elim (λh=>h.elim (λh=> .inr (.inl h)) .inl) (λh=> .inr (.inr h))⟩) (λi hi=>hl i (by simp [hi])) ?_ (by simp [Wn]) (λj=>?_) h3 he ⟨π,hr.put o'.dst (hr.2.tmps t)⟩
  ·intro j oj hj ZO e hem hb
   by_cases HR:k=j
   ·subst HR
    have:oj=o':=Option.some.inj (hj.symm.trans ho)
    subst this
    exact getD_set_true (Ho e hem hb)
   ·rw [getD_set_ne false HR] at ZO
    exact getD_set_true (hc j oj hj ZO e hem hb)
  ·by_cases HR:k=j
   ·subst HR
    refine ⟨λ_=>by simp,λ_=>?_⟩
    simp [hks]
   ·rw [getD_set_ne false HR,TR j]
    simp [Ne.symm HR]
theorem bf {ops:Array Oper} : ∀(a b:List Nat) (st st':St),Ef T Γ ops (a++b) st=some st'-> ∃s,Ef T Γ ops a st=some s/\Ef T Γ ops b s=some st'
 | [],b,st,st',h=>⟨st,rfl,h⟩
 |i::a,b,st,st',h=>by
  simp only [List.cons_append,Ef] at h⊢
  split at h
  ·cases h
  ·split at h
   ·exact bf a b _ st' h
   ·cases h
theorem jb (hT:Cb P T) (Md:Hc P Γ) (hm:P.follows .mixedOrders=true) {Q:Exit->Act->World->Prop} {id:Nat} {draw:Bool} {st st':St} {a:Act} (h:Rel X st a w)
  (he:Lh T Γ ops draw st=some st') (hQ: ∀a' w',Rel X st' a' w'->Q .normal a' w'):(Code.region id ops draw).wp P Q a w:=by
 unfold Lh at he
 cases draw with
 |false=>
  rw [if_neg (by simp)] at he
  exact wp_region_list (eo hT Md ops.toList st st' a w h he hQ)
 |true=>
  rw [if_pos rfl] at he
  have go: ∀(q:Bool),dP q Γ ops=true->(match Ef T Γ ops (dG q Γ ops) st with
    |some st'=>Jd T Γ ops (Fk q Γ ops) st'
    |none=>none)=some st'->(Code.region id ops true).wp P Q a w:=by
   intro q ct he
   split at he
   ·rename_i st1 h1
    simp only [dP,Bool.and_eq_true,beq_iff_eq] at ct
    obtain ⟨⟨⟨bG,hlen⟩,TU⟩,Aac⟩:=ct
    refine wp_mono (Q:= λe a w=>e= .normal/\Q .normal a w) ?_ λe a w h=>h.1▸h.2
    refine wp_region_any hm ?_
    have hrel:Rel X st a {w with drawn:=w.drawn+1} :=by
     obtain ⟨π,h⟩:=h
     exact ⟨π,h.quiet ⟨rfl,rfl,rfl,Nat.le_refl _,λ_ _=>rfl⟩⟩
    obtain ⟨s0,h0,h1⟩:=bf _ _ _ _ h1
    have Ts: ∀i,i∈Wm q Γ ops->i<ops.size:= λi hi=>List.mem_range.1 (List.mem_filter.1 hi).1
    have Wn: ∀i,i∈Oz q Γ ops->i<ops.size:= λi hi=>Ts i (List.mem_filter.1 hi).1
    have Ho: ∀j,j<ops.size->j∈Ox q Γ ops\/j∈Oz q Γ ops\/j∈Fk q Γ ops:= λj hj=>by
     by_cases ht:j∈Fk q Γ ops
     ·exact .inr (.inr ht)
     ·have hh:j∈Wm q Γ ops:=List.mem_filter.2 ⟨List.mem_range.2 hj,by simpa using ht⟩
      cases NA:gW ops (Wm q Γ ops) (Fk q Γ ops) j with
      |true=>exact .inl (List.mem_filter.2 ⟨hh,NA⟩)
      |false=>exact .inr (.inl (List.mem_filter.2 ⟨hh,by rw [NA];rfl⟩))
    have RN: ∀j,j∈Wm q Γ ops->j∉Fk q Γ ops:= λj hj=>by
     have:=(List.mem_filter.1 hj).2
     simpa using this
    have vV: ∀j,j∈Oz q Γ ops->j∉Fk q Γ ops:= λj hj=>RN j (List.mem_filter.1 hj).1
    have ZD: ∀j,j∈Ox q Γ ops->j∉Fk q Γ ops:= λj hj=>RN j (List.mem_filter.1 hj).1
    have htl: ∀t,t∈Fk q Γ ops->t<ops.size:=by
     intro t ht
     unfold Fk at ht
     have: ∀(l:List Nat) (acc:List Nat),(∀i,i∈acc->i<ops.size)->(∀i,i∈l->i<ops.size)-> ∀i,i∈l.foldl (init:=acc) (λacc i=>match ops[i]? with
       |some o=>if KJ q Γ o||o.after.any (λe=>Region.binds .any e&&acc.contains e.on) then acc++ [i] else acc
       |none=>acc)->i<ops.size:=by
      intro l
      induction l with
      |nil=>intro acc h1 _ i hi;exact h1 i hi
      |cons x l ih=>
       intro acc h1 h2 i hi
       simp only [List.foldl_cons] at hi
       refine ih _ ?_ (λi hi=>h2 i (by simp [hi])) i hi
       intro k hk
       split at hk
       ·split at hk
        ·rcases List.mem_append.1 hk with hk|hk
         ·exact h1 k hk
         ·simp at hk;rw [hk];exact h2 x (by simp)
        ·exact h1 k hk
       ·exact h1 k hk
     exact this (List.range ops.size) [] (by simp) (λi hi=>List.mem_range.1 hi) t ht
    rw [<-hlen]
    refine bB (q:=q) (X:=X) (T:=T) (Γ:=Γ) (tl:=Fk q Γ ops) (hd:=Oz q Γ ops) (st1:=s0) (λc a w hq=>by cases hq.1) bG ?_ (Ox q Γ ops) [] _ st a _ (λj=>by simp)
     (λi hi=>sM (List.mem_filter.1 hi).2) (λj oj _ hl=>(by rw [hlen,getD_replicate_false] at hl;cases hl)) (by simp [hlen]) (λj=>by rw [hlen,getD_replicate_false];simp) (by rw [hlen];exact TU) h0 hrel
    intro Ab s a' w' hc ll ZJ hs hr NA
    subst hs
    have Agc:Rq ops (Fk q Γ ops) (Ox q Γ ops) Ab:=
     ⟨ll,λi hi=>(NA i).2 hi,hc,λt ht=>getD_in (by rw [ll];exact htl t ht) (by
      cases hg:Ab.getD t false with
      |false=>rfl
      |true=>exact absurd ht (ZD t ((NA t).1 hg)))⟩
    have HA:=uP (T:=T) (Γ:=Γ) bG Aac Wn Ho vV st1 (Oz q Γ ops) _ s (λi hi=>hi) Agc ZJ h1
    exact fa (X:=X) (P:=P) (Q:= λe a w=>e= .normal/\Q .normal a w) (g:=(Fk q Γ ops).length) hT Md (λAb s a' w' hL hr=>by
     obtain ⟨Aft,rfl⟩:=hL
     exact Xz (λe a w h=>h.1) bG (Fk q Γ ops) Ab a' w' Aft (eh hT Md _ _ st' a' w' hr he λa w h=>⟨rfl,hQ a w h⟩)) _ _ _ _ _ HA hr
   ·cases he
  split at he
  ·rename_i ct;exact go false ct he
  ·split at he
   ·rename_i ct;exact go true ct he
   ·cases he
theorem Xr (q:Bool): ∀(l:List Nat) (Ab:Array Bool),(Ff q ops l Ab).length<=l.length
 | [],_=>Nat.le_refl _
 |i::r,Ab=>by
  simp only [Ff]
  split
  ·simp only [List.length_cons];have:=Xr q r (Ab.setIfInBounds i true);omega
  ·simp only [List.length_cons];have:=Xr q r Ab;omega
theorem xb (hT:Cb P T) {st:St} {a:Act} (h:Aj X π st a w) {i:Nat} {o:Oper} (ho:ops[i]?=some o) (hp:dM ops i=true) {v:AV} (hv:bJ T Γ ops st o=some v):
  ∃u,Yields P ops o u a/\Ap X w π st.heap v u:=by
 unfold dM at hp
 rw [ho] at hp
 simp only at hp
 obtain ⟨dst,op,ty,pos,af,gd⟩:=o
 split at hp
 ·rename_i t h3 h4
  simp only at h3 h4;subst h3;subst h4
  refine ⟨a.tmps.getD t undef,gK rfl rfl,?_⟩
  simp only [bJ,Ru,Ch,Option.some.injEq] at hv
  subst hv
  exact h.2.tmps t
 ·rename_i x h3 h4
  simp only at h3 h4;subst h3;subst h4
  have e:=Bq h.2 x
  have fin:(∃ad,a.eval x= .pointer (some ad))->Yields P ops ⟨dst, .nilCheck x,ty,pos,af,none⟩ (a.eval x) a:= λ⟨ad,hx⟩=>
   .inl ⟨by simp [Region.wanted],λw=>by simp [execOp,hx]⟩
  simp only [bJ,Ru,Ch] at hv
  split at hv
  ·rename_i fr τ y hx
   simp only [Option.some.injEq] at hv;subst hv
   rw [hx] at e
   have e':=e
   obtain ⟨cs,hc,hv⟩:=e
   simp only [Cells] at hc
   obtain ⟨g,o,rfl,_⟩:=hc
   simp only [Ar,Ty.Ac,Bool.false_eq_true,if_false,List.headD_cons] at hv
   exact ⟨_,fin ⟨_,hv⟩,e'⟩
  ·rename_i fr τ y hx
   simp only [Option.some.injEq] at hv;subst hv
   rw [hx] at e
   obtain ⟨cs,hc,hv⟩:=e
   simp only [Cells] at hc
   rcases hc with ⟨h0,_⟩|⟨y',g,o,h0,rfl,hr⟩
   ·cases h0
   simp only [Option.some.injEq] at h0;subst h0
   simp only [Ar,Ty.Ac,Bool.false_eq_true,if_false,List.headD_cons] at hv
   exact ⟨_,fin ⟨_,hv⟩,[_],⟨g,o,rfl,hr⟩,by rw [hv];simp [Ar,Ty.Ac]⟩
  ·rename_i l i hx
   simp only [Option.some.injEq] at hv;subst hv
   rw [hx] at e
   have e':=e
   obtain ⟨r,tid,vs,_,_,hv⟩:=e
   exact ⟨_,fin ⟨_,hv⟩,e'⟩
  ·rename_i l i hx
   simp only [Option.some.injEq] at hv;subst hv
   rw [hx] at e
   have e':=e
   obtain ⟨r,b,sz,n,_,_,_,_,hv⟩:=e
   exact ⟨_,fin ⟨_,hv⟩,e'⟩
  ·cases hv
 ·rename_i s x f h3 h4
  simp only at h3 h4;subst h3;subst h4
  simp only [bJ,Ru,Ch] at hv
  obtain ⟨u,h1,h2⟩:=Wg hT (st:=st) _ _ _ _ v (Bq h.2 x) hv
  refine ⟨u, .inl ⟨by simp [Region.wanted],λw=>?_⟩,h2⟩
  have:=h1 w
  simp only [execOp,Sem.run_bind]
  first
   |(rw [this];rfl)
   |simp [this]
 ·cases hp
theorem tC {i:Nat} (h:sN ops i=true):dM ops i=true:=by
 unfold sN at h
 unfold dM
 split at h
 ·rename_i o ho
  split at h
  ·rename_i h1 h2
   simp only [h1,h2]
  ·cases h
 ·cases h
theorem Vz (hT:Cb P T) (q:Bool) {Q:Exit->Act->World->Prop} (hQ: ∀c a w,¬Q (.panic c) a w) (bG:Region.noSelect ops=true) {n:Nat} {st1:St} :
  ∀(l:List Nat) (Ab:Array Bool) (st:St) (a:Act) (w:World),Ef T Γ ops (Ff q ops l Ab) st=some st1->Rel X st a w->
   (∀a w,Rel X st1 a w->wpAny P .any ops Q n (Ek (Ff q ops l Ab) Ab) a w)->wpAny P .any ops Q ((Ff q ops l Ab).length+n) Ab a w
 | [],Ab,st,a,w,he,hr,hK=>by
  simp only [Ff,Ef,Option.some.injEq] at he
  subst he
  simp only [Ff,List.length_nil,Nat.zero_add]
  exact hK a w hr
 |k::l,Ab,st,a,w,he,hr,hK=>by
  simp only [Ff] at he hK⊢
  split
  ·rename_i hc
   rw [if_pos hc] at he hK
   simp only [Bool.and_eq_true] at hc
   obtain ⟨h0,h1,h2⟩:=hc
   have hp:dM ops k=true:=by
    cases q with
    |true=>exact h0
    |false=>exact tC h0
   simp only [Ef] at he
   split at he
   ·cases he
   rename_i o ho
   split at he
   rotate_left
   ·cases he
   rename_i v hv
   obtain ⟨π,hr⟩:=hr
   obtain ⟨u,hy,hu⟩:=xb (Γ:=Γ) hT hr ho hp hv
   rw [List.length_cons,show (Ff q ops l (Ab.setIfInBounds k true)).length+1+n=((Ff q ops l (Ab.setIfInBounds k true)).length+n)+1 by omega]
   refine wpAny_take ho bG h2 h1 (λc a w hq=>absurd hq (hQ c _ w)) hy ?_
   exact Vz hT q hQ bG l _ _ _ _ he ⟨π,hr.put o.dst hu⟩ hK
  ·rename_i hc
   rw [if_neg hc] at he hK
   exact Vz hT q hQ bG l Ab st a w he hr hK
theorem fb (hT:Cb P T) (Md:Hc P Γ) {Q:Exit->Act->World->Prop} {K:St->Prop} (hK: ∀st a w,K st->Rel X st a w->Q .normal a w):
  ∀(f:Nat) (Ab:Array Bool) (st:St) (a:Act) (w:World),anyS T Γ ops K f Ab st->Rel X st a w->wpAny P .any ops Q f Ab a w
 |0,Ab,st,a,w,h,hr=>⟨h.1,hK _ _ _ h.2 hr⟩
 |f+1,Ab,st,a,w,h,hr=>by
  refine ⟨λh0=>absurd h0 h.1,λi hi=>?_⟩
  obtain ⟨o,st',ho,he,eB⟩:=h.2 i hi
  obtain ⟨π,hr⟩:=hr
  unfold wpOp
  simp only [ho]
  exact Vb hT Md hr o he λa' w' h'=>fb hT Md hK f _ _ _ _ eB h'
theorem zM (hT:Cb P T) (Md:Hc P Γ) (hm:P.follows .mixedOrders=true) {Q:Exit->Act->World->Prop} {id:Nat} {draw:Bool} {st:St} {K:St->Prop} {a:Act} (h:Rel X st a w)
  (he:rZ T Γ ops draw st K) (hQ: ∀st' a' w',K st'->Rel X st' a' w'->Q .normal a' w'):(Code.region id ops draw).wp P Q a w:=by
 rcases he with ⟨st',h1,h2⟩|⟨rfl,bG,bw,h1,h2⟩
 ·exact jb hT Md hm h h1 λa' w' h'=>hQ st' a' w' h2 h'
 ·refine wp_mono (Q:= λe a w=>e= .normal/\Q .normal a w) ?_ λe a w h=>h.1▸h.2
  refine wp_region_any hm ?_
  have hrel:Rel X st a {w with drawn:=w.drawn+1} :=by
   obtain ⟨π,h⟩:=h
   exact ⟨π,h.quiet ⟨rfl,rfl,rfl,Nat.le_refl _,λ_ _=>rfl⟩⟩
  have hlen:(Kb ops).length<=ops.size:=by
   have:=Xr (ops:=ops) (!dC false ops) (List.range ops.size) (Array.replicate ops.size false)
   rw [List.length_range] at this
   exact this
  have:=Vz hT (!dC false ops) (X:=X) (P:=P) (T:=T) (Γ:=Γ) (Q:= λe a w=>e= .normal/\Q .normal a w) (n:=ops.size-(Kb ops).length) (st1:=bw) (λc a w hq=>by cases hq.1) bG (List.range ops.size) (Array.replicate ops.size false) st a _ h1 hrel λa' w' h'=>
   fb hT Md (λst' a' w' hk hr=>⟨rfl,hQ st' a' w' hk hr⟩) _ _ _ _ _ h2 h'
  have e:(Ff (!dC false ops) ops (List.range ops.size) (Array.replicate ops.size false)).length+(ops.size-(Kb ops).length)=ops.size:=by
   have e2:(Ff (!dC false ops) ops (List.range ops.size) (Array.replicate ops.size false)).length=(Kb ops).length:=rfl
   omega
  rw [e] at this
  exact this
end
end Go.Proofs.YtjbdmibbbpdnnaaGreat
