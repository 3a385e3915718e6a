/-
  Part 25 of the proof that the statement FnExactSubgroupCosetCount holds.
-/
import Derived.Test.YtjbdmibbbpdnnaaCSubgroupCosetCount23
namespace Go.Proofs.Ytjbdmibbbpdnnaa
open Go.RowKit
section
variable {P:Program} {T:Tab} {Γ:Env} {X:Ctx} {w w':World} {π:Pi} {ops:Array Oper} {hd tl:List Nat}
structure Pv (ops:Array Oper) (tl fl:List Nat) (Aa:Array Bool):Prop where
 size:Aa.size=ops.size
 done: ∀i,i∈fl->Aa.getD i false=true
 closed: ∀j oj,ops[j]?=some oj->Aa.getD j false=true-> ∀e∈oj.after,Region.binds .any e=true->Aa.getD e.on false=true
 tail: ∀t,t∈tl->Aa.getD t true=false
theorem Pv.set {fl:List Nat} {i:Nat} {Aa:Array Bool} (inv:Pv ops tl fl Aa) (hi:i∈Region.ready .any ops Aa) (a5:i∉tl):Pv ops tl fl (Aa.setIfInBounds i true):=by
 obtain ⟨_,oi,hoi,Hc⟩:=mem_ready.1 hi
 refine ⟨by simp [inv.size],λk hk=>getD_set_true (inv.done k hk),λj oj hj hl e he hb=>?_,λt ht=>by
  have Er:i≠t:= λe=>a5 (by rw [e];exact ht)
  rw [getD_set_ne true Er];exact inv.tail t ht⟩
 by_cases dH:i=j
 ·subst dH
  have:oj=oi:=Option.some.inj (hj.symm.trans hoi)
  subst this
  exact getD_set_true (Hc e he hb)
 ·rw [getD_set_ne false dH] at hl
  exact getD_set_true (inv.closed j oj hj hl e he hb)
theorem jV: ∀(k:Nat) (r:List Nat),dW.chain ops k r=true-> ∀t,t∈r-> ∃k',(k'=k\/k'∈r)/\Region.waitsFor .any ops t k'=true
 |_,[],_,t,ht=>by cases ht
 |k,t0::r,h,t,ht=>by
  simp only [dW.chain,Bool.and_eq_true] at h
  rcases List.mem_cons.1 ht with rfl|ht
  ·exact ⟨k, .inl rfl,h.1⟩
  ·obtain ⟨k',h1,h2⟩:=jV t0 r h.2 t ht
   exact ⟨k', .inr (by rcases h1 with rfl|h1<;>simp [*]),h2⟩
theorem tH {fl:List Nat} {Aa:Array Bool} (hs:dW ops hd tl=true) (inv:Pv ops tl fl Aa) (Nx: ∀i,i∈hd->i<ops.size):
  ∀(d i:Nat),ops.size-i=d->i∈hd->Aa.getD i true=false-> ∀t,t∈tl->t∉Region.ready .any ops Aa:=by
 cases tl with
 |nil=>intro d i _ _ _ t ht;cases ht
 |cons f r=>
  simp only [dW,Bool.and_eq_true] at hs
  obtain ⟨jy,xg⟩:=hs
  intro d
  induction d using Nat.strongRecOn with
  |_ d ih=>
   intro i OG hi zw t ht hr
   obtain ⟨_,ot,ZR,Hc⟩:=mem_ready.1 hr
   rcases List.mem_cons.1 ht with rfl|eU
   ·have h1:=List.all_eq_true.1 jy i hi
    obtain ⟨j,hj,SY⟩:=List.any_eq_true.1 h1
    simp only [Bool.and_eq_true,decide_eq_true_eq] at SY
    obtain ⟨oj,HQ,e,he,hb,PC⟩:=Region.waitsFor_spec SY.2
    rcases List.mem_cons.1 hj with rfl|EM
    ·have:oj=ot:=Option.some.inj (HQ.symm.trans ZR)
     subst this
     have h2:=Hc e he hb
     rw [PC,getD_both zw] at h2
     cases h2
    ·cases hl:Aa.getD j false with
     |true=>
      have h2:=inv.closed j oj HQ hl e he hb
      rw [PC,getD_both zw] at h2
      cases h2
     |false=>
      have hjs:j<Aa.size:=by rw [inv.size];exact Nx j EM
      have:=Nx j EM
      exact ih (ops.size-j) (by omega) j rfl EM (getD_in hjs hl) t (by simp) hr
   ·obtain ⟨k',h1,h2⟩:=jV f r xg t eU
    obtain ⟨o',MW,e,he,hb,PC⟩:=Region.waitsFor_spec h2
    have:o'=ot:=Option.some.inj (MW.symm.trans ZR)
    subst this
    have h3:=Hc e he hb
    have hk:k'∈f::r:=by rcases h1 with rfl|h1<;>simp [*]
    rw [PC,getD_both (inv.tail k' hk)] at h3
    cases h3
def zz (T:Tab) (Γ:Env) (ops:Array Oper) (hd:List Nat) (L:Array Bool->St->Prop):Nat->Array Bool->St->Prop
 |0,Aa,st=>L Aa st
 |f+1,Aa,st=>
  Region.ready .any ops Aa≠ []/\ ∀i∈Region.ready .any ops Aa,i∈hd/\ ∃o v,ops[i]?=some o/\Zz T Γ ops st o=some v/\zz T Γ ops hd L f (Aa.setIfInBounds i true) (st.put o.dst v)
theorem qO (hT:Bt P T) (La:Gz P Γ) {Q:Exit->Act->World->Prop} {K:Act->World->Prop} {st:St} {a:Act} (h:Rel X st a w) {i:Nat} {o:Oper} {v:AV} (ho:ops[i]?=some o) (hv:Zz T Γ ops st o=some v)
  (hK: ∀a' w',Rel X (st.put o.dst v) a' w'->K a' w'):wpOp P ops Q i K a w:=by
 obtain ⟨π,h⟩:=h
 have run:Py T Γ st o=some v->o.wp P a w K Q:= λhe=>iZ (X:=X) (st':=st) (av:=v) (rG hT La h o v he) hK
 have skip:v= .at .skip->K (a.put o.dst undef) w:= λe=>by subst e;exact hK _ _ ⟨π,h.put o.dst tq⟩
 unfold wpOp
 simp only [ho]
 unfold Zz at hv
 split at hv
 ·rename_i hg
  rw [if_pos (by simp [Region.wanted,hg])]
  exact .inl (run hv)
 ·rename_i j want hg
  split at hv
  ·rename_i b hb
   have hy:=(Xf h j).1 b hb
   split at hv
   ·rename_i uM
    rw [if_pos (by simp only [Region.wanted,hg,hy];simpa using uM)]
    exact .inl (run hv)
   ·rename_i uM
    rw [if_neg (by simp only [Region.wanted,hg,hy];simpa using uM)]
    simp only [Option.some.injEq] at hv
    exact skip hv.symm
  ·rename_i hb
   have hy:=(Xf h j).2 hb
   rw [if_neg (by simp [Region.wanted,hg,hy])]
   simp only [Option.some.injEq] at hv
   exact skip hv.symm
  ·cases hv
theorem df (hT:Bt P T) (La:Gz P Γ) {g:Nat} {L:Array Bool->St->Prop} {Q:Exit->Act->World->Prop} (hL: ∀Aa st a w,L Aa st->Rel X st a w->wpAny P .any ops Q g Aa a w):
  ∀(f:Nat) (Aa:Array Bool) (st:St) (a:Act) (w:World),zz T Γ ops hd L f Aa st->Rel X st a w->wpAny P .any ops Q (f+g) Aa a w
 |0,Aa,st,a,w,h,hr=>by rw [Nat.zero_add];exact hL _ _ _ _ h hr
 |f+1,Aa,st,a,w,h,hr=>by
  rw [show f+1+g=(f+g)+1 by omega]
  refine ⟨λh0=>absurd h0 h.1,λi hi=>?_⟩
  obtain ⟨_,o,v,ho,hv,cG⟩:=h.2 i hi
  exact qO hT La hr ho hv λa' w' h'=>df hT La hL f _ _ _ _ cG h'
theorem ud {fl:List Nat} {i:Nat} {oi:Oper} {v:AV} {L:Array Bool->St->Prop} (hi:ops[i]?=some oi) (hs:dW ops hd tl=true) (Nx: ∀i,i∈hd->i<ops.size) (a5:i∈hd)
  (Hc: ∀j,j<ops.size->j∈fl\/j∈hd\/j∈tl) (rZ: ∀j,j∈hd->j∉tl) (OJ: ∀Aa st,L Aa st-> ∀j∈Region.ready .any ops Aa,j∈tl):
  ∀(f:Nat) (Aa:Array Bool) (st:St),Pv ops tl fl Aa->
   (∀j oj,ops[j]?=some oj->j≠i->Aa.getD j true=false->(∀e∈oj.after,Region.binds .any e=true->e.on≠i)->oi.apart ops oj=true)->
   i∈Region.ready .any ops Aa->Zz T Γ ops st oi=some v->
   zz T Γ ops hd L f (Aa.setIfInBounds i true) (st.put oi.dst v)->zz T Γ ops hd L (f+1) Aa st:=by
 intro f
 have QO: ∀Aa,Pv ops tl fl Aa->i∈Region.ready .any ops Aa-> ∀j,j∈Region.ready .any ops Aa->j∈hd:=by
  intro Aa inv hr j hj
  obtain ⟨zw,oj,HQ,_⟩:=mem_ready.1 hj
  rcases Hc j (Array.getElem?_eq_some_iff.1 HQ).1 with h|h|h
  ·have h1:=inv.done j h
   rw [getD_both zw] at h1;cases h1
  ·exact h
  ·exact absurd hj (tH hs inv Nx _ i rfl a5 (mem_ready.1 hr).1 j h)
 induction f with
 |zero=>
  intro Aa st inv _ hr hv Hh
  refine ⟨λh=>(by rw [h] at hr;cases hr),λj hj=>?_⟩
  have EM:=QO Aa inv hr j hj
  refine ⟨EM,?_⟩
  by_cases mg:j=i
  ·subst mg;exact ⟨oi,v,hi,hv,Hh⟩
  ·exact absurd (OJ _ _ Hh j (ready_mono hj mg)) (rZ j EM)
 |succ f ih=>
  intro Aa st inv eS hr hv Hh
  have zw:=(mem_ready.1 hr).1
  refine ⟨λh=>(by rw [h] at hr;cases hr),λj hj=>?_⟩
  have EM:=QO Aa inv hr j hj
  refine ⟨EM,?_⟩
  by_cases mg:j=i
  ·subst mg;exact ⟨oi,v,hi,hv,Hh⟩
  ·obtain ⟨_,oj,vj,HQ,ZY,cG⟩:=Hh.2 j (ready_mono hj mg)
   obtain ⟨OQ,QU,WW,OD⟩:=mem_ready.1 hj
   have:QU=oj:=Option.some.inj (WW.symm.trans HQ)
   subst this
   have kD: ∀e∈QU.after,Region.binds .any e=true->e.on≠i:= λe he hb heq=>by
    have h1:=OD e he hb
    rw [heq,getD_both zw] at h1
    cases h1
   obtain ⟨p1,p2,p3⟩:=Oper.apart_spec (eS j QU HQ mg OQ kD)
   rw [tN p1] at ZY
   refine ⟨QU,vj,HQ,ZY,?_⟩
   have JM: ∀k ok,ops[k]?=some ok->k≠i->(Aa.setIfInBounds j true).getD k true=false->
     (∀e∈ok.after,Region.binds .any e=true->e.on≠i)->oi.apart ops ok=true:= λk ok hk hki QA MV=>by
    refine eS k ok hk hki ?_ MV
    by_cases WD:j=k
    ·subst WD;exact OQ
    ·rw [getD_set_ne true WD] at QA;exact QA
   refine ih (Aa.setIfInBounds j true) (st.put QU.dst vj) (inv.set hj (rZ j EM)) JM (ready_mono hr (Ne.symm mg)) (by rw [tN p3];exact hv) ?_
   rw [Array.setIfInBounds_comm _ _ mg,<-St.put_comm st v vj p2]
   exact cG
theorem tn: ∀(l:List Nat) (Aa:Array Bool),fy ops l Aa=true-> ∀j∈Region.ready .any ops Aa,j∈l
 | [],Aa,h,j,hj=>by simp only [fy,List.isEmpty_iff] at h;rw [h] at hj;cases hj
 |k::r,Aa,h,j,hj=>by
  simp only [fy,Bool.and_eq_true,decide_eq_true_eq] at h
  rw [h.1] at hj
  simp at hj
  simp [hj]
theorem qV {fl:List Nat} (gl:Region.noSelect ops=true) (hs:dW ops hd tl=true) (Nx: ∀i,i∈hd->i<ops.size) (Hc: ∀j,j<ops.size->j∈fl\/j∈hd\/j∈tl) (rZ: ∀j,j∈hd->j∉tl) (st':St):
  ∀(l:List Nat) (Aa:Array Bool) (st:St),(∀i,i∈l->i∈hd)->Pv ops tl fl Aa->gk ops tl l Aa=true->Dk T Γ ops l st=some st'->
  zz T Γ ops hd (λpx s=>fy ops tl px=true/\s=st') l.length Aa st
 | [],Aa,st,_,_,hB,he=>by
  simp only [Dk,Option.some.injEq] at he
  exact ⟨by simpa [gk] using hB,he⟩
 |k::l,Aa,st,hl,inv,hB,he=>by
  simp only [gk,Bool.and_eq_true] at hB
  obtain ⟨⟨hr,hf⟩,hB'⟩:=hB
  have ZM:=hl k (by simp)
  have dJ:k∈Region.ready .any ops Aa:=by simpa using hr
  simp only [Dk] at he
  split at he
  ·cases he
  ·rename_i o ho
   split at he
   ·rename_i v hv
    exact ud ho hs Nx ZM Hc rZ (λpx s hL=>tn tl px hL.1) l.length Aa st inv (Region.free_spec ho hf) dJ hv
     (qV gl hs Nx Hc rZ st' l _ _ (λi hi=>hl i (by simp [hi])) (inv.set dJ (rZ k ZM)) hB' he)
   ·cases he
theorem dh {Q:Exit->Act->World->Prop} : ∀(l:List Nat) (Aa:Array Bool) (a:Act) (w:World),fy ops l Aa=true->wpOps P ops Q l a w->wpAny P .any ops Q l.length Aa a w
 | [],Aa,a,w,hB,h=>⟨by simpa [fy] using hB,h⟩
 |k::r,Aa,a,w,hB,h=>by
  simp only [fy,Bool.and_eq_true,decide_eq_true_eq] at hB
  refine ⟨λh1=>(by rw [hB.1] at h1;cases h1),λi hi=>?_⟩
  rw [hB.1] at hi
  have SX:i=k:=by simpa using hi
  subst SX
  rw [wpOps_cons] at h
  exact wpOp_mono (λa' w' h'=>dh r _ a' w' hB.2 h') h
theorem eM {P:Program} {o:Oper} {t:Tmp} {a:Act} (h:o.op= .move (.tmp t)) (hg:o.guard=none):Yields P ops o (a.tmps.getD t undef) a:=by
 refine .inl ⟨by simp [Region.wanted,hg],λw=>?_⟩
 unfold execOp
 rw [h]
 rfl
theorem pf {hd tl:List Nat} {i:Nat} (h:eV ops hd tl i=true): ∃o t,ops[i]?=some o/\o.op= .move (.tmp t)/\o.guard=none:=by
 unfold eV at h
 split at h
 ·rename_i o ho
  simp only [Bool.and_eq_true] at h
  have h1:=h.1
  split at h1
  ·rename_i t h2 h3
   exact ⟨o,t,ho,h2,h3⟩
  ·cases h1
 ·cases h
theorem Zu {q:Bool} {hd:List Nat} {Q:Exit->Act->World->Prop} (hQ: ∀c a w,¬Q (.panic c) a w) (gl:Region.noSelect ops=true) {n:Nat} {st1:St}
  (cG: ∀Aa st a w,(∀j oj,ops[j]?=some oj->Aa.getD j false=true-> ∀e∈oj.after,Region.binds .any e=true->Aa.getD e.on false=true)->Aa.size=ops.size->gk ops tl hd Aa=true->st=st1->Rel X st a w->
   (∀j,Aa.getD j false=true↔j∈Nd q Γ ops)->wpAny P .any ops Q n Aa a w):
  ∀(l dn:List Nat) (Aa:Array Bool) (st:St) (a:Act) (w:World),(∀j,j∈Nd q Γ ops↔j∈dn\/j∈l)->(∀i,i∈l-> ∃o t,ops[i]?=some o/\o.op= .move (.tmp t)/\o.guard=none)->
   (∀j oj,ops[j]?=some oj->Aa.getD j false=true-> ∀e∈oj.after,Region.binds .any e=true->Aa.getD e.on false=true)->Aa.size=ops.size->(∀j,Aa.getD j false=true↔j∈dn)->
   eL ops tl hd l Aa=true->Dk T Γ ops l st=some st1->Rel X st a w->wpAny P .any ops Q (l.length+n) Aa a w
 | [],dn,Aa,st,a,w,hm,_,hc,Nx,VN,hf,he,hr=>by
  simp only [Dk,Option.some.injEq] at he
  rw [List.length_nil,Nat.zero_add]
  exact cG Aa st a w hc Nx (by simpa [eL] using hf) he hr λj=>by rw [VN j,hm j];simp
 |k::l,dn,Aa,st,a,w,hm,hl,hc,Nx,VN,hf,he,hr=>by
  simp only [eL,Bool.and_eq_true] at hf
  obtain ⟨⟨h1,h2⟩,h3⟩:=hf
  obtain ⟨o,t,ho,nI,hg⟩:=hl k (by simp)
  have mn:k∈Region.ready .any ops Aa:=by simpa using h1
  obtain ⟨_,o',MW,Hc⟩:=mem_ready.1 mn
  have WV:o'=o:=Option.some.inj (MW.symm.trans ho)
  subst WV
  have hks:k<Aa.size:=by rw [Nx];exact (Array.getElem?_eq_some_iff.1 ho).1
  simp only [Dk,ho] at he
  have hv:Zz T Γ ops st o'=some (st.get t):=by simp only [Zz,hg,Py,Bz,nI];rfl
  rw [hv] at he
  rw [List.length_cons,show l.length+1+n=(l.length+n)+1 by omega]
  refine wpAny_take ho gl h2 h1 (λc a w hq=>absurd hq (hQ c _ w)) (eM nI hg) ?_
  obtain ⟨π,hr⟩:=hr
  refine Zu hQ gl cG l (k::dn) _ _ _ _ (λj=>by rw [hm j,List.mem_cons,List.mem_cons];exact ⟨λh=>h.elim (λh=> .inl (.inr h)) (λh=>h.elim (λh=> .inl (.inl h)) .inr),λh=>h.elim (λh=>h.elim (λh=> .inr (.inl h)) .inl) (λh=> .inr (.inr h))⟩) (λi hi=>hl i (by simp [hi])) ?_ (by simp [Nx]) (λj=>?_) h3 he ⟨π,hr.put o'.dst (hr.2.tmps t)⟩
  ·intro j oj hj OU e ZJ hb
   by_cases zr:k=j
   ·subst zr
    have:oj=o':=Option.some.inj (hj.symm.trans ho)
    subst this
    exact getD_set_true (Hc e ZJ hb)
   ·rw [getD_set_ne false zr] at OU
    exact getD_set_true (hc j oj hj OU e ZJ hb)
  ·by_cases zr:k=j
   ·subst zr
    refine ⟨λ_=>by simp,λ_=>?_⟩
    simp [hks]
   ·rw [getD_set_ne false zr,VN j]
    simp [Ne.symm zr]
theorem Zb {ops:Array Oper} : ∀(a b:List Nat) (st st':St),Dk T Γ ops (a++b) st=some st'-> ∃s,Dk T Γ ops a st=some s/\Dk T Γ ops b s=some st'
 | [],b,st,st',h=>⟨st,rfl,h⟩
 |i::a,b,st,st',h=>by
  simp only [List.cons_append,Dk] at h⊢
  split at h
  ·cases h
  ·split at h
   ·exact Zb a b _ st' h
   ·cases h
theorem fX (hT:Bt P T) (La:Gz P Γ) (hm:P.follows .mixedOrders=true) {Q:Exit->Act->World->Prop} {id:Nat} {draw:Bool} {st st':St} {a:Act} (h:Rel X st a w)
  (he:Kh T Γ ops draw st=some st') (hQ: ∀a' w',Rel X st' a' w'->Q .normal a' w'):(Code.region id ops draw).wp P Q a w:=by
 unfold Kh at he
 cases draw with
 |false=>
  rw [if_neg (by simp)] at he
  exact wp_region_list (cv hT La ops.toList st st' a w h he hQ)
 |true=>
  rw [if_pos rfl] at he
  have go: ∀(q:Bool),c6 q Γ ops=true->(match Dk T Γ ops (bU q Γ ops) st with
    |some st'=>Ic T Γ ops (Em q Γ ops) st'
    |none=>none)=some st'->(Code.region id ops true).wp P Q a w:=by
   intro q jb he
   split at he
   ·rename_i st1 h1
    simp only [c6,Bool.and_eq_true,beq_iff_eq] at jb
    obtain ⟨⟨⟨gl,hlen⟩,JK⟩,PW⟩:=jb
    refine wp_mono (Q:= λe a w=>e= .normal/\Q .normal a w) ?_ λe a w h=>h.1▸h.2
    refine wp_region_any hm ?_
    have AH:Rel X st a {w with drawn:=w.drawn+1} :=by
     obtain ⟨π,h⟩:=h
     exact ⟨π,h.quiet ⟨rfl,rfl,rfl,Nat.le_refl _,λ_ _=>rfl⟩⟩
    obtain ⟨s0,h0,h1⟩:=Zb _ _ _ _ h1
    have a5: ∀i,i∈Ub q Γ ops->i<ops.size:= λi hi=>List.mem_range.1 (List.mem_filter.1 hi).1
    have Nx: ∀i,i∈Nh q Γ ops->i<ops.size:= λi hi=>a5 i (List.mem_filter.1 hi).1
    have Hc: ∀j,j<ops.size->j∈Nd q Γ ops\/j∈Nh q Γ ops\/j∈Em q Γ ops:= λj hj=>by
     by_cases ht:j∈Em q Γ ops
     ·exact .inr (.inr ht)
     ·have hh:j∈Ub q Γ ops:=List.mem_filter.2 ⟨List.mem_range.2 hj,by simpa using ht⟩
      cases DI:eV ops (Ub q Γ ops) (Em q Γ ops) j with
      |true=>exact .inl (List.mem_filter.2 ⟨hh,DI⟩)
      |false=>exact .inr (.inl (List.mem_filter.2 ⟨hh,by rw [DI];rfl⟩))
    have HE: ∀j,j∈Ub q Γ ops->j∉Em q Γ ops:= λj hj=>by
     have:=(List.mem_filter.1 hj).2
     simpa using this
    have rZ: ∀j,j∈Nh q Γ ops->j∉Em q Γ ops:= λj hj=>HE j (List.mem_filter.1 hj).1
    have OI: ∀j,j∈Nd q Γ ops->j∉Em q Γ ops:= λj hj=>HE j (List.mem_filter.1 hj).1
    have htl: ∀t,t∈Em q Γ ops->t<ops.size:=by
     intro t ht
     unfold Em at ht
     have: ∀(l:List Nat) (acc:List Nat),(∀i,i∈acc->i<ops.size)->(∀i,i∈l->i<ops.size)-> ∀i,i∈l.foldl (init:=acc) (λacc i=>match ops[i]? with
       |some o=>if BF q Γ o||o.after.any (λe=>Region.binds .any e&&acc.contains e.on) then acc++ [i] else acc
       |none=>acc)->i<ops.size:=by
      intro l
      induction l with
      |nil=>intro acc h1 _ i hi;exact h1 i hi
      |cons x l ih=>
       intro acc h1 h2 i hi
       simp only [List.foldl_cons] at hi
       refine ih _ ?_ (λi hi=>h2 i (by simp [hi])) i hi
       intro k hk
       split at hk
       ·split at hk
        ·rcases List.mem_append.1 hk with hk|hk
         ·exact h1 k hk
         ·simp at hk;rw [hk];exact h2 x (by simp)
        ·exact h1 k hk
       ·exact h1 k hk
     exact this (List.range ops.size) [] (by simp) (λi hi=>List.mem_range.1 hi) t ht
    rw [<-hlen]
    refine Zu (q:=q) (X:=X) (T:=T) (Γ:=Γ) (tl:=Em q Γ ops) (hd:=Nh q Γ ops) (st1:=s0) (λc a w hq=>by cases hq.1) gl ?_ (Nd q Γ ops) [] _ st a _ (λj=>by simp)
     (λi hi=>pf (List.mem_filter.1 hi).2) (λj oj _ hl=>(by rw [hlen,getD_replicate_false] at hl;cases hl)) (by simp [hlen]) (λj=>by rw [hlen,getD_replicate_false];simp) (by rw [hlen];exact JK) h0 AH
    intro Aa s a' w' hc nH OP hs hr DI
    subst hs
    have XZ:Pv ops (Em q Γ ops) (Nd q Γ ops) Aa:=
     ⟨nH,λi hi=>(DI i).2 hi,hc,λt ht=>getD_in (by rw [nH];exact htl t ht) (by
      cases hg:Aa.getD t false with
      |false=>rfl
      |true=>exact absurd ht (OI t ((DI t).1 hg)))⟩
    have HA:=qV (T:=T) (Γ:=Γ) gl PW Nx Hc rZ st1 (Nh q Γ ops) _ s (λi hi=>hi) XZ OP h1
    exact df (X:=X) (P:=P) (Q:= λe a w=>e= .normal/\Q .normal a w) (g:=(Em q Γ ops).length) hT La (λAa s a' w' hL hr=>by
     obtain ⟨XI,rfl⟩:=hL
     exact dh (Em q Γ ops) Aa a' w' XI (cp hT La _ _ st' a' w' hr he λa w h=>⟨rfl,hQ a w h⟩)) _ _ _ _ _ HA hr
   ·cases he
  split at he
  ·rename_i jb;exact go false jb he
  ·split at he
   ·rename_i jb;exact go true jb he
   ·cases he
theorem Vc (q:Bool): ∀(l:List Nat) (Aa:Array Bool),(Ek q ops l Aa).length<=l.length
 | [],_=>Nat.le_refl _
 |i::r,Aa=>by
  simp only [Ek]
  split
  ·simp only [List.length_cons];have:=Vc q r (Aa.setIfInBounds i true);omega
  ·simp only [List.length_cons];have:=Vc q r Aa;omega
theorem tb (hT:Bt P T) {st:St} {a:Act} (h:Ae X π st a w) {i:Nat} {o:Oper} (ho:ops[i]?=some o) (hp:bZ ops i=true) {v:AV} (hv:Zz T Γ ops st o=some v):
  ∃u,Yields P ops o u a/\Ak X w π st.heap v u:=by
 unfold bZ at hp
 rw [ho] at hp
 simp only at hp
 obtain ⟨dst,op,ty,pos,af,gd⟩:=o
 split at hp
 ·rename_i t h3 h4
  simp only at h3 h4;subst h3;subst h4
  refine ⟨a.tmps.getD t undef,eM rfl rfl,?_⟩
  simp only [Zz,Py,Bz,Option.some.injEq] at hv
  subst hv
  exact h.2.tmps t
 ·rename_i x h3 h4
  simp only at h3 h4;subst h3;subst h4
  have e:=Bh h.2 x
  have fin:(∃ad,a.eval x= .pointer (some ad))->Yields P ops ⟨dst, .nilCheck x,ty,pos,af,none⟩ (a.eval x) a:= λ⟨ad,hx⟩=>
   .inl ⟨by simp [Region.wanted],λw=>by simp [execOp,hx]⟩
  simp only [Zz,Py,Bz] at hv
  split at hv
  ·rename_i fr τ y hx
   simp only [Option.some.injEq] at hv;subst hv
   rw [hx] at e
   have e':=e
   obtain ⟨cs,hc,hv⟩:=e
   simp only [Cells] at hc
   obtain ⟨g,o,rfl,_⟩:=hc
   simp only [Am,Ty.Ab,Bool.false_eq_true,if_false,List.headD_cons] at hv
   exact ⟨_,fin ⟨_,hv⟩,e'⟩
  ·rename_i fr τ y hx
   simp only [Option.some.injEq] at hv;subst hv
   rw [hx] at e
   obtain ⟨cs,hc,hv⟩:=e
   simp only [Cells] at hc
   rcases hc with ⟨h0,_⟩|⟨y',g,o,h0,rfl,hr⟩
   ·cases h0
   simp only [Option.some.injEq] at h0;subst h0
   simp only [Am,Ty.Ab,Bool.false_eq_true,if_false,List.headD_cons] at hv
   exact ⟨_,fin ⟨_,hv⟩,[_],⟨g,o,rfl,hr⟩,by rw [hv];simp [Am,Ty.Ab]⟩
  ·rename_i l i hx
   simp only [Option.some.injEq] at hv;subst hv
   rw [hx] at e
   have e':=e
   obtain ⟨r,tid,vs,_,_,hv⟩:=e
   exact ⟨_,fin ⟨_,hv⟩,e'⟩
  ·rename_i l i hx
   simp only [Option.some.injEq] at hv;subst hv
   rw [hx] at e
   have e':=e
   obtain ⟨r,b,sz,n,_,_,_,_,hv⟩:=e
   exact ⟨_,fin ⟨_,hv⟩,e'⟩
  ·cases hv
 ·rename_i s x f h3 h4
  simp only at h3 h4;subst h3;subst h4
  simp only [Zz,Py,Bz] at hv
  obtain ⟨u,h1,h2⟩:=Tv hT (st:=st) _ _ _ _ v (Bh h.2 x) hv
  refine ⟨u, .inl ⟨by simp [Region.wanted],λw=>?_⟩,h2⟩
  have:=h1 w
  simp only [execOp,Sem.run_bind]
  first
   |(rw [this];rfl)
   |simp [this]
 ·cases hp
theorem pS {i:Nat} (h:ph ops i=true):bZ ops i=true:=by
 unfold ph at h
 unfold bZ
 split at h
 ·rename_i o ho
  split at h
  ·rename_i h1 h2
   simp only [h1,h2]
  ·cases h
 ·cases h
theorem Tp (hT:Bt P T) (q:Bool) {Q:Exit->Act->World->Prop} (hQ: ∀c a w,¬Q (.panic c) a w) (gl:Region.noSelect ops=true) {n:Nat} {st1:St} :
  ∀(l:List Nat) (Aa:Array Bool) (st:St) (a:Act) (w:World),Dk T Γ ops (Ek q ops l Aa) st=some st1->Rel X st a w->
   (∀a w,Rel X st1 a w->wpAny P .any ops Q n (Dr (Ek q ops l Aa) Aa) a w)->wpAny P .any ops Q ((Ek q ops l Aa).length+n) Aa a w
 | [],Aa,st,a,w,he,hr,hK=>by
  simp only [Ek,Dk,Option.some.injEq] at he
  subst he
  simp only [Ek,List.length_nil,Nat.zero_add]
  exact hK a w hr
 |k::l,Aa,st,a,w,he,hr,hK=>by
  simp only [Ek] at he hK⊢
  split
  ·rename_i hc
   rw [if_pos hc] at he hK
   simp only [Bool.and_eq_true] at hc
   obtain ⟨h0,h1,h2⟩:=hc
   have hp:bZ ops k=true:=by
    cases q with
    |true=>exact h0
    |false=>exact pS h0
   simp only [Dk] at he
   split at he
   ·cases he
   rename_i o ho
   split at he
   rotate_left
   ·cases he
   rename_i v hv
   obtain ⟨π,hr⟩:=hr
   obtain ⟨u,hy,hu⟩:=tb (Γ:=Γ) hT hr ho hp hv
   rw [List.length_cons,show (Ek q ops l (Aa.setIfInBounds k true)).length+1+n=((Ek q ops l (Aa.setIfInBounds k true)).length+n)+1 by omega]
   refine wpAny_take ho gl h2 h1 (λc a w hq=>absurd hq (hQ c _ w)) hy ?_
   exact Tp hT q hQ gl l _ _ _ _ he ⟨π,hr.put o.dst hu⟩ hK
  ·rename_i hc
   rw [if_neg hc] at he hK
   exact Tp hT q hQ gl l Aa st a w he hr hK
theorem dg (hT:Bt P T) (La:Gz P Γ) {Q:Exit->Act->World->Prop} {K:St->Prop} (hK: ∀st a w,K st->Rel X st a w->Q .normal a w):
  ∀(f:Nat) (Aa:Array Bool) (st:St) (a:Act) (w:World),anyS T Γ ops K f Aa st->Rel X st a w->wpAny P .any ops Q f Aa a w
 |0,Aa,st,a,w,h,hr=>⟨h.1,hK _ _ _ h.2 hr⟩
 |f+1,Aa,st,a,w,h,hr=>by
  refine ⟨λh0=>absurd h0 h.1,λi hi=>?_⟩
  obtain ⟨o,st',ho,he,cG⟩:=h.2 i hi
  obtain ⟨π,hr⟩:=hr
  unfold wpOp
  simp only [ho]
  exact Sv hT La hr o he λa' w' h'=>dg hT La hK f _ _ _ _ cG h'
theorem vV (hT:Bt P T) (La:Gz P Γ) (hm:P.follows .mixedOrders=true) {Q:Exit->Act->World->Prop} {id:Nat} {draw:Bool} {st:St} {K:St->Prop} {a:Act} (h:Rel X st a w)
  (he:oC T Γ ops draw st K) (hQ: ∀st' a' w',K st'->Rel X st' a' w'->Q .normal a' w'):(Code.region id ops draw).wp P Q a w:=by
 rcases he with ⟨st',h1,h2⟩|⟨rfl,gl,Zq,h1,h2⟩
 ·exact fX hT La hm h h1 λa' w' h'=>hQ st' a' w' h2 h'
 ·refine wp_mono (Q:= λe a w=>e= .normal/\Q .normal a w) ?_ λe a w h=>h.1▸h.2
  refine wp_region_any hm ?_
  have AH:Rel X st a {w with drawn:=w.drawn+1} :=by
   obtain ⟨π,h⟩:=h
   exact ⟨π,h.quiet ⟨rfl,rfl,rfl,Nat.le_refl _,λ_ _=>rfl⟩⟩
  have hlen:(Iz ops).length<=ops.size:=by
   have:=Vc (ops:=ops) (!bR false ops) (List.range ops.size) (Array.replicate ops.size false)
   rw [List.length_range] at this
   exact this
  have:=Tp hT (!bR false ops) (X:=X) (P:=P) (T:=T) (Γ:=Γ) (Q:= λe a w=>e= .normal/\Q .normal a w) (n:=ops.size-(Iz ops).length) (st1:=Zq) (λc a w hq=>by cases hq.1) gl (List.range ops.size) (Array.replicate ops.size false) st a _ h1 AH λa' w' h'=>
   dg hT La (λst' a' w' hk hr=>⟨rfl,hQ st' a' w' hk hr⟩) _ _ _ _ _ h2 h'
  have e:(Ek (!bR false ops) ops (List.range ops.size) (Array.replicate ops.size false)).length+(ops.size-(Iz ops).length)=ops.size:=by
   have e2:(Ek (!bR false ops) ops (List.range ops.size) (Array.replicate ops.size false)).length=(Iz ops).length:=rfl
   omega
  rw [e] at this
  exact this
end
end Go.Proofs.Ytjbdmibbbpdnnaa
