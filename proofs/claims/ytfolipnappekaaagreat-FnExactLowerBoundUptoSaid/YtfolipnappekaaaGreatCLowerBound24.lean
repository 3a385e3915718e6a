/-
  Part 25 of the proof that the statement FnExactLowerBound holds.
-/
import Derived.Test.YtfolipnappekaaaGreatCLowerBound23
namespace Go.Proofs.YtfolipnappekaaaGreat
open Go.RowKit
section
variable {P:Program} {T:Tab} {Γ:Env} {X:Ctx} {w w':World} {π:Pi} {ops:Array Oper} {hd tl:List Nat}
structure Rp (ops:Array Oper) (tl fl:List Nat) (Ac:Array Bool):Prop where
 size:Ac.size=ops.size
 done: ∀i,i∈fl->Ac.getD i false=true
 closed: ∀j oj,ops[j]?=some oj->Ac.getD j false=true-> ∀e∈oj.after,Region.binds .any e=true->Ac.getD e.on false=true
 tail: ∀t,t∈tl->Ac.getD t true=false
theorem Rp.set {fl:List Nat} {i:Nat} {Ac:Array Bool} (inv:Rp ops tl fl Ac) (hi:i∈Region.ready .any ops Ac) (ck:i∉tl):Rp ops tl fl (Ac.setIfInBounds i true):=by
 obtain ⟨_,oi,hoi,Gw⟩:=mem_ready.1 hi
 refine ⟨by simp [inv.size],λk hk=>getD_set_true (inv.done k hk),λj oj hj hl e he hb=>?_,λt ht=>by
  have Ex:i≠t:= λe=>ck (by rw [e];exact ht)
  rw [getD_set_ne true Ex];exact inv.tail t ht⟩
 by_cases jy:i=j
 ·subst jy
  have:oj=oi:=Option.some.inj (hj.symm.trans hoi)
  subst this
  exact getD_set_true (Gw e he hb)
 ·rw [getD_set_ne false jy] at hl
  exact getD_set_true (inv.closed j oj hj hl e he hb)
theorem yV (k:Nat) (r:List Nat) (h:(r.all λt=>(k::r).any λk=>Region.waitsFor .any ops t k)=true): ∀t,t∈r-> ∃k',(k'=k\/k'∈r)/\Region.waitsFor .any ops t k'=true:= λt ht=>by
 obtain ⟨k',h1,h2⟩:=List.any_eq_true.1 (List.all_eq_true.1 h t ht)
 exact ⟨k',List.mem_cons.1 h1,h2⟩
theorem xY {fl:List Nat} {Ac:Array Bool} (hs:oo ops hd tl=true) (inv:Rp ops tl fl Ac) (Wm: ∀i,i∈hd->i<ops.size):
  ∀(d i:Nat),ops.size-i=d->i∈hd->Ac.getD i true=false-> ∀t,t∈tl->t∉Region.ready .any ops Ac:=by
 cases tl with
 |nil=>intro d i _ _ _ t ht;cases ht
 |cons f r=>
  simp only [oo,Bool.and_eq_true] at hs
  obtain ⟨gy,pn⟩:=hs
  intro d
  induction d using Nat.strongRecOn with
  |_ d ih=>
   intro i hd' hi IP t ht hr
   obtain ⟨_,ot,hot,Gw⟩:=mem_ready.1 hr
   rcases List.mem_cons.1 ht with rfl|ic
   ·have h1:=List.all_eq_true.1 gy i hi
    obtain ⟨j,hj,hj2⟩:=List.any_eq_true.1 h1
    simp only [Bool.and_eq_true,decide_eq_true_eq] at hj2
    obtain ⟨oj,TC,e,he,hb,hon⟩:=Region.waitsFor_spec hj2.2
    rcases List.mem_cons.1 hj with rfl|PZ
    ·have:oj=ot:=Option.some.inj (TC.symm.trans hot)
     subst this
     have h2:=Gw e he hb
     rw [hon,getD_both IP] at h2
     cases h2
    ·cases hl:Ac.getD j false with
     |true=>
      have h2:=inv.closed j oj TC hl e he hb
      rw [hon,getD_both IP] at h2
      cases h2
     |false=>
      have hjs:j<Ac.size:=by rw [inv.size];exact Wm j PZ
      have:=Wm j PZ
      exact ih (ops.size-j) (by omega) j rfl PZ (getD_in hjs hl) t (by simp) hr
   ·obtain ⟨k',h1,h2⟩:=yV f r pn t ic
    obtain ⟨o',ZH,e,he,hb,hon⟩:=Region.waitsFor_spec h2
    have:o'=ot:=Option.some.inj (ZH.symm.trans hot)
    subst this
    have h3:=Gw e he hb
    have hk:k'∈f::r:=by rcases h1 with rfl|h1<;>simp [*]
    rw [hon,getD_both (inv.tail k' hk)] at h3
    cases h3
def IT (T:Tab) (Γ:Env) (ops:Array Oper) (hd:List Nat) (L:Array Bool->St->Prop):Nat->Array Bool->St->Prop
 |0,Ac,st=>L Ac st
 |f+1,Ac,st=>
  Region.ready .any ops Ac≠ []/\ ∀i∈Region.ready .any ops Ac,i∈hd/\ ∃o v,ops[i]?=some o/\bD T Γ ops st o=some v/\IT T Γ ops hd L f (Ac.setIfInBounds i true) (st.put o.dst v)
theorem v7 (hT:Bz P T) (Mf:Ia P Γ) {Q:Exit->Act->World->Prop} {K:Act->World->Prop} {st:St} {a:Act} (h:Rel X st a w) {i:Nat} {o:Oper} {v:AV} (ho:ops[i]?=some o) (hv:bD T Γ ops st o=some v)
  (hK: ∀a' w',Rel X (st.put o.dst v) a' w'->K a' w'):wpOp P ops Q i K a w:=by
 obtain ⟨π,h⟩:=h
 have run:Rr T Γ st o=some v->o.wp P a w K Q:= λhe=>lj (X:=X) (st':=st) (av:=v) (w5 hT Mf h o v he) hK
 have skip:v= .at .skip->K (a.put o.dst undef) w:= λe=>by subst e;exact hK _ _ ⟨π,h.put o.dst xL⟩
 unfold wpOp
 simp only [ho]
 unfold bD at hv
 split at hv
 ·rename_i hg
  rw [if_pos (by simp [Region.wanted,hg])]
  exact .inl (run hv)
 ·rename_i j want hg
  split at hv
  ·rename_i b hb
   have hy:=(Zs h j).1 b hb
   split at hv
   ·rename_i JU
    rw [if_pos (by simp only [Region.wanted,hg,hy];simpa using JU)]
    exact .inl (run hv)
   ·rename_i JU
    rw [if_neg (by simp only [Region.wanted,hg,hy];simpa using JU)]
    simp only [Option.some.injEq] at hv
    exact skip hv.symm
  ·rename_i hb
   have hy:=(Zs h j).2 hb
   rw [if_neg (by simp [Region.wanted,hg,hy])]
   simp only [Option.some.injEq] at hv
   exact skip hv.symm
  ·cases hv
theorem fg (hT:Bz P T) (Mf:Ia P Γ) {g:Nat} {L:Array Bool->St->Prop} {Q:Exit->Act->World->Prop} (hL: ∀Ac st a w,L Ac st->Rel X st a w->wpAny P .any ops Q g Ac a w):
  ∀(f:Nat) (Ac:Array Bool) (st:St) (a:Act) (w:World),IT T Γ ops hd L f Ac st->Rel X st a w->wpAny P .any ops Q (f+g) Ac a w
 |0,Ac,st,a,w,h,hr=>by rw [Nat.zero_add];exact hL _ _ _ _ h hr
 |f+1,Ac,st,a,w,h,hr=>by
  rw [show f+1+g=(f+g)+1 by omega]
  refine ⟨λh0=>absurd h0 h.1,λi hi=>?_⟩
  obtain ⟨_,o,v,ho,hv,eI⟩:=h.2 i hi
  exact v7 hT Mf hr ho hv λa' w' h'=>fg hT Mf hL f _ _ _ _ eI h'
theorem yE {fl:List Nat} {i:Nat} {oi:Oper} {v:AV} {L:Array Bool->St->Prop} (hi:ops[i]?=some oi) (hs:oo ops hd tl=true) (Wm: ∀i,i∈hd->i<ops.size) (ck:i∈hd)
  (Gw: ∀j,j<ops.size->j∈fl\/j∈hd\/j∈tl) (wz: ∀j,j∈hd->j∉tl) (Aa9: ∀Ac st,L Ac st-> ∀j∈Region.ready .any ops Ac,j∈tl):
  ∀(f:Nat) (Ac:Array Bool) (st:St),Rp ops tl fl Ac->
   (∀j oj,ops[j]?=some oj->j≠i->Ac.getD j true=false->(∀e∈oj.after,Region.binds .any e=true->e.on≠i)->oi.apart ops oj=true)->
   i∈Region.ready .any ops Ac->bD T Γ ops st oi=some v->
   IT T Γ ops hd L f (Ac.setIfInBounds i true) (st.put oi.dst v)->IT T Γ ops hd L (f+1) Ac st:=by
 intro f
 have Abn: ∀Ac,Rp ops tl fl Ac->i∈Region.ready .any ops Ac-> ∀j,j∈Region.ready .any ops Ac->j∈hd:=by
  intro Ac inv hr j hj
  obtain ⟨IP,oj,TC,_⟩:=mem_ready.1 hj
  rcases Gw j (Array.getElem?_eq_some_iff.1 TC).1 with h|h|h
  ·have h1:=inv.done j h
   rw [getD_both IP] at h1;cases h1
  ·exact h
  ·exact absurd hj (xY hs inv Wm _ i rfl ck (mem_ready.1 hr).1 j h)
 induction f with
 |zero=>
  intro Ac st inv _ hr hv Hh
  refine ⟨λh=>(by rw [h] at hr;cases hr),λj hj=>?_⟩
  have PZ:=Abn Ac inv hr j hj
  refine ⟨PZ,?_⟩
  by_cases pE:j=i
  ·subst pE;exact ⟨oi,v,hi,hv,Hh⟩
  ·exact absurd (Aa9 _ _ Hh j (ready_mono hj pE)) (wz j PZ)
 |succ f ih=>
  intro Ac st inv hZ hr hv Hh
  have IP:=(mem_ready.1 hr).1
  refine ⟨λh=>(by rw [h] at hr;cases hr),λj hj=>?_⟩
  have PZ:=Abn Ac inv hr j hj
  refine ⟨PZ,?_⟩
  by_cases pE:j=i
  ·subst pE;exact ⟨oi,v,hi,hv,Hh⟩
  ·obtain ⟨_,oj,vj,TC,hvj,eI⟩:=Hh.2 j (ready_mono hj pE)
   obtain ⟨Aai,oj',Ag6,Aa2⟩:=mem_ready.1 hj
   have:oj'=oj:=Option.some.inj (Ag6.symm.trans TC)
   subst this
   have np: ∀e∈oj'.after,Region.binds .any e=true->e.on≠i:= λe he hb heq=>by
    have h1:=Aa2 e he hb
    rw [heq,getD_both IP] at h1
    cases h1
   obtain ⟨p1,p2,p3⟩:=Oper.apart_spec (hZ j oj' TC pE Aai np)
   rw [yc p1] at hvj
   refine ⟨oj',vj,TC,hvj,?_⟩
   have VF: ∀k ok,ops[k]?=some ok->k≠i->(Ac.setIfInBounds j true).getD k true=false->
     (∀e∈ok.after,Region.binds .any e=true->e.on≠i)->oi.apart ops ok=true:= λk ok hk hki Abc TB=>by
    refine hZ k ok hk hki ?_ TB
    by_cases hjk:j=k
    ·subst hjk;exact Aai
    ·rw [getD_set_ne true hjk] at Abc;exact Abc
   refine ih (Ac.setIfInBounds j true) (st.put oj'.dst vj) (inv.set hj (wz j PZ)) VF (ready_mono hr (Ne.symm pE)) (by rw [yc p3];exact hv) ?_
   rw [Array.setIfInBounds_comm _ _ pE,<-St.put_comm st v vj p2]
   exact eI
theorem l7: ∀(l:List Nat) (Ac:Array Bool),iJ ops l Ac=true-> ∀j∈Region.ready .any ops Ac,j∈l
 | [],Ac,h,j,hj=>by simp only [iJ,List.isEmpty_iff] at h;rw [h] at hj;cases hj
 |k::r,Ac,h,j,hj=>by
  simp only [iJ,Bool.and_eq_true,Bool.or_eq_true,decide_eq_true_eq] at h
  rcases h.1 with h1|h1
  ·rw [h1] at hj
   simp at hj
   simp [hj]
  ·by_cases e:j=k
   ·simp [e]
   ·exact List.mem_cons_of_mem _ (l7 r _ h.2 j (ready_mono hj e))
theorem vr {fl:List Nat} (bA:Region.noSelect ops=true) (hs:oo ops hd tl=true) (Wm: ∀i,i∈hd->i<ops.size) (Gw: ∀j,j<ops.size->j∈fl\/j∈hd\/j∈tl) (wz: ∀j,j∈hd->j∉tl) (st':St):
  ∀(l:List Nat) (Ac:Array Bool) (st:St),(∀i,i∈l->i∈hd)->Rp ops tl fl Ac->jx ops tl l Ac=true->Dx T Γ ops l st=some st'->
  IT T Γ ops hd (λtE s=>iJ ops tl tE=true/\s=st') l.length Ac st
 | [],Ac,st,_,_,hB,he=>by
  simp only [Dx,Option.some.injEq] at he
  exact ⟨by simpa [jx] using hB,he⟩
 |k::l,Ac,st,hl,inv,hB,he=>by
  simp only [jx,Bool.and_eq_true] at hB
  obtain ⟨⟨hr,hf⟩,hB'⟩:=hB
  have hkh:=hl k (by simp)
  have Zj:k∈Region.ready .any ops Ac:=by simpa using hr
  simp only [Dx] at he
  split at he
  ·cases he
  ·rename_i o ho
   split at he
   ·rename_i v hv
    exact yE ho hs Wm hkh Gw wz (λtE s hL=>l7 tl tE hL.1) l.length Ac st inv (Region.free_spec ho hf) Zj hv
     (vr bA hs Wm Gw wz st' l _ _ (λi hi=>hl i (by simp [hi])) (inv.set Zj (wz k hkh)) hB' he)
   ·cases he
theorem sR {Q:Exit->Act->World->Prop} (hQ: ∀e a w,Q e a w->e= .normal) {k i:Nat} {x:Operand} {o:Oper} (ho:ops[k]?=some o) (m8:o.op= .extract x i) (hg:o.guard=none) {K:Act->World->Prop} {a:Act} {w:World}
  (h:wpOp P ops Q k K a w): ∃v,Yields P ops o v a/\K (a.put o.dst v) w:=by
 unfold wpOp at h
 simp only [ho] at h
 have hw:Region.wanted o (yielded ops a.tmps)=true:=by simp [Region.wanted,hg]
 rw [if_pos hw] at h
 rcases h with h|⟨_,a',w',h⟩
 ·unfold Oper.wp at h
  have hr: ∀w,(execOp a.eval o).run P w=(do pure (Next.value (<-Instr.extract (a.eval x) i))).run P w:= λw=>by unfold execOp;rw [m8]
  rw [hr] at h
  unfold Instr.extract at h hr
  split at h
  ·rename_i vs hx
   split at h
   ·rename_i v hv
    rw [hx] at hr
    simp only [hv] at hr
    exact ⟨v, .inl ⟨hw,λw=>(hr w).trans rfl⟩,h⟩
   ·exact h.elim
  ·exact h.elim
 ·cases hQ _ _ _ h
theorem Xv {Q:Exit->Act->World->Prop} (hQ: ∀e a w,Q e a w->e= .normal) (bA:Region.noSelect ops=true): ∀(l:List Nat) (Ac:Array Bool) (a:Act) (w:World),iJ ops l Ac=true->wpOps P ops Q l a w->wpAny P .any ops Q l.length Ac a w
 | [],Ac,a,w,hB,h=>⟨by simpa [iJ] using hB,h⟩
 |k::r,Ac,a,w,hB,h=>by
  simp only [iJ,Bool.and_eq_true,Bool.or_eq_true,decide_eq_true_eq] at hB
  rw [wpOps_cons] at h
  rcases hB.1 with h0|⟨h1,h2,h3⟩
  ·refine ⟨λh1=>(by rw [h0] at h1;cases h1),λi hi=>?_⟩
   rw [h0] at hi
   have hik:i=k:=by simpa using hi
   subst hik
   exact wpOp_mono (λa' w' h'=>Xv hQ bA r _ a' w' hB.2 h') h
  ·unfold KZ at h1
   split at h1
   ·rename_i o ho
    split at h1
    ·rename_i x i m8 hg
     obtain ⟨v,hy,hk⟩:=sR hQ ho m8 hg h
     exact wpAny_take ho bA h3 h2 (λc a w hq=>by cases hQ _ _ _ hq) hy (Xv hQ bA r _ _ w hB.2 hk)
    ·cases h1
   ·cases h1
theorem gY {P:Program} {o:Oper} {t:Tmp} {a:Act} (h:o.op= .move (.tmp t)) (hg:o.guard=none):Yields P ops o (a.tmps.getD t undef) a:=by
 refine .inl ⟨by simp [Region.wanted,hg],λw=>?_⟩
 unfold execOp
 rw [h]
 rfl
theorem tq {hd tl:List Nat} {i:Nat} (h:ig ops hd tl i=true): ∃o t,ops[i]?=some o/\o.op= .move (.tmp t)/\o.guard=none:=by
 unfold ig at h
 split at h
 ·rename_i o ho
  simp only [Bool.and_eq_true] at h
  have h1:=h.1
  split at h1
  ·rename_i t h2 h3
   exact ⟨o,t,ho,h2,h3⟩
  ·cases h1
 ·cases h
theorem bu {q:Bool} {hd:List Nat} {Q:Exit->Act->World->Prop} (hQ: ∀c a w,¬Q (.panic c) a w) (bA:Region.noSelect ops=true) {n:Nat} {st1:St}
  (eI: ∀Ac st a w,(∀j oj,ops[j]?=some oj->Ac.getD j false=true-> ∀e∈oj.after,Region.binds .any e=true->Ac.getD e.on false=true)->Ac.size=ops.size->jx ops tl hd Ac=true->st=st1->Rel X st a w->
   (∀j,Ac.getD j false=true↔j∈Ou q Γ ops)->wpAny P .any ops Q n Ac a w):
  ∀(l dn:List Nat) (Ac:Array Bool) (st:St) (a:Act) (w:World),(∀j,j∈Ou q Γ ops↔j∈dn\/j∈l)->(∀i,i∈l-> ∃o t,ops[i]?=some o/\o.op= .move (.tmp t)/\o.guard=none)->
   (∀j oj,ops[j]?=some oj->Ac.getD j false=true-> ∀e∈oj.after,Region.binds .any e=true->Ac.getD e.on false=true)->Ac.size=ops.size->(∀j,Ac.getD j false=true↔j∈dn)->
   gX ops tl hd l Ac=true->Dx T Γ ops l st=some st1->Rel X st a w->wpAny P .any ops Q (l.length+n) Ac a w
 | [],dn,Ac,st,a,w,hm,_,hc,Wm,hdn,hf,he,hr=>by
  simp only [Dx,Option.some.injEq] at he
  rw [List.length_nil,Nat.zero_add]
  exact eI Ac st a w hc Wm (by simpa [gX] using hf) he hr λj=>by rw [hdn j,hm j];simp
 |k::l,dn,Ac,st,a,w,hm,hl,hc,Wm,hdn,hf,he,hr=>by
  simp only [gX,Bool.and_eq_true] at hf
  obtain ⟨⟨h1,h2⟩,h3⟩:=hf
  obtain ⟨o,t,ho,m8,hg⟩:=hl k (by simp)
  have pG:k∈Region.ready .any ops Ac:=by simpa using h1
  obtain ⟨_,o',ZH,Gw⟩:=mem_ready.1 pG
  have ho2:o'=o:=Option.some.inj (ZH.symm.trans ho)
  subst ho2
  have hks:k<Ac.size:=by rw [Wm];exact (Array.getElem?_eq_some_iff.1 ho).1
  simp only [Dx,ho] at he
  have hv:bD T Γ ops st o'=some (st.get t):=by simp only [bD,hg,Rr,Cg,m8];rfl
  rw [hv] at he
  rw [List.length_cons,show l.length+1+n=(l.length+n)+1 by omega]
  refine wpAny_take ho bA h2 h1 (λc a w hq=>absurd hq (hQ c _ w)) (gY m8 hg) ?_
  obtain ⟨π,hr⟩:=hr
  refine bu hQ bA eI l (k::dn) _ _ _ _ (λj=>by rw [hm j,List.mem_cons,List.mem_cons];exact ⟨λh=>h.elim (λh=> .inl (.inr h)) (λh=>h.elim (λh=> .inl (.inl h)) .inr),λh=>h.elim (λh=>h.elim (λh=> .inr (.inl h)) .inl) (λh=> .inr (.inr h))⟩) (λi hi=>hl i (by simp [hi])) ?_ (by simp [Wm]) (λj=>?_) h3 he ⟨π,hr.put o'.dst (hr.2.tmps t)⟩
  ·intro j oj hj hlj e hem hb
   by_cases IN:k=j
   ·subst IN
    have:oj=o':=Option.some.inj (hj.symm.trans ho)
    subst this
    exact getD_set_true (Gw e hem hb)
   ·rw [getD_set_ne false IN] at hlj
    exact getD_set_true (hc j oj hj hlj e hem hb)
  ·by_cases IN:k=j
   ·subst IN
    refine ⟨λ_=>by simp,λ_=>?_⟩
    simp [hks]
   ·rw [getD_set_ne false IN,hdn j]
    simp [Ne.symm IN]
theorem aY {ops:Array Oper} : ∀(a b:List Nat) (st st':St),Dx T Γ ops (a++b) st=some st'-> ∃s,Dx T Γ ops a st=some s/\Dx T Γ ops b s=some st'
 | [],b,st,st',h=>⟨st,rfl,h⟩
 |i::a,b,st,st',h=>by
  simp only [List.cons_append,Dx] at h⊢
  split at h
  ·cases h
  ·split at h
   ·exact aY a b _ st' h
   ·cases h
theorem jn (hT:Bz P T) (Mf:Ia P Γ) (hm:P.follows .mixedOrders=true) {Q:Exit->Act->World->Prop} {id:Nat} {draw:Bool} {st st':St} {a:Act} (h:Rel X st a w)
  (he:Lg T Γ ops draw st=some st') (hQ: ∀a' w',Rel X st' a' w'->Q .normal a' w'):(Code.region id ops draw).wp P Q a w:=by
 unfold Lg at he
 cases draw with
 |false=>
  rw [if_neg (by simp)] at he
  exact wp_region_list (eB hT Mf ops.toList st st' a w h he hQ)
 |true=>
  rw [if_pos rfl] at he
  have go: ∀(q:Bool),dK q Γ ops=true->(match Dx T Γ ops (dz q Γ ops) st with
    |some st'=>Ix T Γ ops (Ew q Γ ops) st'
    |none=>none)=some st'->(Code.region id ops true).wp P Q a w:=by
   intro q ee he
   split at he
   ·rename_i st1 h1
    simp only [dK,Bool.and_eq_true,beq_iff_eq] at ee
    obtain ⟨⟨⟨bA,hlen⟩,VD⟩,Ab7⟩:=ee
    refine wp_mono (Q:= λe a w=>e= .normal/\Q .normal a w) ?_ λe a w h=>h.1▸h.2
    refine wp_region_any hm ?_
    have hrel:Rel X st a {w with drawn:=w.drawn+1} :=by
     obtain ⟨π,h⟩:=h
     exact ⟨π,h.quiet ⟨rfl,rfl,rfl,Nat.le_refl _,λ_ _=>rfl⟩⟩
    obtain ⟨s0,h0,h1⟩:=aY _ _ _ _ h1
    have ck: ∀i,i∈Wl q Γ ops->i<ops.size:= λi hi=>List.mem_range.1 (List.mem_filter.1 hi).1
    have Wm: ∀i,i∈Ow q Γ ops->i<ops.size:= λi hi=>ck i (List.mem_filter.1 hi).1
    have Gw: ∀j,j<ops.size->j∈Ou q Γ ops\/j∈Ow q Γ ops\/j∈Ew q Γ ops:= λj hj=>by
     by_cases ht:j∈Ew q Γ ops
     ·exact .inr (.inr ht)
     ·have hh:j∈Wl q Γ ops:=List.mem_filter.2 ⟨List.mem_range.2 hj,by simpa using ht⟩
      cases ON:ig ops (Wl q Γ ops) (Ew q Γ ops) j with
      |true=>exact .inl (List.mem_filter.2 ⟨hh,ON⟩)
      |false=>exact .inr (.inl (List.mem_filter.2 ⟨hh,by rw [ON];rfl⟩))
    have SM: ∀j,j∈Wl q Γ ops->j∉Ew q Γ ops:= λj hj=>by
     have:=(List.mem_filter.1 hj).2
     simpa using this
    have wz: ∀j,j∈Ow q Γ ops->j∉Ew q Γ ops:= λj hj=>SM j (List.mem_filter.1 hj).1
    have Aa8: ∀j,j∈Ou q Γ ops->j∉Ew q Γ ops:= λj hj=>SM j (List.mem_filter.1 hj).1
    have htl: ∀t,t∈Ew q Γ ops->t<ops.size:=by
     intro t ht
     unfold Ew at ht
     have: ∀(l:List Nat) (acc:List Nat),(∀i,i∈acc->i<ops.size)->(∀i,i∈l->i<ops.size)-> ∀i,i∈l.foldl (init:=acc) (λacc i=>match ops[i]? with
       |some o=>if LL q Γ o||o.after.any (λe=>Region.binds .any e&&acc.contains e.on) then acc++ [i] else acc
       |none=>acc)->i<ops.size:=by
      intro l
      induction l with
      |nil=>intro acc h1 _ i hi;exact h1 i hi
      |cons x l ih=>
       intro acc h1 h2 i hi
       simp only [List.foldl_cons] at hi
       refine ih _ ?_ (λi hi=>h2 i (by simp [hi])) i hi
       intro k hk
       split at hk
       ·split at hk
        ·rcases List.mem_append.1 hk with hk|hk
         ·exact h1 k hk
         ·simp at hk;rw [hk];exact h2 x (by simp)
        ·exact h1 k hk
       ·exact h1 k hk
     exact this (List.range ops.size) [] (by simp) (λi hi=>List.mem_range.1 hi) t ht
    rw [<-hlen]
    refine bu (q:=q) (X:=X) (T:=T) (Γ:=Γ) (tl:=Ew q Γ ops) (hd:=Ow q Γ ops) (st1:=s0) (λc a w hq=>by cases hq.1) bA ?_ (Ou q Γ ops) [] _ st a _ (λj=>by simp)
     (λi hi=>tq (List.mem_filter.1 hi).2) (λj oj _ hl=>(by rw [hlen,getD_replicate_false] at hl;cases hl)) (by simp [hlen]) (λj=>by rw [hlen,getD_replicate_false];simp) (by rw [hlen];exact VD) h0 hrel
    intro Ac s a' w' hc vg Aah hs hr ON
    subst hs
    have Agz:Rp ops (Ew q Γ ops) (Ou q Γ ops) Ac:=
     ⟨vg,λi hi=>(ON i).2 hi,hc,λt ht=>getD_in (by rw [vg];exact htl t ht) (by
      cases hg:Ac.getD t false with
      |false=>rfl
      |true=>exact absurd ht (Aa8 t ((ON t).1 hg)))⟩
    have HA:=vr (T:=T) (Γ:=Γ) bA Ab7 Wm Gw wz st1 (Ow q Γ ops) _ s (λi hi=>hi) Agz Aah h1
    exact fg (X:=X) (P:=P) (Q:= λe a w=>e= .normal/\Q .normal a w) (g:=(Ew q Γ ops).length) hT Mf (λAc s a' w' hL hr=>by
     obtain ⟨Agi,rfl⟩:=hL
     exact Xv (λe a w h=>h.1) bA (Ew q Γ ops) Ac a' w' Agi (ew hT Mf _ _ st' a' w' hr he λa w h=>⟨rfl,hQ a w h⟩)) _ _ _ _ _ HA hr
   ·cases he
  split at he
  ·rename_i ee;exact go false ee he
  ·split at he
   ·rename_i ee;exact go true ee he
   ·cases he
theorem Xq (q:Bool): ∀(l:List Nat) (Ac:Array Bool),(Es q ops l Ac).length<=l.length
 | [],_=>Nat.le_refl _
 |i::r,Ac=>by
  simp only [Es]
  split
  ·simp only [List.length_cons];have:=Xq q r (Ac.setIfInBounds i true);omega
  ·simp only [List.length_cons];have:=Xq q r Ac;omega
theorem xC (hT:Bz P T) {st:St} {a:Act} (h:Aj X π st a w) {i:Nat} {o:Oper} (ho:ops[i]?=some o) (hp:dG ops i=true) {v:AV} (hv:bD T Γ ops st o=some v):
  ∃u,Yields P ops o u a/\Am X w π st.heap v u:=by
 unfold dG at hp
 rw [ho] at hp
 simp only at hp
 obtain ⟨dst,op,ty,pos,af,gd⟩:=o
 split at hp
 ·rename_i t h3 h4
  simp only at h3 h4;subst h3;subst h4
  refine ⟨a.tmps.getD t undef,gY rfl rfl,?_⟩
  simp only [bD,Rr,Cg,Option.some.injEq] at hv
  subst hv
  exact h.2.tmps t
 ·rename_i x h3 h4
  simp only at h3 h4;subst h3;subst h4
  have e:=Bn h.2 x
  have fin:(∃ad,a.eval x= .pointer (some ad))->Yields P ops ⟨dst, .nilCheck x,ty,pos,af,none⟩ (a.eval x) a:= λ⟨ad,hx⟩=>
   .inl ⟨by simp [Region.wanted],λw=>by simp [execOp,hx]⟩
  simp only [bD,Rr,Cg] at hv
  split at hv
  ·rename_i fr τ y hx
   simp only [Option.some.injEq] at hv;subst hv
   rw [hx] at e
   have e':=e
   obtain ⟨cs,hc,hv⟩:=e
   simp only [Cells] at hc
   obtain ⟨g,o,rfl,_⟩:=hc
   simp only [Ar,Ty.Ab,Bool.false_eq_true,if_false,List.headD_cons] at hv
   exact ⟨_,fin ⟨_,hv⟩,e'⟩
  ·rename_i fr τ y hx
   simp only [Option.some.injEq] at hv;subst hv
   rw [hx] at e
   obtain ⟨cs,hc,hv⟩:=e
   simp only [Cells] at hc
   rcases hc with ⟨h0,_⟩|⟨y',g,o,h0,rfl,hr⟩
   ·cases h0
   simp only [Option.some.injEq] at h0;subst h0
   simp only [Ar,Ty.Ab,Bool.false_eq_true,if_false,List.headD_cons] at hv
   exact ⟨_,fin ⟨_,hv⟩,[_],⟨g,o,rfl,hr⟩,by rw [hv];simp [Ar,Ty.Ab]⟩
  ·rename_i l i hx
   simp only [Option.some.injEq] at hv;subst hv
   rw [hx] at e
   have e':=e
   obtain ⟨r,tid,vs,_,_,hv⟩:=e
   exact ⟨_,fin ⟨_,hv⟩,e'⟩
  ·rename_i l i hx
   simp only [Option.some.injEq] at hv;subst hv
   rw [hx] at e
   have e':=e
   obtain ⟨r,b,sz,n,_,_,_,_,hv⟩:=e
   exact ⟨_,fin ⟨_,hv⟩,e'⟩
  ·cases hv
 ·rename_i s x f h3 h4
  simp only at h3 h4;subst h3;subst h4
  simp only [bD,Rr,Cg] at hv
  obtain ⟨u,h1,h2⟩:=We hT (st:=st) _ _ _ _ v (Bn h.2 x) hv
  refine ⟨u, .inl ⟨by simp [Region.wanted],λw=>?_⟩,h2⟩
  have:=h1 w
  simp only [execOp,Sem.run_bind]
  first
   |(rw [this];rfl)
   |simp [this]
 ·cases hp
theorem u6 {i:Nat} (h:tt ops i=true):dG ops i=true:=by
 unfold tt at h
 unfold dG
 split at h
 ·rename_i o ho
  split at h
  ·rename_i h1 h2
   simp only [h1,h2]
  ·cases h
 ·cases h
theorem Vv (hT:Bz P T) (q:Bool) {Q:Exit->Act->World->Prop} (hQ: ∀c a w,¬Q (.panic c) a w) (bA:Region.noSelect ops=true) {n:Nat} {st1:St} :
  ∀(l:List Nat) (Ac:Array Bool) (st:St) (a:Act) (w:World),Dx T Γ ops (Es q ops l Ac) st=some st1->Rel X st a w->
   (∀a w,Rel X st1 a w->wpAny P .any ops Q n (Ec (Es q ops l Ac) Ac) a w)->wpAny P .any ops Q ((Es q ops l Ac).length+n) Ac a w
 | [],Ac,st,a,w,he,hr,hK=>by
  simp only [Es,Dx,Option.some.injEq] at he
  subst he
  simp only [Es,List.length_nil,Nat.zero_add]
  exact hK a w hr
 |k::l,Ac,st,a,w,he,hr,hK=>by
  simp only [Es] at he hK⊢
  split
  ·rename_i hc
   rw [if_pos hc] at he hK
   simp only [Bool.and_eq_true] at hc
   obtain ⟨h0,h1,h2⟩:=hc
   have hp:dG ops k=true:=by
    cases q with
    |true=>exact h0
    |false=>exact u6 h0
   simp only [Dx] at he
   split at he
   ·cases he
   rename_i o ho
   split at he
   rotate_left
   ·cases he
   rename_i v hv
   obtain ⟨π,hr⟩:=hr
   obtain ⟨u,hy,hu⟩:=xC (Γ:=Γ) hT hr ho hp hv
   rw [List.length_cons,show (Es q ops l (Ac.setIfInBounds k true)).length+1+n=((Es q ops l (Ac.setIfInBounds k true)).length+n)+1 by omega]
   refine wpAny_take ho bA h2 h1 (λc a w hq=>absurd hq (hQ c _ w)) hy ?_
   exact Vv hT q hQ bA l _ _ _ _ he ⟨π,hr.put o.dst hu⟩ hK
  ·rename_i hc
   rw [if_neg hc] at he hK
   exact Vv hT q hQ bA l Ac st a w he hr hK
theorem fh (hT:Bz P T) (Mf:Ia P Γ) {Q:Exit->Act->World->Prop} {K:St->Prop} (hK: ∀st a w,K st->Rel X st a w->Q .normal a w):
  ∀(f:Nat) (Ac:Array Bool) (st:St) (a:Act) (w:World),anyS T Γ ops K f Ac st->Rel X st a w->wpAny P .any ops Q f Ac a w
 |0,Ac,st,a,w,h,hr=>⟨h.1,hK _ _ _ h.2 hr⟩
 |f+1,Ac,st,a,w,h,hr=>by
  refine ⟨λh0=>absurd h0 h.1,λi hi=>?_⟩
  obtain ⟨o,st',ho,he,eI⟩:=h.2 i hi
  obtain ⟨π,hr⟩:=hr
  unfold wpOp
  simp only [ho]
  exact Uw hT Mf hr o he λa' w' h'=>fh hT Mf hK f _ _ _ _ eI h'
theorem AL (hT:Bz P T) (Mf:Ia P Γ) (hm:P.follows .mixedOrders=true) {Q:Exit->Act->World->Prop} {id:Nat} {draw:Bool} {st:St} {K:St->Prop} {a:Act} (h:Rel X st a w)
  (he:sw T Γ ops draw st K) (hQ: ∀st' a' w',K st'->Rel X st' a' w'->Q .normal a' w'):(Code.region id ops draw).wp P Q a w:=by
 rcases he with ⟨st',h1,h2⟩|⟨rfl,bA,bo,h1,h2⟩
 ·exact jn hT Mf hm h h1 λa' w' h'=>hQ st' a' w' h2 h'
 ·refine wp_mono (Q:= λe a w=>e= .normal/\Q .normal a w) ?_ λe a w h=>h.1▸h.2
  refine wp_region_any hm ?_
  have hrel:Rel X st a {w with drawn:=w.drawn+1} :=by
   obtain ⟨π,h⟩:=h
   exact ⟨π,h.quiet ⟨rfl,rfl,rfl,Nat.le_refl _,λ_ _=>rfl⟩⟩
  have hlen:(Kb ops).length<=ops.size:=by
   have:=Xq (ops:=ops) (!dv false ops) (List.range ops.size) (Array.replicate ops.size false)
   rw [List.length_range] at this
   exact this
  have:=Vv hT (!dv false ops) (X:=X) (P:=P) (T:=T) (Γ:=Γ) (Q:= λe a w=>e= .normal/\Q .normal a w) (n:=ops.size-(Kb ops).length) (st1:=bo) (λc a w hq=>by cases hq.1) bA (List.range ops.size) (Array.replicate ops.size false) st a _ h1 hrel λa' w' h'=>
   fh hT Mf (λst' a' w' hk hr=>⟨rfl,hQ st' a' w' hk hr⟩) _ _ _ _ _ h2 h'
  have e:(Es (!dv false ops) ops (List.range ops.size) (Array.replicate ops.size false)).length+(ops.size-(Kb ops).length)=ops.size:=by
   have e2:(Es (!dv false ops) ops (List.range ops.size) (Array.replicate ops.size false)).length=(Kb ops).length:=rfl
   omega
  rw [e] at this
  exact this
end
end Go.Proofs.YtfolipnappekaaaGreat
