/-
  Part 25 of the proof that the statement FnExactBestTableIndex holds.
-/
import Derived.Test.YtfolipnappekaaaGreatCBestTableIndex23
namespace Go.Proofs.YtfolipnappekaaaGreat
open Go.RowKit
section
variable {P:Program} {T:Tab} {Γ:Env} {X:Ctx} {w w':World} {π:Pi} {ops:Array Oper} {hd tl:List Nat}
structure Rt (ops:Array Oper) (tl fl:List Nat) (Ac:Array Bool):Prop where
 size:Ac.size=ops.size
 done: ∀i,i∈fl->Ac.getD i false=true
 closed: ∀j oj,ops[j]?=some oj->Ac.getD j false=true-> ∀e∈oj.after,Region.binds .any e=true->Ac.getD e.on false=true
 tail: ∀t,t∈tl->Ac.getD t true=false
theorem Rt.set {fl:List Nat} {i:Nat} {Ac:Array Bool} (inv:Rt ops tl fl Ac) (hi:i∈Region.ready .any ops Ac) (cp:i∉tl):Rt ops tl fl (Ac.setIfInBounds i true):=by
 obtain ⟨_,oi,hoi,Gw⟩:=mem_ready.1 hi
 refine ⟨by simp [inv.size],λk hk=>getD_set_true (inv.done k hk),λj oj hj hl e he hb=>?_,λt ht=>by
  have Ex:i≠t:= λe=>cp (by rw [e];exact ht)
  rw [getD_set_ne true Ex];exact inv.tail t ht⟩
 by_cases jF:i=j
 ·subst jF
  have:oj=oi:=Option.some.inj (hj.symm.trans hoi)
  subst this
  exact getD_set_true (Gw e he hb)
 ·rw [getD_set_ne false jF] at hl
  exact getD_set_true (inv.closed j oj hj hl e he hb)
theorem z8 (k:Nat) (r:List Nat) (h:(r.all λt=>(k::r).any λk=>Region.waitsFor .any ops t k)=true): ∀t,t∈r-> ∃k',(k'=k\/k'∈r)/\Region.waitsFor .any ops t k'=true:= λt ht=>by
 obtain ⟨k',h1,h2⟩:=List.any_eq_true.1 (List.all_eq_true.1 h t ht)
 exact ⟨k',List.mem_cons.1 h1,h2⟩
theorem yd {fl:List Nat} {Ac:Array Bool} (hs:oB ops hd tl=true) (inv:Rt ops tl fl Ac) (Wo: ∀i,i∈hd->i<ops.size):
  ∀(d i:Nat),ops.size-i=d->i∈hd->Ac.getD i true=false-> ∀t,t∈tl->t∉Region.ready .any ops Ac:=by
 cases tl with
 |nil=>intro d i _ _ _ t ht;cases ht
 |cons f r=>
  simp only [oB,Bool.and_eq_true] at hs
  obtain ⟨gD,px⟩:=hs
  intro d
  induction d using Nat.strongRecOn with
  |_ d ih=>
   intro i hd' hi IT t ht hr
   obtain ⟨_,ot,hot,Gw⟩:=mem_ready.1 hr
   rcases List.mem_cons.1 ht with rfl|ik
   ·have h1:=List.all_eq_true.1 gD i hi
    obtain ⟨j,hj,hj2⟩:=List.any_eq_true.1 h1
    simp only [Bool.and_eq_true,decide_eq_true_eq] at hj2
    obtain ⟨oj,TI,e,he,hb,hon⟩:=Region.waitsFor_spec hj2.2
    rcases List.mem_cons.1 hj with rfl|QD
    ·have:oj=ot:=Option.some.inj (TI.symm.trans hot)
     subst this
     have h2:=Gw e he hb
     rw [hon,getD_both IT] at h2
     cases h2
    ·cases hl:Ac.getD j false with
     |true=>
      have h2:=inv.closed j oj TI hl e he hb
      rw [hon,getD_both IT] at h2
      cases h2
     |false=>
      have hjs:j<Ac.size:=by rw [inv.size];exact Wo j QD
      have:=Wo j QD
      exact ih (ops.size-j) (by omega) j rfl QD (getD_in hjs hl) t (by simp) hr
   ·obtain ⟨k',h1,h2⟩:=z8 f r px t ik
    obtain ⟨o',ZM,e,he,hb,hon⟩:=Region.waitsFor_spec h2
    have:o'=ot:=Option.some.inj (ZM.symm.trans hot)
    subst this
    have h3:=Gw e he hb
    have hk:k'∈f::r:=by rcases h1 with rfl|h1<;>simp [*]
    rw [hon,getD_both (inv.tail k' hk)] at h3
    cases h3
def IW (T:Tab) (Γ:Env) (ops:Array Oper) (hd:List Nat) (L:Array Bool->St->Prop):Nat->Array Bool->St->Prop
 |0,Ac,st=>L Ac st
 |f+1,Ac,st=>
  Region.ready .any ops Ac≠ []/\ ∀i∈Region.ready .any ops Ac,i∈hd/\ ∃o v,ops[i]?=some o/\bG T Γ ops st o=some v/\IW T Γ ops hd L f (Ac.setIfInBounds i true) (st.put o.dst v)
theorem vg (hT:Bz P T) (Mg:Ia P Γ) {Q:Exit->Act->World->Prop} {K:Act->World->Prop} {st:St} {a:Act} (h:Rel X st a w) {i:Nat} {o:Oper} {v:AV} (ho:ops[i]?=some o) (hv:bG T Γ ops st o=some v)
  (hK: ∀a' w',Rel X (st.put o.dst v) a' w'->K a' w'):wpOp P ops Q i K a w:=by
 obtain ⟨π,h⟩:=h
 have run:Rv T Γ st o=some v->o.wp P a w K Q:= λhe=>lu (X:=X) (st':=st) (av:=v) (w9 hT Mg h o v he) hK
 have skip:v= .at .skip->K (a.put o.dst undef) w:= λe=>by subst e;exact hK _ _ ⟨π,h.put o.dst xQ⟩
 unfold wpOp
 simp only [ho]
 unfold bG at hv
 split at hv
 ·rename_i hg
  rw [if_pos (by simp [Region.wanted,hg])]
  exact .inl (run hv)
 ·rename_i j want hg
  split at hv
  ·rename_i b hb
   have hy:=(Zu h j).1 b hb
   split at hv
   ·rename_i JX
    rw [if_pos (by simp only [Region.wanted,hg,hy];simpa using JX)]
    exact .inl (run hv)
   ·rename_i JX
    rw [if_neg (by simp only [Region.wanted,hg,hy];simpa using JX)]
    simp only [Option.some.injEq] at hv
    exact skip hv.symm
  ·rename_i hb
   have hy:=(Zu h j).2 hb
   rw [if_neg (by simp [Region.wanted,hg,hy])]
   simp only [Option.some.injEq] at hv
   exact skip hv.symm
  ·cases hv
theorem fq (hT:Bz P T) (Mg:Ia P Γ) {g:Nat} {L:Array Bool->St->Prop} {Q:Exit->Act->World->Prop} (hL: ∀Ac st a w,L Ac st->Rel X st a w->wpAny P .any ops Q g Ac a w):
  ∀(f:Nat) (Ac:Array Bool) (st:St) (a:Act) (w:World),IW T Γ ops hd L f Ac st->Rel X st a w->wpAny P .any ops Q (f+g) Ac a w
 |0,Ac,st,a,w,h,hr=>by rw [Nat.zero_add];exact hL _ _ _ _ h hr
 |f+1,Ac,st,a,w,h,hr=>by
  rw [show f+1+g=(f+g)+1 by omega]
  refine ⟨λh0=>absurd h0 h.1,λi hi=>?_⟩
  obtain ⟨_,o,v,ho,hv,eP⟩:=h.2 i hi
  exact vg hT Mg hr ho hv λa' w' h'=>fq hT Mg hL f _ _ _ _ eP h'
theorem yM {fl:List Nat} {i:Nat} {oi:Oper} {v:AV} {L:Array Bool->St->Prop} (hi:ops[i]?=some oi) (hs:oB ops hd tl=true) (Wo: ∀i,i∈hd->i<ops.size) (cp:i∈hd)
  (Gw: ∀j,j<ops.size->j∈fl\/j∈hd\/j∈tl) (wD: ∀j,j∈hd->j∉tl) (Aae: ∀Ac st,L Ac st-> ∀j∈Region.ready .any ops Ac,j∈tl):
  ∀(f:Nat) (Ac:Array Bool) (st:St),Rt ops tl fl Ac->
   (∀j oj,ops[j]?=some oj->j≠i->Ac.getD j true=false->(∀e∈oj.after,Region.binds .any e=true->e.on≠i)->oi.apart ops oj=true)->
   i∈Region.ready .any ops Ac->bG T Γ ops st oi=some v->
   IW T Γ ops hd L f (Ac.setIfInBounds i true) (st.put oi.dst v)->IW T Γ ops hd L (f+1) Ac st:=by
 intro f
 have Abs: ∀Ac,Rt ops tl fl Ac->i∈Region.ready .any ops Ac-> ∀j,j∈Region.ready .any ops Ac->j∈hd:=by
  intro Ac inv hr j hj
  obtain ⟨IT,oj,TI,_⟩:=mem_ready.1 hj
  rcases Gw j (Array.getElem?_eq_some_iff.1 TI).1 with h|h|h
  ·have h1:=inv.done j h
   rw [getD_both IT] at h1;cases h1
  ·exact h
  ·exact absurd hj (yd hs inv Wo _ i rfl cp (mem_ready.1 hr).1 j h)
 induction f with
 |zero=>
  intro Ac st inv _ hr hv Hh
  refine ⟨λh=>(by rw [h] at hr;cases hr),λj hj=>?_⟩
  have QD:=Abs Ac inv hr j hj
  refine ⟨QD,?_⟩
  by_cases pK:j=i
  ·subst pK;exact ⟨oi,v,hi,hv,Hh⟩
  ·exact absurd (Aae _ _ Hh j (ready_mono hj pK)) (wD j QD)
 |succ f ih=>
  intro Ac st inv ie hr hv Hh
  have IT:=(mem_ready.1 hr).1
  refine ⟨λh=>(by rw [h] at hr;cases hr),λj hj=>?_⟩
  have QD:=Abs Ac inv hr j hj
  refine ⟨QD,?_⟩
  by_cases pK:j=i
  ·subst pK;exact ⟨oi,v,hi,hv,Hh⟩
  ·obtain ⟨_,oj,vj,TI,hvj,eP⟩:=Hh.2 j (ready_mono hj pK)
   obtain ⟨Aan,oj',Agb,Aa7⟩:=mem_ready.1 hj
   have:oj'=oj:=Option.some.inj (Agb.symm.trans TI)
   subst this
   have nA: ∀e∈oj'.after,Region.binds .any e=true->e.on≠i:= λe he hb heq=>by
    have h1:=Aa7 e he hb
    rw [heq,getD_both IT] at h1
    cases h1
   obtain ⟨p1,p2,p3⟩:=Oper.apart_spec (ie j oj' TI pK Aan nA)
   rw [yi p1] at hvj
   refine ⟨oj',vj,TI,hvj,?_⟩
   have VL: ∀k ok,ops[k]?=some ok->k≠i->(Ac.setIfInBounds j true).getD k true=false->
     (∀e∈ok.after,Region.binds .any e=true->e.on≠i)->oi.apart ops ok=true:= λk ok hk hki Abh TH=>by
    refine ie k ok hk hki ?_ TH
    by_cases hjk:j=k
    ·subst hjk;exact Aan
    ·rw [getD_set_ne true hjk] at Abh;exact Abh
   refine ih (Ac.setIfInBounds j true) (st.put oj'.dst vj) (inv.set hj (wD j QD)) VL (ready_mono hr (Ne.symm pK)) (by rw [yi p3];exact hv) ?_
   rw [Array.setIfInBounds_comm _ _ pK,<-St.put_comm st v vj p2]
   exact eP
theorem lg: ∀(l:List Nat) (Ac:Array Bool),iP ops l Ac=true-> ∀j∈Region.ready .any ops Ac,j∈l
 | [],Ac,h,j,hj=>by simp only [iP,List.isEmpty_iff] at h;rw [h] at hj;cases hj
 |k::r,Ac,h,j,hj=>by
  simp only [iP,Bool.and_eq_true,Bool.or_eq_true,decide_eq_true_eq] at h
  rcases h.1 with h1|h1
  ·rw [h1] at hj
   simp at hj
   simp [hj]
  ·by_cases e:j=k
   ·simp [e]
   ·exact List.mem_cons_of_mem _ (lg r _ h.2 j (ready_mono hj e))
theorem vB {fl:List Nat} (bD:Region.noSelect ops=true) (hs:oB ops hd tl=true) (Wo: ∀i,i∈hd->i<ops.size) (Gw: ∀j,j<ops.size->j∈fl\/j∈hd\/j∈tl) (wD: ∀j,j∈hd->j∉tl) (st':St):
  ∀(l:List Nat) (Ac:Array Bool) (st:St),(∀i,i∈l->i∈hd)->Rt ops tl fl Ac->jE ops tl l Ac=true->Dx T Γ ops l st=some st'->
  IW T Γ ops hd (λtK s=>iP ops tl tK=true/\s=st') l.length Ac st
 | [],Ac,st,_,_,hB,he=>by
  simp only [Dx,Option.some.injEq] at he
  exact ⟨by simpa [jE] using hB,he⟩
 |k::l,Ac,st,hl,inv,hB,he=>by
  simp only [jE,Bool.and_eq_true] at hB
  obtain ⟨⟨hr,hf⟩,hB'⟩:=hB
  have hkh:=hl k (by simp)
  have Zl:k∈Region.ready .any ops Ac:=by simpa using hr
  simp only [Dx] at he
  split at he
  ·cases he
  ·rename_i o ho
   split at he
   ·rename_i v hv
    exact yM ho hs Wo hkh Gw wD (λtK s hL=>lg tl tK hL.1) l.length Ac st inv (Region.free_spec ho hf) Zl hv
     (vB bD hs Wo Gw wD st' l _ _ (λi hi=>hl i (by simp [hi])) (inv.set Zl (wD k hkh)) hB' he)
   ·cases he
theorem sW {Q:Exit->Act->World->Prop} (hQ: ∀e a w,Q e a w->e= .normal) {k i:Nat} {x:Operand} {o:Oper} (ho:ops[k]?=some o) (mh:o.op= .extract x i) (hg:o.guard=none) {K:Act->World->Prop} {a:Act} {w:World}
  (h:wpOp P ops Q k K a w): ∃v,Yields P ops o v a/\K (a.put o.dst v) w:=by
 unfold wpOp at h
 simp only [ho] at h
 have hw:Region.wanted o (yielded ops a.tmps)=true:=by simp [Region.wanted,hg]
 rw [if_pos hw] at h
 rcases h with h|⟨_,a',w',h⟩
 ·unfold Oper.wp at h
  have hr: ∀w,(execOp a.eval o).run P w=(do pure (Next.value (<-Instr.extract (a.eval x) i))).run P w:= λw=>by unfold execOp;rw [mh]
  rw [hr] at h
  unfold Instr.extract at h hr
  split at h
  ·rename_i vs hx
   split at h
   ·rename_i v hv
    rw [hx] at hr
    simp only [hv] at hr
    exact ⟨v, .inl ⟨hw,λw=>(hr w).trans rfl⟩,h⟩
   ·exact h.elim
  ·exact h.elim
 ·cases hQ _ _ _ h
theorem Xx {Q:Exit->Act->World->Prop} (hQ: ∀e a w,Q e a w->e= .normal) (bD:Region.noSelect ops=true): ∀(l:List Nat) (Ac:Array Bool) (a:Act) (w:World),iP ops l Ac=true->wpOps P ops Q l a w->wpAny P .any ops Q l.length Ac a w
 | [],Ac,a,w,hB,h=>⟨by simpa [iP] using hB,h⟩
 |k::r,Ac,a,w,hB,h=>by
  simp only [iP,Bool.and_eq_true,Bool.or_eq_true,decide_eq_true_eq] at hB
  rw [wpOps_cons] at h
  rcases hB.1 with h0|⟨h1,h2,h3⟩
  ·refine ⟨λh1=>(by rw [h0] at h1;cases h1),λi hi=>?_⟩
   rw [h0] at hi
   have hik:i=k:=by simpa using hi
   subst hik
   exact wpOp_mono (λa' w' h'=>Xx hQ bD r _ a' w' hB.2 h') h
  ·unfold LF at h1
   split at h1
   ·rename_i o ho
    split at h1
    ·rename_i x i mh hg
     obtain ⟨v,hy,hk⟩:=sW hQ ho mh hg h
     exact wpAny_take ho bD h3 h2 (λc a w hq=>by cases hQ _ _ _ hq) hy (Xx hQ bD r _ _ w hB.2 hk)
    ·cases h1
   ·cases h1
theorem hY {P:Program} {o:Oper} {t:Tmp} {a:Act} (h:o.op= .move (.tmp t)) (hg:o.guard=none):Yields P ops o (a.tmps.getD t undef) a:=by
 refine .inl ⟨by simp [Region.wanted,hg],λw=>?_⟩
 unfold execOp
 rw [h]
 rfl
theorem tz {hd tl:List Nat} {i:Nat} (h:im ops hd tl i=true): ∃o t,ops[i]?=some o/\o.op= .move (.tmp t)/\o.guard=none:=by
 unfold im at h
 split at h
 ·rename_i o ho
  simp only [Bool.and_eq_true] at h
  have h1:=h.1
  split at h1
  ·rename_i t h2 h3
   exact ⟨o,t,ho,h2,h3⟩
  ·cases h1
 ·cases h
theorem bz {q:Bool} {hd:List Nat} {Q:Exit->Act->World->Prop} (hQ: ∀c a w,¬Q (.panic c) a w) (bD:Region.noSelect ops=true) {n:Nat} {st1:St}
  (eP: ∀Ac st a w,(∀j oj,ops[j]?=some oj->Ac.getD j false=true-> ∀e∈oj.after,Region.binds .any e=true->Ac.getD e.on false=true)->Ac.size=ops.size->jE ops tl hd Ac=true->st=st1->Rel X st a w->
   (∀j,Ac.getD j false=true↔j∈Ow q Γ ops)->wpAny P .any ops Q n Ac a w):
  ∀(l dn:List Nat) (Ac:Array Bool) (st:St) (a:Act) (w:World),(∀j,j∈Ow q Γ ops↔j∈dn\/j∈l)->(∀i,i∈l-> ∃o t,ops[i]?=some o/\o.op= .move (.tmp t)/\o.guard=none)->
   (∀j oj,ops[j]?=some oj->Ac.getD j false=true-> ∀e∈oj.after,Region.binds .any e=true->Ac.getD e.on false=true)->Ac.size=ops.size->(∀j,Ac.getD j false=true↔j∈dn)->
   hJ ops tl hd l Ac=true->Dx T Γ ops l st=some st1->Rel X st a w->wpAny P .any ops Q (l.length+n) Ac a w
 | [],dn,Ac,st,a,w,hm,_,hc,Wo,hdn,hf,he,hr=>by
  simp only [Dx,Option.some.injEq] at he
  rw [List.length_nil,Nat.zero_add]
  exact eP Ac st a w hc Wo (by simpa [hJ] using hf) he hr λj=>by rw [hdn j,hm j];simp
 |k::l,dn,Ac,st,a,w,hm,hl,hc,Wo,hdn,hf,he,hr=>by
  simp only [hJ,Bool.and_eq_true] at hf
  obtain ⟨⟨h1,h2⟩,h3⟩:=hf
  obtain ⟨o,t,ho,mh,hg⟩:=hl k (by simp)
  have pM:k∈Region.ready .any ops Ac:=by simpa using h1
  obtain ⟨_,o',ZM,Gw⟩:=mem_ready.1 pM
  have ho2:o'=o:=Option.some.inj (ZM.symm.trans ho)
  subst ho2
  have hks:k<Ac.size:=by rw [Wo];exact (Array.getElem?_eq_some_iff.1 ho).1
  simp only [Dx,ho] at he
  have hv:bG T Γ ops st o'=some (st.get t):=by simp only [bG,hg,Rv,Cg,mh];rfl
  rw [hv] at he
  rw [List.length_cons,show l.length+1+n=(l.length+n)+1 by omega]
  refine wpAny_take ho bD h2 h1 (λc a w hq=>absurd hq (hQ c _ w)) (hY mh hg) ?_
  obtain ⟨π,hr⟩:=hr
  refine bz hQ bD eP l (k::dn) _ _ _ _ (λj=>by rw [hm j,List.mem_cons,List.mem_cons];exact ⟨λh=>h.elim (λh=> .inl (.inr h)) (λh=>h.elim (λh=> .inl (.inl h)) .inr),λh=>h.elim (λh=>h.elim (λh=> .inr (.inl h)) .inl) (λh=> .inr (.inr h))⟩) (λi hi=>hl i (by simp [hi])) ?_ (by simp [Wo]) (λj=>?_) h3 he ⟨π,hr.put o'.dst (hr.2.tmps t)⟩
  ·intro j oj hj hlj e hem hb
   by_cases IS:k=j
   ·subst IS
    have:oj=o':=Option.some.inj (hj.symm.trans ho)
    subst this
    exact getD_set_true (Gw e hem hb)
   ·rw [getD_set_ne false IS] at hlj
    exact getD_set_true (hc j oj hj hlj e hem hb)
  ·by_cases IS:k=j
   ·subst IS
    refine ⟨λ_=>by simp,λ_=>?_⟩
    simp [hks]
   ·rw [getD_set_ne false IS,hdn j]
    simp [Ne.symm IS]
theorem bb {ops:Array Oper} : ∀(a b:List Nat) (st st':St),Dx T Γ ops (a++b) st=some st'-> ∃s,Dx T Γ ops a st=some s/\Dx T Γ ops b s=some st'
 | [],b,st,st',h=>⟨st,rfl,h⟩
 |i::a,b,st,st',h=>by
  simp only [List.cons_append,Dx] at h⊢
  split at h
  ·cases h
  ·split at h
   ·exact bb a b _ st' h
   ·cases h
theorem jv (hT:Bz P T) (Mg:Ia P Γ) (hm:P.follows .mixedOrders=true) {Q:Exit->Act->World->Prop} {id:Nat} {draw:Bool} {st st':St} {a:Act} (h:Rel X st a w)
  (he:Lg T Γ ops draw st=some st') (hQ: ∀a' w',Rel X st' a' w'->Q .normal a' w'):(Code.region id ops draw).wp P Q a w:=by
 unfold Lg at he
 cases draw with
 |false=>
  rw [if_neg (by simp)] at he
  exact wp_region_list (eI hT Mg ops.toList st st' a w h he hQ)
 |true=>
  rw [if_pos rfl] at he
  have go: ∀(q:Bool),dQ q Γ ops=true->(match Dx T Γ ops (dF q Γ ops) st with
    |some st'=>Ix T Γ ops (Ew q Γ ops) st'
    |none=>none)=some st'->(Code.region id ops true).wp P Q a w:=by
   intro q eo he
   split at he
   ·rename_i st1 h1
    simp only [dQ,Bool.and_eq_true,beq_iff_eq] at eo
    obtain ⟨⟨⟨bD,hlen⟩,VJ⟩,Abc⟩:=eo
    refine wp_mono (Q:= λe a w=>e= .normal/\Q .normal a w) ?_ λe a w h=>h.1▸h.2
    refine wp_region_any hm ?_
    have hrel:Rel X st a {w with drawn:=w.drawn+1} :=by
     obtain ⟨π,h⟩:=h
     exact ⟨π,h.quiet ⟨rfl,rfl,rfl,Nat.le_refl _,λ_ _=>rfl⟩⟩
    obtain ⟨s0,h0,h1⟩:=bb _ _ _ _ h1
    have cp: ∀i,i∈Wn q Γ ops->i<ops.size:= λi hi=>List.mem_range.1 (List.mem_filter.1 hi).1
    have Wo: ∀i,i∈Oy q Γ ops->i<ops.size:= λi hi=>cp i (List.mem_filter.1 hi).1
    have Gw: ∀j,j<ops.size->j∈Ow q Γ ops\/j∈Oy q Γ ops\/j∈Ew q Γ ops:= λj hj=>by
     by_cases ht:j∈Ew q Γ ops
     ·exact .inr (.inr ht)
     ·have hh:j∈Wn q Γ ops:=List.mem_filter.2 ⟨List.mem_range.2 hj,by simpa using ht⟩
      cases OQ:im ops (Wn q Γ ops) (Ew q Γ ops) j with
      |true=>exact .inl (List.mem_filter.2 ⟨hh,OQ⟩)
      |false=>exact .inr (.inl (List.mem_filter.2 ⟨hh,by rw [OQ];rfl⟩))
    have SU: ∀j,j∈Wn q Γ ops->j∉Ew q Γ ops:= λj hj=>by
     have:=(List.mem_filter.1 hj).2
     simpa using this
    have wD: ∀j,j∈Oy q Γ ops->j∉Ew q Γ ops:= λj hj=>SU j (List.mem_filter.1 hj).1
    have Aad: ∀j,j∈Ow q Γ ops->j∉Ew q Γ ops:= λj hj=>SU j (List.mem_filter.1 hj).1
    have htl: ∀t,t∈Ew q Γ ops->t<ops.size:=by
     intro t ht
     unfold Ew at ht
     have: ∀(l:List Nat) (acc:List Nat),(∀i,i∈acc->i<ops.size)->(∀i,i∈l->i<ops.size)-> ∀i,i∈l.foldl (init:=acc) (λacc i=>match ops[i]? with
       |some o=>if LO q Γ o||o.after.any (λe=>Region.binds .any e&&acc.contains e.on) then acc++ [i] else acc
       |none=>acc)->i<ops.size:=by
      intro l
      induction l with
      |nil=>intro acc h1 _ i hi;exact h1 i hi
      |cons x l ih=>
       intro acc h1 h2 i hi
       simp only [List.foldl_cons] at hi
       refine ih _ ?_ (λi hi=>h2 i (by simp [hi])) i hi
       intro k hk
       split at hk
       ·split at hk
        ·rcases List.mem_append.1 hk with hk|hk
         ·exact h1 k hk
         ·simp at hk;rw [hk];exact h2 x (by simp)
        ·exact h1 k hk
       ·exact h1 k hk
     exact this (List.range ops.size) [] (by simp) (λi hi=>List.mem_range.1 hi) t ht
    rw [<-hlen]
    refine bz (q:=q) (X:=X) (T:=T) (Γ:=Γ) (tl:=Ew q Γ ops) (hd:=Oy q Γ ops) (st1:=s0) (λc a w hq=>by cases hq.1) bD ?_ (Ow q Γ ops) [] _ st a _ (λj=>by simp)
     (λi hi=>tz (List.mem_filter.1 hi).2) (λj oj _ hl=>(by rw [hlen,getD_replicate_false] at hl;cases hl)) (by simp [hlen]) (λj=>by rw [hlen,getD_replicate_false];simp) (by rw [hlen];exact VJ) h0 hrel
    intro Ac s a' w' hc vq Aam hs hr OQ
    subst hs
    have Ah4:Rt ops (Ew q Γ ops) (Ow q Γ ops) Ac:=
     ⟨vq,λi hi=>(OQ i).2 hi,hc,λt ht=>getD_in (by rw [vq];exact htl t ht) (by
      cases hg:Ac.getD t false with
      |false=>rfl
      |true=>exact absurd ht (Aad t ((OQ t).1 hg)))⟩
    have HA:=vB (T:=T) (Γ:=Γ) bD Abc Wo Gw wD st1 (Oy q Γ ops) _ s (λi hi=>hi) Ah4 Aam h1
    exact fq (X:=X) (P:=P) (Q:= λe a w=>e= .normal/\Q .normal a w) (g:=(Ew q Γ ops).length) hT Mg (λAc s a' w' hL hr=>by
     obtain ⟨Agn,rfl⟩:=hL
     exact Xx (λe a w h=>h.1) bD (Ew q Γ ops) Ac a' w' Agn (eE hT Mg _ _ st' a' w' hr he λa w h=>⟨rfl,hQ a w h⟩)) _ _ _ _ _ HA hr
   ·cases he
  split at he
  ·rename_i eo;exact go false eo he
  ·split at he
   ·rename_i eo;exact go true eo he
   ·cases he
theorem Xs (q:Bool): ∀(l:List Nat) (Ac:Array Bool),(Es q ops l Ac).length<=l.length
 | [],_=>Nat.le_refl _
 |i::r,Ac=>by
  simp only [Es]
  split
  ·simp only [List.length_cons];have:=Xs q r (Ac.setIfInBounds i true);omega
  ·simp only [List.length_cons];have:=Xs q r Ac;omega
theorem xH (hT:Bz P T) {st:St} {a:Act} (h:Aj X π st a w) {i:Nat} {o:Oper} (ho:ops[i]?=some o) (hp:dM ops i=true) {v:AV} (hv:bG T Γ ops st o=some v):
  ∃u,Yields P ops o u a/\Am X w π st.heap v u:=by
 unfold dM at hp
 rw [ho] at hp
 simp only at hp
 obtain ⟨dst,op,ty,pos,af,gd⟩:=o
 split at hp
 ·rename_i t h3 h4
  simp only at h3 h4;subst h3;subst h4
  refine ⟨a.tmps.getD t undef,hY rfl rfl,?_⟩
  simp only [bG,Rv,Cg,Option.some.injEq] at hv
  subst hv
  exact h.2.tmps t
 ·rename_i x h3 h4
  simp only at h3 h4;subst h3;subst h4
  have e:=Bn h.2 x
  have fin:(∃ad,a.eval x= .pointer (some ad))->Yields P ops ⟨dst, .nilCheck x,ty,pos,af,none⟩ (a.eval x) a:= λ⟨ad,hx⟩=>
   .inl ⟨by simp [Region.wanted],λw=>by simp [execOp,hx]⟩
  simp only [bG,Rv,Cg] at hv
  split at hv
  ·rename_i fr τ y hx
   simp only [Option.some.injEq] at hv;subst hv
   rw [hx] at e
   have e':=e
   obtain ⟨cs,hc,hv⟩:=e
   simp only [Cells] at hc
   obtain ⟨g,o,rfl,_⟩:=hc
   simp only [Ar,Ty.Ab,Bool.false_eq_true,if_false,List.headD_cons] at hv
   exact ⟨_,fin ⟨_,hv⟩,e'⟩
  ·rename_i fr τ y hx
   simp only [Option.some.injEq] at hv;subst hv
   rw [hx] at e
   obtain ⟨cs,hc,hv⟩:=e
   simp only [Cells] at hc
   rcases hc with ⟨h0,_⟩|⟨y',g,o,h0,rfl,hr⟩
   ·cases h0
   simp only [Option.some.injEq] at h0;subst h0
   simp only [Ar,Ty.Ab,Bool.false_eq_true,if_false,List.headD_cons] at hv
   exact ⟨_,fin ⟨_,hv⟩,[_],⟨g,o,rfl,hr⟩,by rw [hv];simp [Ar,Ty.Ab]⟩
  ·rename_i l i hx
   simp only [Option.some.injEq] at hv;subst hv
   rw [hx] at e
   have e':=e
   obtain ⟨r,tid,vs,_,_,hv⟩:=e
   exact ⟨_,fin ⟨_,hv⟩,e'⟩
  ·rename_i l i hx
   simp only [Option.some.injEq] at hv;subst hv
   rw [hx] at e
   have e':=e
   obtain ⟨r,b,sz,n,_,_,_,_,hv⟩:=e
   exact ⟨_,fin ⟨_,hv⟩,e'⟩
  ·cases hv
 ·rename_i s x f h3 h4
  simp only at h3 h4;subst h3;subst h4
  simp only [bG,Rv,Cg] at hv
  obtain ⟨u,h1,h2⟩:=Wg hT (st:=st) _ _ _ _ v (Bn h.2 x) hv
  refine ⟨u, .inl ⟨by simp [Region.wanted],λw=>?_⟩,h2⟩
  have:=h1 w
  simp only [execOp,Sem.run_bind]
  first
   |(rw [this];rfl)
   |simp [this]
 ·cases hp
theorem uc {i:Nat} (h:tA ops i=true):dM ops i=true:=by
 unfold tA at h
 unfold dM
 split at h
 ·rename_i o ho
  split at h
  ·rename_i h1 h2
   simp only [h1,h2]
  ·cases h
 ·cases h
theorem Vx (hT:Bz P T) (q:Bool) {Q:Exit->Act->World->Prop} (hQ: ∀c a w,¬Q (.panic c) a w) (bD:Region.noSelect ops=true) {n:Nat} {st1:St} :
  ∀(l:List Nat) (Ac:Array Bool) (st:St) (a:Act) (w:World),Dx T Γ ops (Es q ops l Ac) st=some st1->Rel X st a w->
   (∀a w,Rel X st1 a w->wpAny P .any ops Q n (Ec (Es q ops l Ac) Ac) a w)->wpAny P .any ops Q ((Es q ops l Ac).length+n) Ac a w
 | [],Ac,st,a,w,he,hr,hK=>by
  simp only [Es,Dx,Option.some.injEq] at he
  subst he
  simp only [Es,List.length_nil,Nat.zero_add]
  exact hK a w hr
 |k::l,Ac,st,a,w,he,hr,hK=>by
  simp only [Es] at he hK⊢
  split
  ·rename_i hc
   rw [if_pos hc] at he hK
   simp only [Bool.and_eq_true] at hc
   obtain ⟨h0,h1,h2⟩:=hc
   have hp:dM ops k=true:=by
    cases q with
    |true=>exact h0
    |false=>exact uc h0
   simp only [Dx] at he
   split at he
   ·cases he
   rename_i o ho
   split at he
   rotate_left
   ·cases he
   rename_i v hv
   obtain ⟨π,hr⟩:=hr
   obtain ⟨u,hy,hu⟩:=xH (Γ:=Γ) hT hr ho hp hv
   rw [List.length_cons,show (Es q ops l (Ac.setIfInBounds k true)).length+1+n=((Es q ops l (Ac.setIfInBounds k true)).length+n)+1 by omega]
   refine wpAny_take ho bD h2 h1 (λc a w hq=>absurd hq (hQ c _ w)) hy ?_
   exact Vx hT q hQ bD l _ _ _ _ he ⟨π,hr.put o.dst hu⟩ hK
  ·rename_i hc
   rw [if_neg hc] at he hK
   exact Vx hT q hQ bD l Ac st a w he hr hK
theorem fu (hT:Bz P T) (Mg:Ia P Γ) {Q:Exit->Act->World->Prop} {K:St->Prop} (hK: ∀st a w,K st->Rel X st a w->Q .normal a w):
  ∀(f:Nat) (Ac:Array Bool) (st:St) (a:Act) (w:World),anyS T Γ ops K f Ac st->Rel X st a w->wpAny P .any ops Q f Ac a w
 |0,Ac,st,a,w,h,hr=>⟨h.1,hK _ _ _ h.2 hr⟩
 |f+1,Ac,st,a,w,h,hr=>by
  refine ⟨λh0=>absurd h0 h.1,λi hi=>?_⟩
  obtain ⟨o,st',ho,he,eP⟩:=h.2 i hi
  obtain ⟨π,hr⟩:=hr
  unfold wpOp
  simp only [ho]
  exact Uy hT Mg hr o he λa' w' h'=>fu hT Mg hK f _ _ _ _ eP h'
theorem AS (hT:Bz P T) (Mg:Ia P Γ) (hm:P.follows .mixedOrders=true) {Q:Exit->Act->World->Prop} {id:Nat} {draw:Bool} {st:St} {K:St->Prop} {a:Act} (h:Rel X st a w)
  (he:sC T Γ ops draw st K) (hQ: ∀st' a' w',K st'->Rel X st' a' w'->Q .normal a' w'):(Code.region id ops draw).wp P Q a w:=by
 rcases he with ⟨st',h1,h2⟩|⟨rfl,bD,br,h1,h2⟩
 ·exact jv hT Mg hm h h1 λa' w' h'=>hQ st' a' w' h2 h'
 ·refine wp_mono (Q:= λe a w=>e= .normal/\Q .normal a w) ?_ λe a w h=>h.1▸h.2
  refine wp_region_any hm ?_
  have hrel:Rel X st a {w with drawn:=w.drawn+1} :=by
   obtain ⟨π,h⟩:=h
   exact ⟨π,h.quiet ⟨rfl,rfl,rfl,Nat.le_refl _,λ_ _=>rfl⟩⟩
  have hlen:(Kb ops).length<=ops.size:=by
   have:=Xs (ops:=ops) (!dB false ops) (List.range ops.size) (Array.replicate ops.size false)
   rw [List.length_range] at this
   exact this
  have:=Vx hT (!dB false ops) (X:=X) (P:=P) (T:=T) (Γ:=Γ) (Q:= λe a w=>e= .normal/\Q .normal a w) (n:=ops.size-(Kb ops).length) (st1:=br) (λc a w hq=>by cases hq.1) bD (List.range ops.size) (Array.replicate ops.size false) st a _ h1 hrel λa' w' h'=>
   fu hT Mg (λst' a' w' hk hr=>⟨rfl,hQ st' a' w' hk hr⟩) _ _ _ _ _ h2 h'
  have e:(Es (!dB false ops) ops (List.range ops.size) (Array.replicate ops.size false)).length+(ops.size-(Kb ops).length)=ops.size:=by
   have e2:(Es (!dB false ops) ops (List.range ops.size) (Array.replicate ops.size false)).length=(Kb ops).length:=rfl
   omega
  rw [e] at this
  exact this
end
end Go.Proofs.YtfolipnappekaaaGreat
