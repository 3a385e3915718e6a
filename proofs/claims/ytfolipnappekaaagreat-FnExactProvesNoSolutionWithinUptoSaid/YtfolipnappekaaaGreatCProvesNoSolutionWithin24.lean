/-
  Part 25 of the proof that the statement FnExactProvesNoSolutionWithin holds.
-/
import Derived.Test.YtfolipnappekaaaGreatCProvesNoSolutionWithin23
namespace Go.Proofs.YtfolipnappekaaaGreat
open Go.RowKit
section
variable {P:Program} {T:Tab} {Γ:Env} {X:Ctx} {w w':World} {π:Pi} {ops:Array Oper} {hd tl:List Nat}
structure Ud (ops:Array Oper) (tl fl:List Nat) (Aa:Array Bool):Prop where
 size:Aa.size=ops.size
 done: ∀i,i∈fl->Aa.getD i false=true
 closed: ∀j oj,ops[j]?=some oj->Aa.getD j false=true-> ∀e∈oj.after,Region.binds .any e=true->Aa.getD e.on false=true
 tail: ∀t,t∈tl->Aa.getD t true=false
theorem Ud.set {fl:List Nat} {i:Nat} {Aa:Array Bool} (inv:Ud ops tl fl Aa) (hi:i∈Region.ready .any ops Aa) (dO:i∉tl):Ud ops tl fl (Aa.setIfInBounds i true):=by
 obtain ⟨_,oi,hoi,Fh⟩:=mem_ready.1 hi
 refine ⟨by simp [inv.size],λk hk=>getD_set_true (inv.done k hk),λj oj hj hl e he hb=>?_,λt ht=>by
  have Ek:i≠t:= λe=>dO (by rw [e];exact ht)
  rw [getD_set_ne true Ek];exact inv.tail t ht⟩
 by_cases dN:i=j
 ·subst dN
  have:oj=oi:=Option.some.inj (hj.symm.trans hoi)
  subst this
  exact getD_set_true (Fh e he hb)
 ·rw [getD_set_ne false dN] at hl
  exact getD_set_true (inv.closed j oj hj hl e he hb)
theorem DO (k:Nat) (r:List Nat) (h:(r.all λt=>(k::r).any λk=>Region.waitsFor .any ops t k)=true): ∀t,t∈r-> ∃k',(k'=k\/k'∈r)/\Region.waitsFor .any ops t k'=true:= λt ht=>by
 obtain ⟨k',h1,h2⟩:=List.any_eq_true.1 (List.all_eq_true.1 h t ht)
 exact ⟨k',List.mem_cons.1 h1,h2⟩
theorem BM {fl:List Nat} {Aa:Array Bool} (hs:r7 ops hd tl=true) (inv:Ud ops tl fl Aa) (Vp: ∀i,i∈hd->i<ops.size):
  ∀(d i:Nat),ops.size-i=d->i∈hd->Aa.getD i true=false-> ∀t,t∈tl->t∉Region.ready .any ops Aa:=by
 cases tl with
 |nil=>intro d i _ _ _ t ht;cases ht
 |cons f r=>
  simp only [r7,Bool.and_eq_true] at hs
  obtain ⟨bD,jl⟩:=hs
  intro d
  induction d using Nat.strongRecOn with
  |_ d ih=>
   intro i RJ hi lj t ht hr
   obtain ⟨_,ot,hot,Fh⟩:=mem_ready.1 hr
   rcases List.mem_cons.1 ht with rfl|jY
   ·have h1:=List.all_eq_true.1 bD i hi
    obtain ⟨j,hj,hj2⟩:=List.any_eq_true.1 h1
    simp only [Bool.and_eq_true,decide_eq_true_eq] at hj2
    obtain ⟨oj,hoj,e,he,hb,hon⟩:=Region.waitsFor_spec hj2.2
    rcases List.mem_cons.1 hj with rfl|XU
    ·have:oj=ot:=Option.some.inj (hoj.symm.trans hot)
     subst this
     have h2:=Fh e he hb
     rw [hon,getD_both lj] at h2
     cases h2
    ·cases hl:Aa.getD j false with
     |true=>
      have h2:=inv.closed j oj hoj hl e he hb
      rw [hon,getD_both lj] at h2
      cases h2
     |false=>
      have hjs:j<Aa.size:=by rw [inv.size];exact Vp j XU
      have:=Vp j XU
      exact ih (ops.size-j) (by omega) j rfl XU (getD_in hjs hl) t (by simp) hr
   ·obtain ⟨k',h1,h2⟩:=DO f r jl t jY
    obtain ⟨o',ho',e,he,hb,hon⟩:=Region.waitsFor_spec h2
    have:o'=ot:=Option.some.inj (ho'.symm.trans hot)
    subst this
    have h3:=Fh e he hb
    have hk:k'∈f::r:=by rcases h1 with rfl|h1<;>simp [*]
    rw [hon,getD_both (inv.tail k' hk)] at h3
    cases h3
def PY (T:Tab) (Γ:Env) (ops:Array Oper) (hd:List Nat) (L:Array Bool->St->Prop):Nat->Array Bool->St->Prop
 |0,Aa,st=>L Aa st
 |f+1,Aa,st=>
  Region.ready .any ops Aa≠ []/\ ∀i∈Region.ready .any ops Aa,i∈hd/\ ∃o v,ops[i]?=some o/\Rt T Γ ops st o=some v/\PY T Γ ops hd L f (Aa.setIfInBounds i true) (st.put o.dst v)
theorem yb (hT:By P T) (Kn:Gq P Γ) {Q:Exit->Act->World->Prop} {K:Act->World->Prop} {st:St} {a:Act} (h:Rel X st a w) {i:Nat} {o:Oper} {v:AV} (ho:ops[i]?=some o) (hv:Rt T Γ ops st o=some v)
  (hK: ∀a' w',Rel X (st.put o.dst v) a' w'->K a' w'):wpOp P ops Q i K a w:=by
 obtain ⟨π,h⟩:=h
 have run:Rv T Γ st o=some v->o.wp P a w K Q:= λhe=>nS (X:=X) (st':=st) (av:=v) (yN hT Kn h o v he) hK
 have skip:v= .at .skip->K (a.put o.dst undef) w:= λe=>by subst e;exact hK _ _ ⟨π,h.put o.dst AX⟩
 unfold wpOp
 simp only [ho]
 unfold Rt at hv
 split at hv
 ·rename_i hg
  rw [if_pos (by simp [Region.wanted,hg])]
  exact .inl (run hv)
 ·rename_i j want hg
  split at hv
  ·rename_i b hb
   have hy:=(bt h j).1 b hb
   split at hv
   ·rename_i RI
    rw [if_pos (by simp only [Region.wanted,hg,hy];simpa using RI)]
    exact .inl (run hv)
   ·rename_i RI
    rw [if_neg (by simp only [Region.wanted,hg,hy];simpa using RI)]
    simp only [Option.some.injEq] at hv
    exact skip hv.symm
  ·rename_i hb
   have hy:=(bt h j).2 hb
   rw [if_neg (by simp [Region.wanted,hg,hy])]
   simp only [Option.some.injEq] at hv
   exact skip hv.symm
  ·cases hv
theorem im (hT:By P T) (Kn:Gq P Γ) {g:Nat} {L:Array Bool->St->Prop} {Q:Exit->Act->World->Prop} (hL: ∀Aa st a w,L Aa st->Rel X st a w->wpAny P .any ops Q g Aa a w):
  ∀(f:Nat) (Aa:Array Bool) (st:St) (a:Act) (w:World),PY T Γ ops hd L f Aa st->Rel X st a w->wpAny P .any ops Q (f+g) Aa a w
 |0,Aa,st,a,w,h,hr=>by rw [Nat.zero_add];exact hL _ _ _ _ h hr
 |f+1,Aa,st,a,w,h,hr=>by
  rw [show f+1+g=(f+g)+1 by omega]
  refine ⟨λh0=>absurd h0 h.1,λi hi=>?_⟩
  obtain ⟨_,o,v,ho,hv,cD⟩:=h.2 i hi
  exact yb hT Kn hr ho hv λa' w' h'=>im hT Kn hL f _ _ _ _ cD h'
theorem CU {fl:List Nat} {i:Nat} {oi:Oper} {v:AV} {L:Array Bool->St->Prop} (hi:ops[i]?=some oi) (hs:r7 ops hd tl=true) (Vp: ∀i,i∈hd->i<ops.size) (dO:i∈hd)
  (Fh: ∀j,j<ops.size->j∈fl\/j∈hd\/j∈tl) (zb: ∀j,j∈hd->j∉tl) (Agh: ∀Aa st,L Aa st-> ∀j∈Region.ready .any ops Aa,j∈tl):
  ∀(f:Nat) (Aa:Array Bool) (st:St),Ud ops tl fl Aa->
   (∀j oj,ops[j]?=some oj->j≠i->Aa.getD j true=false->(∀e∈oj.after,Region.binds .any e=true->e.on≠i)->oi.apart ops oj=true)->
   i∈Region.ready .any ops Aa->Rt T Γ ops st oi=some v->
   PY T Γ ops hd L f (Aa.setIfInBounds i true) (st.put oi.dst v)->PY T Γ ops hd L (f+1) Aa st:=by
 intro f
 have Ai1: ∀Aa,Ud ops tl fl Aa->i∈Region.ready .any ops Aa-> ∀j,j∈Region.ready .any ops Aa->j∈hd:=by
  intro Aa inv hr j hj
  obtain ⟨lj,oj,hoj,_⟩:=mem_ready.1 hj
  rcases Fh j (Array.getElem?_eq_some_iff.1 hoj).1 with h|h|h
  ·have h1:=inv.done j h
   rw [getD_both lj] at h1;cases h1
  ·exact h
  ·exact absurd hj (BM hs inv Vp _ i rfl dO (mem_ready.1 hr).1 j h)
 induction f with
 |zero=>
  intro Aa st inv _ hr hv Hh
  refine ⟨λh=>(by rw [h] at hr;cases hr),λj hj=>?_⟩
  have XU:=Ai1 Aa inv hr j hj
  refine ⟨XU,?_⟩
  by_cases sr:j=i
  ·subst sr;exact ⟨oi,v,hi,hv,Hh⟩
  ·exact absurd (Agh _ _ Hh j (ready_mono hj sr)) (zb j XU)
 |succ f ih=>
  intro Aa st inv jT hr hv Hh
  have lj:=(mem_ready.1 hr).1
  refine ⟨λh=>(by rw [h] at hr;cases hr),λj hj=>?_⟩
  have XU:=Ai1 Aa inv hr j hj
  refine ⟨XU,?_⟩
  by_cases sr:j=i
  ·subst sr;exact ⟨oi,v,hi,hv,Hh⟩
  ·obtain ⟨_,oj,vj,hoj,hvj,cD⟩:=Hh.2 j (ready_mono hj sr)
   obtain ⟨Agr,oj',Amp,Ag8⟩:=mem_ready.1 hj
   have:oj'=oj:=Option.some.inj (Amp.symm.trans hoj)
   subst this
   have pZ: ∀e∈oj'.after,Region.binds .any e=true->e.on≠i:= λe he hb heq=>by
    have h1:=Ag8 e he hb
    rw [heq,getD_both lj] at h1
    cases h1
   obtain ⟨p1,p2,p3⟩:=Oper.apart_spec (jT j oj' hoj sr Agr pZ)
   rw [BS p1] at hvj
   refine ⟨oj',vj,hoj,hvj,?_⟩
   have Aca: ∀k ok,ops[k]?=some ok->k≠i->(Aa.setIfInBounds j true).getD k true=false->
     (∀e∈ok.after,Region.binds .any e=true->e.on≠i)->oi.apart ops ok=true:= λk ok hk hki Ahp hno=>by
    refine jT k ok hk hki ?_ hno
    by_cases hjk:j=k
    ·subst hjk;exact Agr
    ·rw [getD_set_ne true hjk] at Ahp;exact Ahp
   refine ih (Aa.setIfInBounds j true) (st.put oj'.dst vj) (inv.set hj (zb j XU)) Aca (ready_mono hr (Ne.symm sr)) (by rw [BS p3];exact hv) ?_
   rw [Array.setIfInBounds_comm _ _ sr,<-St.put_comm st v vj p2]
   exact cD
theorem nH: ∀(l:List Nat) (Aa:Array Bool),kJ ops l Aa=true-> ∀j∈Region.ready .any ops Aa,j∈l
 | [],Aa,h,j,hj=>by simp only [kJ,List.isEmpty_iff] at h;rw [h] at hj;cases hj
 |k::r,Aa,h,j,hj=>by
  simp only [kJ,Bool.and_eq_true,Bool.or_eq_true,decide_eq_true_eq] at h
  rcases h.1 with h1|h1
  ·rw [h1] at hj
   simp at hj
   simp [hj]
  ·by_cases e:j=k
   ·simp [e]
   ·exact List.mem_cons_of_mem _ (nH r _ h.2 j (ready_mono hj e))
theorem yg {fl:List Nat} (Xn:Region.noSelect ops=true) (hs:r7 ops hd tl=true) (Vp: ∀i,i∈hd->i<ops.size) (Fh: ∀j,j<ops.size->j∈fl\/j∈hd\/j∈tl) (zb: ∀j,j∈hd->j∉tl) (st':St):
  ∀(l:List Nat) (Aa:Array Bool) (st:St),(∀i,i∈l->i∈hd)->Ud ops tl fl Aa->lM ops tl l Aa=true->Cw T Γ ops l st=some st'->
  PY T Γ ops hd (λwG s=>kJ ops tl wG=true/\s=st') l.length Aa st
 | [],Aa,st,_,_,hB,he=>by
  simp only [Cw,Option.some.injEq] at he
  exact ⟨by simpa [lM] using hB,he⟩
 |k::l,Aa,st,hl,inv,hB,he=>by
  simp only [lM,Bool.and_eq_true] at hB
  obtain ⟨⟨hr,hf⟩,hB'⟩:=hB
  have hkh:=hl k (by simp)
  have bk:k∈Region.ready .any ops Aa:=by simpa using hr
  simp only [Cw] at he
  split at he
  ·cases he
  ·rename_i o ho
   split at he
   ·rename_i v hv
    exact CU ho hs Vp hkh Fh zb (λwG s hL=>nH tl wG hL.1) l.length Aa st inv (Region.free_spec ho hf) bk hv
     (yg Xn hs Vp Fh zb st' l _ _ (λi hi=>hl i (by simp [hi])) (inv.set bk (zb k hkh)) hB' he)
   ·cases he
theorem w5 {Q:Exit->Act->World->Prop} (hQ: ∀e a w,Q e a w->e= .normal) {k i:Nat} {x:Operand} {o:Oper} (ho:ops[k]?=some o) (oM:o.op= .extract x i) (hg:o.guard=none) {K:Act->World->Prop} {a:Act} {w:World}
  (h:wpOp P ops Q k K a w): ∃v,Yields P ops o v a/\K (a.put o.dst v) w:=by
 unfold wpOp at h
 simp only [ho] at h
 have hw:Region.wanted o (yielded ops a.tmps)=true:=by simp [Region.wanted,hg]
 rw [if_pos hw] at h
 rcases h with h|⟨_,a',w',h⟩
 ·unfold Oper.wp at h
  have hr: ∀w,(execOp a.eval o).run P w=(do pure (Next.value (<-Instr.extract (a.eval x) i))).run P w:= λw=>by unfold execOp;rw [oM]
  rw [hr] at h
  unfold Instr.extract at h hr
  split at h
  ·rename_i vs hx
   split at h
   ·rename_i v hv
    rw [hx] at hr
    simp only [hv] at hr
    exact ⟨v, .inl ⟨hw,λw=>(hr w).trans rfl⟩,h⟩
   ·exact h.elim
  ·exact h.elim
 ·cases hQ _ _ _ h
theorem al {Q:Exit->Act->World->Prop} (hQ: ∀e a w,Q e a w->e= .normal) (Xn:Region.noSelect ops=true): ∀(l:List Nat) (Aa:Array Bool) (a:Act) (w:World),kJ ops l Aa=true->wpOps P ops Q l a w->wpAny P .any ops Q l.length Aa a w
 | [],Aa,a,w,hB,h=>⟨by simpa [kJ] using hB,h⟩
 |k::r,Aa,a,w,hB,h=>by
  simp only [kJ,Bool.and_eq_true,Bool.or_eq_true,decide_eq_true_eq] at hB
  rw [wpOps_cons] at h
  rcases hB.1 with h0|⟨h1,h2,h3⟩
  ·refine ⟨λh1=>(by rw [h0] at h1;cases h1),λi hi=>?_⟩
   rw [h0] at hi
   have hik:i=k:=by simpa using hi
   subst hik
   exact wpOp_mono (λa' w' h'=>al hQ Xn r _ a' w' hB.2 h') h
  ·unfold SX at h1
   split at h1
   ·rename_i o ho
    split at h1
    ·rename_i x i oM hg
     obtain ⟨v,hy,hk⟩:=w5 hQ ho oM hg h
     exact wpAny_take ho Xn h3 h2 (λc a w hq=>by cases hQ _ _ _ hq) hy (al hQ Xn r _ _ w hB.2 hk)
    ·cases h1
   ·cases h1
theorem jP {P:Program} {o:Oper} {t:Tmp} {a:Act} (h:o.op= .move (.tmp t)) (hg:o.guard=none):Yields P ops o (a.tmps.getD t undef) a:=by
 refine .inl ⟨by simp [Region.wanted,hg],λw=>?_⟩
 unfold execOp
 rw [h]
 rfl
theorem wv {hd tl:List Nat} {i:Nat} (h:ka ops hd tl i=true): ∃o t,ops[i]?=some o/\o.op= .move (.tmp t)/\o.guard=none:=by
 unfold ka at h
 split at h
 ·rename_i o ho
  simp only [Bool.and_eq_true] at h
  have h1:=h.1
  split at h1
  ·rename_i t h2 h3
   exact ⟨o,t,ho,h2,h3⟩
  ·cases h1
 ·cases h
theorem cT {q:Bool} {hd:List Nat} {Q:Exit->Act->World->Prop} (hQ: ∀c a w,¬Q (.panic c) a w) (Xn:Region.noSelect ops=true) {n:Nat} {st1:St}
  (cD: ∀Aa st a w,(∀j oj,ops[j]?=some oj->Aa.getD j false=true-> ∀e∈oj.after,Region.binds .any e=true->Aa.getD e.on false=true)->Aa.size=ops.size->lM ops tl hd Aa=true->st=st1->Rel X st a w->
   (∀j,Aa.getD j false=true↔j∈Qs q Γ ops)->wpAny P .any ops Q n Aa a w):
  ∀(l dn:List Nat) (Aa:Array Bool) (st:St) (a:Act) (w:World),(∀j,j∈Qs q Γ ops↔j∈dn\/j∈l)->(∀i,i∈l-> ∃o t,ops[i]?=some o/\o.op= .move (.tmp t)/\o.guard=none)->
   (∀j oj,ops[j]?=some oj->Aa.getD j false=true-> ∀e∈oj.after,Region.binds .any e=true->Aa.getD e.on false=true)->Aa.size=ops.size->(∀j,Aa.getD j false=true↔j∈dn)->
   jO ops tl hd l Aa=true->Cw T Γ ops l st=some st1->Rel X st a w->wpAny P .any ops Q (l.length+n) Aa a w
 | [],dn,Aa,st,a,w,hm,_,hc,Vp,hdn,hf,he,hr=>by
  simp only [Cw,Option.some.injEq] at he
  rw [List.length_nil,Nat.zero_add]
  exact cD Aa st a w hc Vp (by simpa [jO] using hf) he hr λj=>by rw [hdn j,hm j];simp
 |k::l,dn,Aa,st,a,w,hm,hl,hc,Vp,hdn,hf,he,hr=>by
  simp only [jO,Bool.and_eq_true] at hf
  obtain ⟨⟨h1,h2⟩,h3⟩:=hf
  obtain ⟨o,t,ho,oM,hg⟩:=hl k (by simp)
  have su:k∈Region.ready .any ops Aa:=by simpa using h1
  obtain ⟨_,o',ho',Fh⟩:=mem_ready.1 su
  have ho2:o'=o:=Option.some.inj (ho'.symm.trans ho)
  subst ho2
  have hks:k<Aa.size:=by rw [Vp];exact (Array.getElem?_eq_some_iff.1 ho).1
  simp only [Cw,ho] at he
  have hv:Rt T Γ ops st o'=some (st.get t):=by simp only [Rt,hg,Rv,Cm,oM];rfl
  rw [hv] at he
  rw [List.length_cons,show l.length+1+n=(l.length+n)+1 by omega]
  refine wpAny_take ho Xn h2 h1 (λc a w hq=>absurd hq (hQ c _ w)) (jP oM hg) ?_
  obtain ⟨π,hr⟩:=hr
  refine cT hQ Xn cD l (k::dn) _ _ _ _ (λj=>by rw [hm j,List.mem_cons,List.mem_cons];exact ⟨λh=>h.elim (λh=> .inl (.inr h)) (λh=>h.elim (λh=> .inl (.inl h)) .inr),λh=>h.elim (λh=>h.elim (λh=> .inr (.inl h)) .inl) (λh=> .inr (.inr h))⟩) (λi hi=>hl i (by simp [hi])) ?_ (by simp [Vp]) (λj=>?_) h3 he ⟨π,hr.put o'.dst (hr.2.tmps t)⟩
  ·intro j oj hj PW e hem hb
   by_cases PV:k=j
   ·subst PV
    have:oj=o':=Option.some.inj (hj.symm.trans ho)
    subst this
    exact getD_set_true (Fh e hem hb)
   ·rw [getD_set_ne false PV] at PW
    exact getD_set_true (hc j oj hj PW e hem hb)
  ·by_cases PV:k=j
   ·subst PV
    refine ⟨λ_=>by simp,λ_=>?_⟩
    simp [hks]
   ·rw [getD_set_ne false PV,hdn j]
    simp [Ne.symm PV]
theorem cB {ops:Array Oper} : ∀(a b:List Nat) (st st':St),Cw T Γ ops (a++b) st=some st'-> ∃s,Cw T Γ ops a st=some s/\Cw T Γ ops b s=some st'
 | [],b,st,st',h=>⟨st,rfl,h⟩
 |i::a,b,st,st',h=>by
  simp only [List.cons_append,Cw] at h⊢
  split at h
  ·cases h
  ·split at h
   ·exact cB a b _ st' h
   ·cases h
theorem lF (hT:By P T) (Kn:Gq P Γ) (hm:P.follows .mixedOrders=true) {Q:Exit->Act->World->Prop} {id:Nat} {draw:Bool} {st st':St} {a:Act} (h:Rel X st a w)
  (he:Mm T Γ ops draw st=some st') (hQ: ∀a' w',Rel X st' a' w'->Q .normal a' w'):(Code.region id ops draw).wp P Q a w:=by
 unfold Mm at he
 cases draw with
 |false=>
  rw [if_neg (by simp)] at he
  exact wp_region_list (gE hT Kn ops.toList st st' a w h he hQ)
 |true=>
  rw [if_pos rfl] at he
  have go: ∀(q:Bool),fH q Γ ops=true->(match Cw T Γ ops (fk q Γ ops) st with
    |some st'=>Ij T Γ ops (Fg q Γ ops) st'
    |none=>none)=some st'->(Code.region id ops true).wp P Q a w:=by
   intro q dP he
   split at he
   ·rename_i st1 h1
    simp only [fH,Bool.and_eq_true,beq_iff_eq] at dP
    obtain ⟨⟨⟨Xn,hlen⟩,Ac8⟩,Ahj⟩:=dP
    refine wp_mono (Q:= λe a w=>e= .normal/\Q .normal a w) ?_ λe a w h=>h.1▸h.2
    refine wp_region_any hm ?_
    have hrel:Rel X st a {w with drawn:=w.drawn+1} :=by
     obtain ⟨π,h⟩:=h
     exact ⟨π,h.quiet ⟨rfl,rfl,rfl,Nat.le_refl _,λ_ _=>rfl⟩⟩
    obtain ⟨s0,h0,h1⟩:=cB _ _ _ _ h1
    have dO: ∀i,i∈Za q Γ ops->i<ops.size:= λi hi=>List.mem_range.1 (List.mem_filter.1 hi).1
    have Vp: ∀i,i∈Qu q Γ ops->i<ops.size:= λi hi=>dO i (List.mem_filter.1 hi).1
    have Fh: ∀j,j<ops.size->j∈Qs q Γ ops\/j∈Qu q Γ ops\/j∈Fg q Γ ops:= λj hj=>by
     by_cases ht:j∈Fg q Γ ops
     ·exact .inr (.inr ht)
     ·have hh:j∈Za q Γ ops:=List.mem_filter.2 ⟨List.mem_range.2 hj,by simpa using ht⟩
      cases PT:ka ops (Za q Γ ops) (Fg q Γ ops) j with
      |true=>exact .inl (List.mem_filter.2 ⟨hh,PT⟩)
      |false=>exact .inr (.inl (List.mem_filter.2 ⟨hh,by rw [PT];rfl⟩))
    have Aad: ∀j,j∈Za q Γ ops->j∉Fg q Γ ops:= λj hj=>by
     have:=(List.mem_filter.1 hj).2
     simpa using this
    have zb: ∀j,j∈Qu q Γ ops->j∉Fg q Γ ops:= λj hj=>Aad j (List.mem_filter.1 hj).1
    have Agf: ∀j,j∈Qs q Γ ops->j∉Fg q Γ ops:= λj hj=>Aad j (List.mem_filter.1 hj).1
    have htl: ∀t,t∈Fg q Γ ops->t<ops.size:=by
     intro t ht
     unfold Fg at ht
     have: ∀(l:List Nat) (acc:List Nat),(∀i,i∈acc->i<ops.size)->(∀i,i∈l->i<ops.size)-> ∀i,i∈l.foldl (init:=acc) (λacc i=>match ops[i]? with
       |some o=>if TG q Γ o||o.after.any (λe=>Region.binds .any e&&acc.contains e.on) then acc++ [i] else acc
       |none=>acc)->i<ops.size:=by
      intro l
      induction l with
      |nil=>intro acc h1 _ i hi;exact h1 i hi
      |cons x l ih=>
       intro acc h1 h2 i hi
       simp only [List.foldl_cons] at hi
       refine ih _ ?_ (λi hi=>h2 i (by simp [hi])) i hi
       intro k hk
       split at hk
       ·split at hk
        ·rcases List.mem_append.1 hk with hk|hk
         ·exact h1 k hk
         ·simp at hk;rw [hk];exact h2 x (by simp)
        ·exact h1 k hk
       ·exact h1 k hk
     exact this (List.range ops.size) [] (by simp) (λi hi=>List.mem_range.1 hi) t ht
    rw [<-hlen]
    refine cT (q:=q) (X:=X) (T:=T) (Γ:=Γ) (tl:=Fg q Γ ops) (hd:=Qu q Γ ops) (st1:=s0) (λc a w hq=>by cases hq.1) Xn ?_ (Qs q Γ ops) [] _ st a _ (λj=>by simp)
     (λi hi=>wv (List.mem_filter.1 hi).2) (λj oj _ hl=>(by rw [hlen,getD_replicate_false] at hl;cases hl)) (by simp [hlen]) (λj=>by rw [hlen,getD_replicate_false];simp) (by rw [hlen];exact Ac8) h0 hrel
    intro Aa s a' w' hc nf Agq hs hr PT
    subst hs
    have Ann:Ud ops (Fg q Γ ops) (Qs q Γ ops) Aa:=
     ⟨nf,λi hi=>(PT i).2 hi,hc,λt ht=>getD_in (by rw [nf];exact htl t ht) (by
      cases hg:Aa.getD t false with
      |false=>rfl
      |true=>exact absurd ht (Agf t ((PT t).1 hg)))⟩
    have HA:=yg (T:=T) (Γ:=Γ) Xn Ahj Vp Fh zb st1 (Qu q Γ ops) _ s (λi hi=>hi) Ann Agq h1
    exact im (X:=X) (P:=P) (Q:= λe a w=>e= .normal/\Q .normal a w) (g:=(Fg q Γ ops).length) hT Kn (λAa s a' w' hL hr=>by
     obtain ⟨An1,rfl⟩:=hL
     exact al (λe a w h=>h.1) Xn (Fg q Γ ops) Aa a' w' An1 (gA hT Kn _ _ st' a' w' hr he λa w h=>⟨rfl,hQ a w h⟩)) _ _ _ _ _ HA hr
   ·cases he
  split at he
  ·rename_i dP;exact go false dP he
  ·split at he
   ·rename_i dP;exact go true dP he
   ·cases he
theorem ae (q:Bool): ∀(l:List Nat) (Aa:Array Bool),(Fc q ops l Aa).length<=l.length
 | [],_=>Nat.le_refl _
 |i::r,Aa=>by
  simp only [Fc]
  split
  ·simp only [List.length_cons];have:=ae q r (Aa.setIfInBounds i true);omega
  ·simp only [List.length_cons];have:=ae q r Aa;omega
theorem AM (hT:By P T) {st:St} {a:Act} (h:Ak X π st a w) {i:Nat} {o:Oper} (ho:ops[i]?=some o) (hp:fw ops i=true) {v:AV} (hv:Rt T Γ ops st o=some v):
  ∃u,Yields P ops o u a/\Ao X w π st.heap v u:=by
 unfold fw at hp
 rw [ho] at hp
 simp only at hp
 obtain ⟨dst,op,ty,pos,af,gd⟩:=o
 split at hp
 ·rename_i t h3 h4
  simp only at h3 h4;subst h3;subst h4
  refine ⟨a.tmps.getD t undef,jP rfl rfl,?_⟩
  simp only [Rt,Rv,Cm,Option.some.injEq] at hv
  subst hv
  exact h.2.tmps t
 ·rename_i x h3 h4
  simp only at h3 h4;subst h3;subst h4
  have e:=Bq h.2 x
  have fin:(∃ad,a.eval x= .pointer (some ad))->Yields P ops ⟨dst, .nilCheck x,ty,pos,af,none⟩ (a.eval x) a:= λ⟨ad,hx⟩=>
   .inl ⟨by simp [Region.wanted],λw=>by simp [execOp,hx]⟩
  simp only [Rt,Rv,Cm] at hv
  split at hv
  ·rename_i fr τ y hx
   simp only [Option.some.injEq] at hv;subst hv
   rw [hx] at e
   have e':=e
   obtain ⟨cs,hc,hv⟩:=e
   simp only [Cells] at hc
   obtain ⟨g,o,rfl,_⟩:=hc
   simp only [Au,Ty.Ac,Bool.false_eq_true,if_false,List.headD_cons] at hv
   exact ⟨_,fin ⟨_,hv⟩,e'⟩
  ·rename_i fr τ y hx
   simp only [Option.some.injEq] at hv;subst hv
   rw [hx] at e
   obtain ⟨cs,hc,hv⟩:=e
   simp only [Cells] at hc
   rcases hc with ⟨h0,_⟩|⟨y',g,o,h0,rfl,hr⟩
   ·cases h0
   simp only [Option.some.injEq] at h0;subst h0
   simp only [Au,Ty.Ac,Bool.false_eq_true,if_false,List.headD_cons] at hv
   exact ⟨_,fin ⟨_,hv⟩,[_],⟨g,o,rfl,hr⟩,by rw [hv];simp [Au,Ty.Ac]⟩
  ·rename_i l i hx
   simp only [Option.some.injEq] at hv;subst hv
   rw [hx] at e
   have e':=e
   obtain ⟨r,tid,vs,_,_,hv⟩:=e
   exact ⟨_,fin ⟨_,hv⟩,e'⟩
  ·rename_i l i hx
   simp only [Option.some.injEq] at hv;subst hv
   rw [hx] at e
   have e':=e
   obtain ⟨r,b,sz,n,_,_,_,_,hv⟩:=e
   exact ⟨_,fin ⟨_,hv⟩,e'⟩
  ·cases hv
 ·rename_i s x f h3 h4
  simp only at h3 h4;subst h3;subst h4
  simp only [Rt,Rv,Cm] at hv
  obtain ⟨u,h1,h2⟩:=Yt hT (st:=st) _ _ _ _ v (Bq h.2 x) hv
  refine ⟨u, .inl ⟨by simp [Region.wanted],λw=>?_⟩,h2⟩
  have:=h1 w
  simp only [execOp,Sem.run_bind]
  first
   |(rw [this];rfl)
   |simp [this]
 ·cases hp
theorem x7 {i:Nat} (h:wx ops i=true):fw ops i=true:=by
 unfold wx at h
 unfold fw
 split at h
 ·rename_i o ho
  split at h
  ·rename_i h1 h2
   simp only [h1,h2]
  ·cases h
 ·cases h
theorem Yh (hT:By P T) (q:Bool) {Q:Exit->Act->World->Prop} (hQ: ∀c a w,¬Q (.panic c) a w) (Xn:Region.noSelect ops=true) {n:Nat} {st1:St} :
  ∀(l:List Nat) (Aa:Array Bool) (st:St) (a:Act) (w:World),Cw T Γ ops (Fc q ops l Aa) st=some st1->Rel X st a w->
   (∀a w,Rel X st1 a w->wpAny P .any ops Q n (Cr (Fc q ops l Aa) Aa) a w)->wpAny P .any ops Q ((Fc q ops l Aa).length+n) Aa a w
 | [],Aa,st,a,w,he,hr,hK=>by
  simp only [Fc,Cw,Option.some.injEq] at he
  subst he
  simp only [Fc,List.length_nil,Nat.zero_add]
  exact hK a w hr
 |k::l,Aa,st,a,w,he,hr,hK=>by
  simp only [Fc] at he hK⊢
  split
  ·rename_i hc
   rw [if_pos hc] at he hK
   simp only [Bool.and_eq_true] at hc
   obtain ⟨h0,h1,h2⟩:=hc
   have hp:fw ops k=true:=by
    cases q with
    |true=>exact h0
    |false=>exact x7 h0
   simp only [Cw] at he
   split at he
   ·cases he
   rename_i o ho
   split at he
   rotate_left
   ·cases he
   rename_i v hv
   obtain ⟨π,hr⟩:=hr
   obtain ⟨u,hy,hu⟩:=AM (Γ:=Γ) hT hr ho hp hv
   rw [List.length_cons,show (Fc q ops l (Aa.setIfInBounds k true)).length+1+n=((Fc q ops l (Aa.setIfInBounds k true)).length+n)+1 by omega]
   refine wpAny_take ho Xn h2 h1 (λc a w hq=>absurd hq (hQ c _ w)) hy ?_
   exact Yh hT q hQ Xn l _ _ _ _ he ⟨π,hr.put o.dst hu⟩ hK
  ·rename_i hc
   rw [if_neg hc] at he hK
   exact Yh hT q hQ Xn l Aa st a w he hr hK
theorem iq (hT:By P T) (Kn:Gq P Γ) {Q:Exit->Act->World->Prop} {K:St->Prop} (hK: ∀st a w,K st->Rel X st a w->Q .normal a w):
  ∀(f:Nat) (Aa:Array Bool) (st:St) (a:Act) (w:World),anyS T Γ ops K f Aa st->Rel X st a w->wpAny P .any ops Q f Aa a w
 |0,Aa,st,a,w,h,hr=>⟨h.1,hK _ _ _ h.2 hr⟩
 |f+1,Aa,st,a,w,h,hr=>by
  refine ⟨λh0=>absurd h0 h.1,λi hi=>?_⟩
  obtain ⟨o,st',ho,he,cD⟩:=h.2 i hi
  obtain ⟨π,hr⟩:=hr
  unfold wpOp
  simp only [ho]
  exact Qq hT Kn hr o he λa' w' h'=>iq hT Kn hK f _ _ _ _ cD h'
def On (ops:Array Oper) (Aa:Array Bool):Prop:= ∀k a,Aa.getD k false=true->Region.waitsFor .any ops k a=true->Aa.getD a false=true
theorem Zf {Aa:Array Bool} {i a:Nat} (h:i∈Region.ready .any ops Aa) (hw:Region.waitsFor .any ops i a=true):Aa.getD a false=true:=by
 obtain ⟨_,o,ho,Fh⟩:=mem_ready.1 h
 obtain ⟨o',ho',e,he,hb,rfl⟩:=Region.waitsFor_spec hw
 rw [ho] at ho'
 cases ho'
 exact Fh e he hb
theorem On.set {Aa:Array Bool} (hc:On ops Aa) {i:Nat} (hi:i∈Region.ready .any ops Aa):On ops (Aa.setIfInBounds i true):= λk a hk hw=>by
 by_cases hik:i=k
 ·subst hik
  exact getD_set_true (Zf hi hw)
 ·rw [getD_set_ne false hik] at hk
  exact getD_set_true (hc k a hk hw)
theorem mR:On ops (Array.replicate ops.size false):= λk a hk _=>by
 rw [getD_replicate_false] at hk
 cases hk
theorem Vx (q:Bool): ∀(l:List Nat) (Aa:Array Bool),On ops Aa->On ops (Cr (Fc q ops l Aa) Aa)
 | [],Aa,h=>h
 |i::r,Aa,h=>by
  simp only [Fc]
  split
  ·rename_i hc
   rw [Bool.and_eq_true,Bool.and_eq_true] at hc
   have hi:i∈Region.ready .any ops Aa:=by simpa using hc.2.1
   exact Vx q r _ (h.set hi)
  ·exact Vx q r Aa h
theorem Qx: ∀(l:List Nat) (Aa:Array Bool),(Cr l Aa).size=Aa.size
 | [],_=>rfl
 |i::r,Aa=>by simp only [Cr];rw [Qx r];simp
theorem bI: ∀(l:List Nat) (Aa:Array Bool) (k:Nat),k∈l->k<Aa.size->(Cr l Aa).getD k false=true
 |i::r,Aa,k,h,hk=>by
  simp only [Cr]
  by_cases hr:k∈r
  ·exact bI r _ k hr (by simpa using hk)
  ·have:k=i:=(List.mem_cons.1 h).resolve_right hr
   subst this
   have hs: ∀(l:List Nat) (A:Array Bool),A.getD k false=true->(Cr l A).getD k false=true:=by
    intro l
    induction l with
    |nil=>exact λA h=>h
    |cons j l ih=>exact λA h=>ih _ (getD_set_true h)
   exact hs r _ (by simp [hk])
theorem a8: ∀(l:List Nat) (Aa:Array Bool) (k:Nat),k∉l->(Cr l Aa).getD k false=Aa.getD k false
 | [],_,_,_=>rfl
 |i::r,Aa,k,h=>by
  simp only [Cr]
  rw [a8 r _ k λhk=>h (List.mem_cons_of_mem _ hk),getD_set_ne false (λe=>h (by rw [e];simp))]
def Hk (E:List Nat) (Aa:Array Bool):List Nat:=E.filter λr=>!Aa.getD r false
def Zy (ops:Array Oper) (r:Nat):Option Tmp:=(ops[r]?).bind (·.dst)
def gz (ops:Array Oper) (Q:List Nat):List Nat:=Q.filterMap (Zy ops)
def Mt (ops:Array Oper):List Nat->St->St
 | [],st=>st
 |r::Q,st=>(Mt ops Q st).put (Zy ops r) .undef
def LC (ops:Array Oper):List Nat->Act->Act->Prop
 | [],a,a'=>a'=a
 |r::Q,a,a'=> ∃u,LC ops Q (a.put (Zy ops r) u) a'
theorem VV {H:List (Nat×OB)} {v:Value} :Ao X w π H .undef v:=trivial
theorem dM (s:St) (d:Option Tmp) (v:AV) (t:Nat):(d=some t->(s.put d v).get t=v\/(s.put d v).get t= .undef)/\(d≠some t->(s.put d v).get t=s.get t):=by
 cases d with
 |none=>exact ⟨λh=>(by cases h),λ_=>rfl⟩
 |some e=>
  have key:(s.put (some e) v).get t=if e=t/\t<s.tmps.length then v else s.get t:=Lr _ _ _ _ _
  refine ⟨λh=>?_,λh=>?_⟩
  ·cases h
   rw [key]
   by_cases hl:t<s.tmps.length
   ·rw [if_pos ⟨rfl,hl⟩];exact .inl rfl
   ·rw [if_neg (λh=>hl h.2)]
    exact .inr (by unfold St.get;rw [List.getD_eq_getElem?_getD,List.getElem?_eq_none (by omega)];rfl)
  ·rw [key,if_neg]
   rintro ⟨rfl,_⟩
   exact h rfl
theorem fI (s:St) (d:Option Tmp) (v:AV):(s.put d v).heap=s.heap:=by cases d<;>rfl
theorem kz (s:St) (d:Option Tmp) (v:AV):(s.put d v).tmps.length=s.tmps.length:=by
 cases d with
 |none=>rfl
 |some d=>exact Ut _ _ _
theorem Ln: ∀(Q:List Nat) (st:St),(Mt ops Q st).heap=st.heap
 | [],_=>rfl
 |r::Q,st=>by simp only [Mt];rw [fI,Ln Q]
theorem Qz: ∀(Q:List Nat) (st:St),(Mt ops Q st).tmps.length=st.tmps.length
 | [],_=>rfl
 |r::Q,st=>by simp only [Mt];rw [kz,Qz Q]
theorem Hb {Q:List Nat} {t:Nat} :t∈gz ops Q↔ ∃r∈Q,Zy ops r=some t:=List.mem_filterMap
theorem Mu: ∀(Q:List Nat) (st:St) (t:Nat),(t∈gz ops Q->(Mt ops Q st).get t= .undef)/\(t∉gz ops Q->(Mt ops Q st).get t=st.get t)
 | [],st,t=>⟨λh=>by simp [gz] at h,λ_=>rfl⟩
 |r::Q,st,t=>by
  obtain ⟨h1,h2⟩:=Mu Q st t
  obtain ⟨g1,g2⟩:=dM (Mt ops Q st) (Zy ops r) .undef t
  simp only [Mt]
  by_cases hd:Zy ops r=some t
  ·refine ⟨λ_=>(g1 hd).elim id id,λh=>absurd (Hb.2 ⟨r,List.mem_cons_self ..,hd⟩) h⟩
  ·refine ⟨λh=>?_,λh=>?_⟩
   ·rw [g2 hd]
    obtain ⟨q,hq,he⟩:=Hb.1 h
    rcases List.mem_cons.1 hq with rfl|hq
    ·exact absurd he hd
    ·exact h1 (Hb.2 ⟨q,hq,he⟩)
   ·rw [g2 hd]
    exact h2 λhm=>by
     obtain ⟨q,hq,he⟩:=Hb.1 hm
     exact h (Hb.2 ⟨q,List.mem_cons_of_mem _ hq,he⟩)
theorem qO {st s:St} {a:Act} (h:Ak X π st a w) (hh:s.heap=st.heap) (hl:s.tmps.length=st.tmps.length) (hg: ∀t,s.get t=st.get t\/s.get t= .undef):Ak X π s a w:=by
 refine ⟨by rw [hh];exact h.1,⟨by rw [hl];exact h.2.size,h.2.defers,λt=>?_⟩⟩
 rw [hh]
 rcases hg t with e|e
 ·rw [e];exact h.2.tmps t
 ·rw [e];exact VV
theorem BR {st s:St} {o:Oper} (hh:s.heap=st.heap) (hg: ∀t,t∈o.looksAt ops->s.get t=st.get t):Rt T Γ ops s o=Rt T Γ ops st o:=by
 obtain ⟨ts,H⟩:=s
 obtain ⟨ts',H'⟩:=st
 simp only at hh
 subst hh
 exact vr hg
theorem nD (hT:By P T) (Kn:Gq P Γ) {st:St} {a:Act} (h:Ak X π st a w) {i:Nat} {o:Oper} (ho:ops[i]?=some o) (hp:fy ops i=true) {v:AV} (hv:Rt T Γ ops st o=some v):
  ∃u,(∀(Q:Exit->Act->World->Prop) (K:Act->World->Prop),K (a.put o.dst u) w->wpOp P ops Q i K a w)/\Ao X w π st.heap v u:=by
 unfold fy at hp
 rw [ho] at hp
 simp only at hp
 have WM:o.guard=none:=by
  obtain ⟨dst,op,ty,pos,af,gd⟩:=o
  cases gd with
  |none=>rfl
  |some g=>split at hp<;>first|rfl|(rename_i h4;cases h4)|cases hp
 have hb:Rv T Γ st o=some v:=by
  unfold Rt at hv
  rw [WM] at hv
  exact hv
 have hw:Region.wanted o (yielded ops a.tmps)=true:=by simp [Region.wanted,WM]
 have fin: ∀s:Sem Value,execOp a.eval o=(do pure (.value (<-s)))->Cm T Γ st o=some v-> ∃u,(∀(Q:Exit->Act->World->Prop) (K:Act->World->Prop),K (a.put o.dst u) w->wpOp P ops Q i K a w)/\Ao X w π st.heap v u:=by
  intro s he hq
  have hg:=dB hT Kn h o v hq
  rw [he,Sem.run_bind] at hg
  cases hr:s.run P w with
  |ok u w'=>
   rw [hr] at hg
   obtain ⟨e,hu⟩:=(show w'=w/\Ao X w π st.heap v u from hg)
   subst e
   refine ⟨u,λQ K hK=>?_,hu⟩
   unfold wpOp
   simp only [ho]
   rw [if_pos hw]
   refine .inl ?_
   unfold Oper.wp
   rw [he,Sem.run_bind,hr]
   exact hK
  |halt x w'=>rw [hr] at hg;exact hg.elim
 obtain ⟨dst,op,ty,pos,af,gd⟩:=o
 simp only at WM
 subst WM
 split at hp
 ·rename_i x h3 h4
  simp only at h3;subst h3
  exact fin (pure (a.eval x)) (by simp [execOp]) hb
 ·rename_i x h3 h4
  simp only at h3;subst h3
  exact fin _ rfl hb
 ·rename_i x h3 h4
  simp only at h3;subst h3
  exact fin _ rfl hb
 ·rename_i x h3 h4
  simp only at h3;subst h3
  exact fin _ rfl hb
 ·cases hp
theorem PM {j:Nat} {oi oj:Oper} {v:Value} (hj:ops[j]?=some oj) (XM:oi.apart ops oj=true) (hsj: ∀cs b,oj.op≠ .select cs b)
  {Q:Exit->Act->World->Prop} (hQ: ∀c a w,¬Q (.panic c) a w) {K:Act->World->Prop} {a:Act} {w:World} (h:wpOp P ops Q j K (a.put oi.dst v) w):
  wpOp P ops Q j (λa' w'=>K (a'.put oi.dst v) w') a w:=by
 obtain ⟨h1,h2,h3⟩:=Oper.apart_spec XM
 unfold wpOp at*
 simp only [hj] at*
 rw [wanted_put oj a oi.dst v h1] at h
 split
 ·rename_i hw
  simp only [hw,if_true] at h
  rcases h with h|⟨Aa8,Agt⟩
  case inr=>exact .inr ⟨by unfold Oper.asks at*;rw [execOp_put oj hsj a oi.dst v h1] at Aa8;exact Aa8,Agt⟩
  refine .inl ?_
  unfold Oper.wp at*
  rw [execOp_put oj hsj a oi.dst v h1] at h
  generalize (execOp a.eval oj).run P w=r at*
  cases r with
  |ok n w'=>
   cases n<;>simp only [Oper.upon] at h⊢
   case value u=>rw [<-Act.put_comm a v u h2];exact h
   case skip=>rw [<-Act.put_comm a v undef h2];exact h
   case defer d=>
    rw [<-Act.put_comm _ v undef h2,<-Act.put_defers]
    exact h
   case enter f args=>
    refine Calls.mono h λe nR he=>?_
    cases e with
    |returned u=>show K ((a.put oj.dst u).put oi.dst v) nR;rw [<-Act.put_comm a v u h2];exact he
    |panicked c=>exact absurd he (hQ _ _ _)
    |outgrown=>exact he
   case row row args=>exact Rows.mono h λu nR he=>by rw [<-Act.put_comm a v u h2];exact he
  |halt x w'=>
   cases x<;>simp only [Oper.upon] at h⊢
   case panic u=>exact absurd h (hQ _ _ _)
 ·rename_i hw
  simp only [hw] at h
  rw [<-Act.put_comm a v undef h2];exact h
theorem uQ: ∀ {Q:List Nat} {a a':Act},LC ops Q a a'->a'.defers=a.defers/\a'.tmps.size=a.tmps.size/\ ∀t,t∉gz ops Q->a'.tmps.getD t undef=a.tmps.getD t undef
 | [],a,a',h=>by cases h;exact ⟨rfl,rfl,λ_ _=>rfl⟩
 |r::Q,a,a',⟨u,h⟩=>by
  obtain ⟨h1,h2,h3⟩:=uQ h
  have hp:(a.put (Zy ops r) u).defers=a.defers/\(a.put (Zy ops r) u).tmps.size=a.tmps.size:=by cases Zy ops r<;>simp [Act.put]
  refine ⟨h1.trans hp.1,h2.trans hp.2,λt ht=>?_⟩
  have hn:Zy ops r≠some t:= λe=>ht (Hb.2 ⟨r,List.mem_cons_self ..,e⟩)
  rw [h3 t λhm=>ht (by obtain ⟨q,hq,he⟩:=Hb.1 hm;exact Hb.2 ⟨q,List.mem_cons_of_mem _ hq,he⟩)]
  cases hd:Zy ops r with
  |none=>rfl
  |some d=>
   have Ek:d≠t:= λe=>hn (by rw [hd,e])
   simp [Act.put,Array.getElem?_setIfInBounds_ne Ek]
theorem UJ {Q:List Nat} {st:St} {a a':Act} (hp:LC ops Q a a') (h:Ak X π st a' w):Ak X π (Mt ops Q st) a w:=by
 obtain ⟨h1,h2,h3⟩:=uQ hp
 refine ⟨by rw [Ln];exact h.1,⟨by rw [Qz,<-h2];exact h.2.size,by rw [<-h1];exact h.2.defers,λt=>?_⟩⟩
 rw [Ln]
 by_cases ht:t∈gz ops Q
 ·rw [(Mu Q st t).1 ht];exact VV
 ·rw [(Mu Q st t).2 ht,<-h3 t ht];exact h.2.tmps t
theorem vA {j:Nat} {oj:Oper} (hj:ops[j]?=some oj) (hsj: ∀cs b,oj.op≠ .select cs b) {Q:Exit->Act->World->Prop} (hQ: ∀c a w,¬Q (.panic c) a w) {K:Act->World->Prop} :
  ∀(L:List Nat) (a a':Act) (w:World),(∀r∈L,∃o,ops[r]?=some o/\o.apart ops oj=true)->LC ops L a a'->wpOp P ops Q j K a' w->wpOp P ops Q j (λa2 w2=> ∃a3,LC ops L a2 a3/\K a3 w2) a w
 | [],a,a',w,_,hp,h=>by cases hp;exact wpOp_mono (λa2 w2 hk=>⟨a2,rfl,hk⟩) h
 |r::L,a,a',w,XM,⟨u,hp⟩,h=>by
  obtain ⟨o,ho,ha⟩:=XM r (List.mem_cons_self ..)
  have hd:Zy ops r=o.dst:=by unfold Zy;rw [ho];rfl
  rw [hd] at hp
  have ih:=vA hj hsj hQ L _ a' w (λq hq=>XM q (List.mem_cons_of_mem _ hq)) hp h
  exact wpOp_mono (λa2 w2 ⟨a3,h1,h2⟩=>⟨a3,⟨u,by rw [hd];exact h1⟩,h2⟩) (PM hj ha hsj hQ ih)
def CV (ops:Array Oper):List Nat->Prop
 | []=>True
 |r::L=>(∀q∈r::L,∀o d,ops[r]?=some o->Zy ops q=some d->d∉o.looksAt ops)/\(∀q∈L,∀d,Zy ops r=some d->Zy ops q≠some d)/\CV ops L
def tT (ops:Array Oper):List Nat->Prop
 | []=>True
 |r::L=>(∀q∈L,Region.waitsFor .any ops q r=true\/ ∀o d,ops[q]?=some o->Zy ops r=some d->d∉o.looksAt ops)/\tT ops L
theorem CV.filter {p:Nat->Bool} : ∀ {L:List Nat},CV ops L->CV ops (L.filter p)
 | [],_=>trivial
 |r::L,⟨h1,h2,h3⟩=>by
  rw [List.filter_cons]
  split
  ·exact ⟨λq hq=>h1 q (by rcases List.mem_cons.1 hq with rfl|hq;exact List.mem_cons_self ..;exact List.mem_cons_of_mem _ (List.mem_filter.1 hq).1),λq hq=>h2 q (List.mem_filter.1 hq).1,h3.filter⟩
  ·exact h3.filter
theorem tT.filter {p:Nat->Bool} : ∀ {L:List Nat},tT ops L->tT ops (L.filter p)
 | [],_=>trivial
 |r::L,⟨h1,h3⟩=>by
  rw [List.filter_cons]
  split
  ·exact ⟨λq hq=>h1 q (List.mem_filter.1 hq).1,h3.filter⟩
  ·exact h3.filter
theorem Uv {i j:Nat} {p:Oper->Oper->Bool} (h:mJ ops i j p=true): ∃x y,ops[i]?=some x/\ops[j]?=some y/\p x y=true:=by
 unfold mJ at h
 split at h
 ·rename_i x y h1 h2;exact ⟨x,y,h1,h2,h⟩
 ·cases h
theorem cm {x y:Oper} (h:l8 ops x y=true): ∀d,x.dst=some d->d∉y.looksAt ops:= λd hd=>by
 unfold l8 at h
 rw [hd] at h
 simpa using h
theorem yM {x y:Oper} (h:DV x y=true): ∀d,x.dst=some d->y.dst≠some d:= λd hd=>by
 unfold DV at h
 rw [hd] at h
 simpa using h
theorem Ys {r:Nat} {o:Oper} (h:ops[r]?=some o):Zy ops r=o.dst:=by unfold Zy;rw [h];rfl
theorem ny: ∀ {E:List Nat},wZ ops E=true->CV ops E/\tT ops E
 | [],_=>⟨trivial,trivial⟩
 |r::E,h=>by
  simp only [wZ,Bool.and_eq_true,List.all_eq_true] at h
  obtain ⟨⟨h1,h2⟩,h3⟩:=h
  obtain ⟨g1,g2⟩:=ny h3
  refine ⟨⟨λq hq o d ho hd=>?_,λq hq d hd=>?_,g1⟩,λq hq=>?_,g2⟩
  ·rcases List.mem_cons.1 hq with rfl|hq
   ·obtain ⟨x,y,hx,hy,hp⟩:=Uv h1
    rw [ho] at hx hy;cases hx;cases hy
    rw [Ys ho] at hd
    exact cm hp d hd
   ·obtain ⟨x,y,hx,hy,hp⟩:=Uv (h2 q hq).1
    rw [ho] at hx;cases hx
    rw [Ys hy] at hd
    exact cm (Bool.and_eq_true_iff.1 hp).2 d hd
  ·obtain ⟨x,y,hx,hy,hp⟩:=Uv (h2 q hq).1
   rw [Ys hx] at hd
   rw [Ys hy]
   exact yM (Bool.and_eq_true_iff.1 hp).1 d hd
  ·have h4:=(h2 q hq).2
   rw [Bool.or_eq_true] at h4
   rcases h4 with h4|h4
   ·exact .inl h4
   ·refine .inr λo d ho hd=>?_
    obtain ⟨x,y,hx,hy,hp⟩:=Uv h4
    rw [ho] at hy;cases hy
    rw [Ys hx] at hd
    exact cm hp d hd
theorem ZX (hT:By P T) (Kn:Gq P Γ) {st:St} : ∀(L:List Nat) (a:Act),(∀r∈L,fy ops r=true/\ ∃o v,ops[r]?=some o/\Rt T Γ ops st o=some v/\ ∀d,o.dst=some d->st.get d=v)->CV ops L->
  Ak X π (Mt ops L st) a w-> ∃a',LC ops L a a'/\Ak X π st a' w
 | [],a,_,_,h=>⟨a,rfl,h⟩
 |r::L,a,hs,⟨f1,f2,f3⟩,h=>by
  obtain ⟨hr,o,v,ho,hv,hd⟩:=hs r (List.mem_cons_self ..)
  have hdo:=Ys ho
  have zm:Rt T Γ ops (Mt ops (r::L) st) o=some v:=by
   rw [BR (st:=st) (Ln _ _) λt ht=>(Mu _ _ _).2 λhm=>by
    obtain ⟨q,hq,he⟩:=Hb.1 hm
    exact f1 q hq o t ho he ht]
   exact hv
  obtain ⟨u,_,hu⟩:=nD hT Kn h ho hr zm
  have h2:=h.put o.dst hu
  have h3:Ak X π (Mt ops L st) (a.put o.dst u) w:=by
   refine qO h2 ?_ ?_ λt=>?_
   ·rw [fI,Ln,Ln]
   ·rw [kz,Qz,Qz]
   ·obtain ⟨g1,g2⟩:=dM (Mt ops (r::L) st) o.dst v t
    by_cases he:o.dst=some t
    ·have JS:t∉gz ops L:= λhm=>by
      obtain ⟨q,hq,SB⟩:=Hb.1 hm
      exact f2 q hq t (by rw [hdo];exact he) SB
     rw [(Mu L st t).2 JS,hd t he]
     rcases g1 he with g|g
     ·exact .inl g.symm
     ·by_cases hl:t<st.tmps.length
      ·refine .inl ?_
       rw [he]
       show v=((Nm (Mt ops (r::L) st).tmps t v).getD t .undef)
       rw [Lr,if_pos ⟨rfl,by rw [Qz];exact hl⟩]
      ·refine .inr ?_
       rw [<-hd t he]
       unfold St.get
       rw [List.getD_eq_getElem?_getD,List.getElem?_eq_none (by omega)]
       rfl
    ·rw [g2 he]
     have:(Mt ops (r::L) st).get t=(Mt ops L st).get t:=(dM (Mt ops L st) (Zy ops r) .undef t).2 (by rw [hdo];exact he)
     exact .inl this.symm
  obtain ⟨a',hp,cX⟩:=ZX hT Kn L _ (λq hq=>hs q (List.mem_cons_of_mem _ hq)) f3 h3
  exact ⟨a',⟨u,by rw [hdo];exact hp⟩,cX⟩
theorem QX: ∀ {L:List Nat},CV ops L->tT ops L-> ∀ {i:Nat} {o:Oper},i∈L->ops[i]?=some o->(∀q∈L,Region.waitsFor .any ops i q=true->False)-> ∀q∈L,∀d,Zy ops q=some d->d∉o.looksAt ops
 | [],_,_,i,_,hi,_,_=>by cases hi
 |r::L,⟨f1,f2,f3⟩,⟨b1,b2⟩,i,o,hi,ho,hw=> λq hq d hd=>by
  by_cases hir:i=r
  ·subst hir
   exact f1 q hq o d ho hd
  ·have jV:=(List.mem_cons.1 hi).resolve_left hir
   rcases List.mem_cons.1 hq with rfl|gi
   ·rcases b1 i jV with h|h
    ·exact (hw q hq h).elim
    ·exact h o d ho hd
   ·exact QX f3 b2 jV ho (λq hq=>hw q (List.mem_cons_of_mem _ hq)) q gi d hd
theorem mU {Aa:Array Bool} (Vp:Aa.size=ops.size): ∀ {E:List Nat} {L:Array Bool} {r:Nat} {Q:List Nat},ek ops E L=true->(∀j,L.getD j false=true->Aa.getD j false=true)->Hk E Aa=r::Q->r∈Region.ready .any ops Aa
 | [],_,_,_,_,_,h=>by simp [Hk] at h
 |e::E,L,r,Q,hr,hl,hp=>by
  simp only [ek,Bool.and_eq_true,List.contains_iff_mem] at hr
  unfold Hk at hp
  rw [List.filter_cons] at hp
  by_cases he:Aa.getD e false=true
  ·rw [if_neg (by rw [he];simp)] at hp
   refine mU Vp hr.2 (λj hj=>?_) hp
   by_cases hej:e=j
   ·subst hej;exact he
   ·rw [getD_set_ne false hej] at hj;exact hl j hj
  ·have he:Aa.getD e false=false:=by simpa using he
   rw [if_pos (by rw [he];rfl)] at hp
   injection hp with uk JV
   subst uk
   obtain ⟨_,o,ho,Fh⟩:=mem_ready.1 hr.1
   have Ey:e<Aa.size:=by rw [Vp];exact (Array.getElem?_eq_some_iff.1 ho).1
   exact mem_ready.2 ⟨getD_in Ey he,o,ho,λx hx hb=>hl _ (Fh x hx hb)⟩
theorem aU {Aa:Array Bool} {j:Nat} (h:Aa.getD j true=false):j<Aa.size:=by
 rcases Nat.lt_or_ge j Aa.size with h'|h'
 ·exact h'
 ·simp [Array.getElem?_eq_none h'] at h
theorem tS (hT:By P T) (Kn:Gq P Γ) {Q:Exit->Act->World->Prop} (hQ: ∀c a w,¬Q (.panic c) a w) {K:St->Prop} (hK: ∀st a w,K st->Rel X st a w->Q .normal a w) (Xn:Region.noSelect ops=true)
  {E:List Nat} {L0:Array Bool} (hE:fJ ops E L0=true): ∀(n f:Nat) (Aa LA:Array Bool) (st:St) (a:Act) (w:World),n=f+(Hk E Aa).length->Aa.size=ops.size->LA.size=ops.size->
   (∀j,LA.getD j false=(Aa.getD j false||E.contains j))->On ops Aa->(∀j,L0.getD j false=true->Aa.getD j false=true)->se T Γ ops E K f LA st->Rel X (Mt ops (Hk E Aa) st) a w->wpAny P .any ops Q n Aa a w:=by
 simp only [fJ,Bool.and_eq_true,List.all_eq_true] at hE
 obtain ⟨⟨hre,hry⟩,hpr,XM⟩:=hE
 obtain ⟨Agk,mZ⟩:=ny hpr
 have key: ∀(n f:Nat) (Aa LA:Array Bool) (st:St) (a:Act) (w:World),n=f+(Hk E Aa).length->Aa.size=ops.size->LA.size=ops.size->
   (∀j,LA.getD j false=(Aa.getD j false||E.contains j))->On ops Aa->(∀j,L0.getD j false=true->Aa.getD j false=true)->se T Γ ops E K f LA st->Rel X (Mt ops (Hk E Aa) st) a w->
   (∀j,j∈Region.ready .any ops Aa->j∉E->j∈Region.ready .any ops LA)/\(Region.ready .any ops Aa= []->Q .normal a w/\f=0/\Hk E Aa= []):=by
  intro n f Aa LA st a w hn bD jl WK Ky WJ pP hrel
  have h1: ∀j,j∈Region.ready .any ops Aa->j∉E->j∈Region.ready .any ops LA:= λj hj hjE=>by
   obtain ⟨lj,o,ho,Fh⟩:=mem_ready.1 hj
   have Ey:=aU lj
   refine mem_ready.2 ⟨getD_in (by omega) ?_,o,ho,λe he hb=>by rw [WK,Fh e he hb];rfl⟩
   rw [WK,getD_both lj]
   simpa using hjE
  refine ⟨h1,λh0=>?_⟩
  cases hpe:Hk E Aa with
  |cons r L=>
   have:=mU bD hry WJ hpe
   rw [h0] at this
   cases this
  |nil=>
   have Fh: ∀r,r∈E->Aa.getD r false=true:= λr hr=>by
    have:r∉Hk E Aa:=by rw [hpe];simp
    unfold Hk at this
    rw [List.mem_filter] at this
    by_cases hl:Aa.getD r false=true
    ·exact hl
    ·exact absurd ⟨hr,by simpa using hl⟩ this
   have hb: ∀j,j∈Region.ready .any ops LA->j∈Region.ready .any ops Aa:= λj hj=>by
    obtain ⟨lj,o,ho,hw⟩:=mem_ready.1 hj
    have Ey:=aU lj
    have he: ∀k,LA.getD k false=Aa.getD k false:= λk=>by
     rw [WK]
     by_cases hk:k∈E
     ·rw [Fh k hk];rfl
     ·rw [show E.contains k=false by simpa using hk,Bool.or_false]
    exact mem_ready.2 ⟨getD_in (by omega) (by rw [<-he];exact getD_both lj),o,ho,λe hx hbd=>by rw [<-he];exact hw e hx hbd⟩
   cases f with
   |zero=>
    obtain ⟨_,_,hk⟩:=pP
    rw [hpe] at hrel
    exact ⟨hK _ _ _ hk hrel,rfl,rfl⟩
   |succ f=>
    obtain ⟨_,Ek,_⟩:=pP
    obtain ⟨j,hj⟩:=List.exists_mem_of_ne_nil _ Ek
    have:=hb j hj
    rw [h0] at this
    cases this
 intro n
 induction n with
 |zero=>
  intro f Aa LA st a w hn bD jl WK Ky WJ pP hrel
  obtain ⟨k1,k2⟩:=key 0 f Aa LA st a w hn bD jl WK Ky WJ pP hrel
  have hf:f=0:=by omega
  have hp:Hk E Aa= []:=List.length_eq_zero_iff.1 (by omega)
  subst hf
  obtain ⟨_,hr,_⟩:=pP
  have h0:Region.ready .any ops Aa= []:=List.eq_nil_iff_forall_not_mem.2 λj hj=>by
   by_cases hjE:j∈E
   ·have lj:=getD_both (mem_ready.1 hj).1
    have:j∈Hk E Aa:=List.mem_filter.2 ⟨hjE,by rw [lj];rfl⟩
    rw [hp] at this
    cases this
   ·have:=k1 j hj hjE
    rw [hr] at this
    cases this
  exact ⟨h0,(k2 h0).1⟩
 |succ n ih=>
  intro f Aa LA st a w hn bD jl WK Ky WJ pP hrel
  obtain ⟨k1,k2⟩:=key (n+1) f Aa LA st a w hn bD jl WK Ky WJ pP hrel
  have Oq:UR T Γ ops E LA st:=by cases f<;>exact pP.1
  have RV: ∀r∈Hk E Aa,r∈E/\Aa.getD r false=false:= λr hr=>by
   obtain ⟨h1,h2⟩:=List.mem_filter.1 hr
   exact ⟨h1,by simpa using h2⟩
  have Ab0: ∀r∈Hk E Aa,fy ops r=true/\ ∃o v,ops[r]?=some o/\Rt T Γ ops st o=some v/\ ∀d,o.dst=some d->st.get d=v:= λr hr=>by
   obtain ⟨h1,h2⟩:=RV r hr
   refine ⟨hre r h1,(Oq r h1).resolve_left λhw=>?_⟩
   unfold oV at hw
   obtain ⟨j,_,hj⟩:=List.any_eq_true.1 hw
   simp only [Bool.and_eq_true,Bool.not_eq_true'] at hj
   obtain ⟨hj1,hj2,hj3⟩:=hj
   rw [WK,hj1,Bool.or_false] at hj2
   have:=Ky j r hj2 hj3
   rw [h2] at this
   cases this
  refine ⟨λh0=>(k2 h0).1,λi hi=>?_⟩
  obtain ⟨π,hrel⟩:=hrel
  have hiw: ∀q∈Hk E Aa,Region.waitsFor .any ops i q=true->False:= λq hq hw=>by
   have:=Zf hi hw
   rw [(RV q hq).2] at this
   cases this
  obtain ⟨lj,oi,hoi,_⟩:=mem_ready.1 hi
  have Ey:=aU lj
  by_cases hiE:i∈E
  ·have PU:i∈Hk E Aa:=List.mem_filter.2 ⟨hiE,by rw [getD_both lj];rfl⟩
   obtain ⟨hrd,o,v,ho,hv,hd⟩:=Ab0 i PU
   have hnl:=QX (Agk.filter (p:= λr=>!Aa.getD r false)) (mZ.filter (p:= λr=>!Aa.getD r false)) PU ho hiw
   have zm:Rt T Γ ops (Mt ops (Hk E Aa) st) o=some v:=by
    rw [BR (st:=st) (Ln _ _) λt ht=>(Mu _ _ _).2 λhm=>by
     obtain ⟨q,hq,he⟩:=Hb.1 hm
     exact hnl q hq t he ht]
    exact hv
   obtain ⟨u,hy,hu⟩:=nD hT Kn hrel ho hrd zm
   refine hy Q _ ?_
   have hpe: ∀q,q∈Hk E (Aa.setIfInBounds i true)↔q∈Hk E Aa/\q≠i:= λq=>by
    unfold Hk
    rw [List.mem_filter,List.mem_filter]
    by_cases hqi:q=i
    ·subst hqi
     simp [Ey]
    ·rw [getD_set_ne false (Ne.symm hqi)]
     exact ⟨λh=>⟨h,hqi⟩,λh=>h.1⟩
   have hlen:(Hk E Aa).length=(Hk E (Aa.setIfInBounds i true)).length+1:=by
    have JS: ∀(E:List Nat) (L:Array Bool),ek ops E L=true->E.Nodup/\ ∀r∈E,L.getD r true=false:=by
     intro E
     induction E with
     |nil=>exact λL _=>⟨List.nodup_nil,λr hr=>by cases hr⟩
     |cons e E ihE=>
      intro L h
      simp only [ek,Bool.and_eq_true,List.contains_iff_mem] at h
      obtain ⟨g1,g2⟩:=ihE _ h.2
      have he:=(mem_ready.1 h.1).1
      have gL:=aU he
      refine ⟨List.nodup_cons.2 ⟨λhm=>?_,g1⟩,λr hr=>?_⟩
      ·have:=g2 e hm
       simp [gL] at this
      ·rcases List.mem_cons.1 hr with rfl|hr
       ·exact he
       ·have Ek:e≠r:= λe'=>by subst e';have:=g2 e hr;simp [gL] at this
        have:=g2 r hr
        rw [getD_set_ne true Ek] at this
        exact this
    have hEn:=(JS E L0 hry).1
    have Anp: ∀L:List Nat,L.Nodup->i∈L->(L.filter λr=>!Aa.getD r false).length=(L.filter λr=>!(Aa.setIfInBounds i true).getD r false).length+1:=by
     intro L
     induction L with
     |nil=>exact λ_ h=>by cases h
     |cons x L ihL=>
      intro hn hm
      obtain ⟨hx,hn⟩:=List.nodup_cons.1 hn
      rw [List.filter_cons,List.filter_cons]
      by_cases hxi:x=i
      ·subst hxi
       rw [if_pos (by rw [getD_both lj];rfl),if_neg (by simp [Ey])]
       have:L.filter (λr=>!Aa.getD r false)=L.filter (λr=>!(Aa.setIfInBounds x true).getD r false):=List.filter_congr λq hq=>by
        rw [getD_set_ne false (λe=>hx (by rw [e];exact hq))]
       rw [List.length_cons,this]
      ·have hm:=(List.mem_cons.1 hm).resolve_left (Ne.symm hxi)
       rw [getD_set_ne false (Ne.symm hxi)]
       split
       ·rw [List.length_cons,List.length_cons,ihL hn hm]
       ·exact ihL hn hm
    exact Anp E hEn hiE
   refine ih f (Aa.setIfInBounds i true) LA st _ w (by omega) (by simp [bD]) jl (λj=>?_) (Ky.set hi) (λj hj=>getD_set_true (WJ j hj)) pP ⟨π,?_⟩
   ·rw [WK]
    by_cases dN:i=j
    ·subst dN
     rw [show E.contains i=true by simpa using hiE,Bool.or_true,Bool.or_true]
    ·rw [getD_set_ne false dN]
   ·have h2:=hrel.put o.dst hu
    refine qO h2 ?_ ?_ λt=>?_
    ·rw [fI,Ln,Ln]
    ·rw [kz,Qz,Qz]
    ·have hdo:=Ys ho
     by_cases hm:t∈gz ops (Hk E (Aa.setIfInBounds i true))
     ·exact .inr ((Mu _ _ _).1 hm)
     ·rw [(Mu _ _ _).2 hm]
      obtain ⟨g1,g2⟩:=dM (Mt ops (Hk E Aa) st) o.dst v t
      by_cases he:o.dst=some t
      ·rw [hd t he]
       rcases g1 he with g|g
       ·exact .inl g.symm
       ·by_cases hl:t<st.tmps.length
        ·refine .inl ?_
         rw [he]
         show v=((Nm (Mt ops (Hk E Aa) st).tmps t v).getD t .undef)
         rw [Lr,if_pos ⟨rfl,by rw [Qz];exact hl⟩]
        ·refine .inr ?_
         rw [<-hd t he]
         unfold St.get
         rw [List.getD_eq_getElem?_getD,List.getElem?_eq_none (by omega)]
         rfl
      ·rw [g2 he]
       refine .inl ((Mu _ _ _).2 λhm2=>?_).symm
       obtain ⟨q,hq,SB⟩:=Hb.1 hm2
       by_cases hqi:q=i
       ·subst hqi
        rw [hdo] at SB
        exact he SB
       ·exact hm (Hb.2 ⟨q,(hpe q).2 ⟨hq,hqi⟩,SB⟩)
  ·cases f with
   |zero=>
    obtain ⟨_,hr,_⟩:=pP
    have:=k1 i hi hiE
    rw [hr] at this
    cases this
   |succ f=>
    obtain ⟨_,_,Agy⟩:=pP
    obtain ⟨o,st',ho,he,cD⟩:=Agy i (k1 i hi hiE)
    obtain ⟨a',RZ,Uk⟩:=ZX hT Kn (Hk E Aa) a Ab0 Agk.filter hrel
    have gN:wpOp P ops Q i (λa2 w2=>Rel X st' a2 w2) a' w:=by
     unfold wpOp
     simp only [ho]
     exact Qq hT Kn Uk o he λa2 w2 h2=>h2
    have zd:=vA (Q:=Q) ho (λcs b=>Region.noSelect_spec Xn i o cs b ho) hQ (Hk E Aa) a a' w (λr hr=>?_) RZ gN
    ·refine wpOp_mono (λa2 w2 hk=>?_) zd
     obtain ⟨a3,hp3,π3,hr3⟩:=hk
     have hpe:Hk E (Aa.setIfInBounds i true)=Hk E Aa:=by
      unfold Hk
      refine List.filter_congr λq hq=>?_
      rw [getD_set_ne false (λe=>hiE (by rw [e];exact hq))]
     refine ih f (Aa.setIfInBounds i true) (LA.setIfInBounds i true) st' a2 w2 (by rw [hpe];omega) (by simp [bD]) (by simp [jl]) (λj=>?_) (Ky.set hi) (λj hj=>getD_set_true (WJ j hj)) cD ⟨π3,by rw [hpe];exact UJ hp3 hr3⟩
     by_cases dN:i=j
     ·subst dN
      simp [Ey,bD▸Ey,jl]
     ·rw [getD_set_ne false dN,getD_set_ne false dN,WK]
    ·obtain ⟨hrE,YB⟩:=RV r hr
     have h3:=List.all_eq_true.1 (List.all_eq_true.1 XM r hrE) i (List.mem_range.2 (by omega))
     simp only [Bool.or_eq_true] at h3
     rcases h3 with ((h3|h3)|h3)|h3
     ·exact absurd (by simpa using h3) hiE
     ·have:=WJ i h3
      rw [getD_both lj] at this
      cases this
     ·exact (hiw r hr h3).elim
     ·obtain ⟨x,y,hx,hy,hp⟩:=Uv h3
      rw [ho] at hy;cases hy
      exact ⟨x,hx,hp⟩
theorem jL: ∀(E:List Nat) (s0 s1:St),Cw T Γ ops E s0=some s1->s1.heap=s0.heap/\s1.tmps.length=s0.tmps.length/\ ∀t,t∉gz ops E->s1.get t=s0.get t
 | [],s0,s1,h=>by
  simp only [Cw,Option.some.injEq] at h
  subst h
  exact ⟨rfl,rfl,λ_ _=>rfl⟩
 |r::E,s0,s1,h=>by
  simp only [Cw] at h
  split at h
  ·cases h
  rename_i o ho
  split at h
  rotate_left
  ·cases h
  rename_i v hv
  obtain ⟨h1,h2,h3⟩:=jL E _ _ h
  refine ⟨by rw [h1,fI],by rw [h2,kz],λt ht=>?_⟩
  rw [h3 t λhm=>ht (by obtain ⟨q,hq,he⟩:=Hb.1 hm;exact Hb.2 ⟨q,List.mem_cons_of_mem _ hq,he⟩)]
  exact (dM s0 o.dst v t).2 λe=>ht (Hb.2 ⟨r,List.mem_cons_self ..,by rw [Ys ho];exact e⟩)
theorem uL: ∀ {E:List Nat} {L0:Array Bool},ek ops E L0=true-> ∀r∈E,L0.getD r true=false
 | [],_,_,_,hr=>by cases hr
 |e::E,L0,h,r,hr=>by
  simp only [ek,Bool.and_eq_true,List.contains_iff_mem] at h
  have he:=(mem_ready.1 h.1).1
  rcases List.mem_cons.1 hr with rfl|hr
  ·exact he
  ·have h2:=uL h.2 r hr
   have Ek:e≠r:= λe'=>by subst e';simp [aU he] at h2
   rw [getD_set_ne true Ek] at h2
   exact h2
theorem tR (hT:By P T) (Kn:Gq P Γ) {Q:Exit->Act->World->Prop} (hQ: ∀c a w,¬Q (.panic c) a w) {K:St->Prop} (hK: ∀st a w,K st->Rel X st a w->Q .normal a w) (Xn:Region.noSelect ops=true)
  {E:List Nat} {L0:Array Bool} (hE:fJ ops E L0=true) {n:Nat} (hn:E.length<=n) {Yj st1:St} (h1:Cw T Γ ops E Yj=some st1) (h2:se T Γ ops E K (n-E.length) (Cr E L0) st1)
  (Vp:L0.size=ops.size) (Ky:On ops L0) {a:Act} {w:World} (hr:Rel X Yj a w):wpAny P .any ops Q n L0 a w:=by
 have hE':=hE
 simp only [fJ,Bool.and_eq_true] at hE'
 have lj:=uL hE'.1.2
 have hp:Hk E L0=E:=List.filter_eq_self.2 λr hr=>by rw [getD_both (lj r hr)];rfl
 refine tS hT Kn hQ hK Xn hE n (n-E.length) L0 (Cr E L0) st1 a w (by rw [hp];omega) Vp (by rw [Qx];exact Vp) (λj=>?_) Ky (λj hj=>hj) h2 ?_
 ·by_cases hj:j∈E
  ·rw [bI E L0 j hj (aU (lj j hj)),show E.contains j=true by simpa using hj,Bool.or_true]
  ·rw [a8 E L0 j hj,show E.contains j=false by simpa using hj,Bool.or_false]
 ·obtain ⟨π,hr⟩:=hr
  obtain ⟨g1,g2,g3⟩:=jL E _ _ h1
  refine ⟨π,qO hr (by rw [Ln,g1]) (by rw [Qz,g2]) λt=>?_⟩
  rw [hp]
  by_cases ht:t∈gz ops E
  ·exact .inr ((Mu _ _ _).1 ht)
  ·exact .inl (((Mu _ _ _).2 ht).trans (g3 t ht))
theorem GL (hT:By P T) (Kn:Gq P Γ) (hm:P.follows .mixedOrders=true) {Q:Exit->Act->World->Prop} {id:Nat} {draw:Bool} {st:St} {K:St->Prop} {a:Act} (h:Rel X st a w)
  (he:vE T Γ ops draw st K) (hQ: ∀st' a' w',K st'->Rel X st' a' w'->Q .normal a' w'):(Code.region id ops draw).wp P Q a w:=by
 rcases he with ⟨st',h1,h2⟩|⟨rfl,Xn,Yj,h1,h2⟩
 ·exact lF hT Kn hm h h1 λa' w' h'=>hQ st' a' w' h2 h'
 ·refine wp_mono (Q:= λe a w=>e= .normal/\Q .normal a w) ?_ λe a w h=>h.1▸h.2
  refine wp_region_any hm ?_
  have hrel:Rel X st a {w with drawn:=w.drawn+1} :=by
   obtain ⟨π,h⟩:=h
   exact ⟨π,h.quiet ⟨rfl,rfl,rfl,Nat.le_refl _,λ_ _=>rfl⟩⟩
  have hlen:(It ops).length<=ops.size:=by
   have:=ae (ops:=ops) (!ff false ops) (List.range ops.size) (Array.replicate ops.size false)
   rw [List.length_range] at this
   exact this
  have RU:(Array.replicate ops.size false).size=ops.size:=by simp
  have hmv:(Cr (It ops) (Array.replicate ops.size false)).size=ops.size:=by rw [Qx,RU]
  have:=Yh hT (!ff false ops) (X:=X) (P:=P) (T:=T) (Γ:=Γ) (Q:= λe a w=>e= .normal/\Q .normal a w) (n:=ops.size-(It ops).length) (st1:=Yj) (λc a w hq=>by cases hq.1) Xn (List.range ops.size) (Array.replicate ops.size false) st a _ h1 hrel λa' w' h'=>by
   rcases h2 with h2|⟨E,st1,hE,hEn,hE1,hE2⟩
   ·exact iq hT Kn (λst' a' w' hk hr=>⟨rfl,hQ st' a' w' hk hr⟩) _ _ _ _ _ h2 h'
   ·exact tR hT Kn (λc a w hq=>by cases hq.1) (λst' a' w' hk hr=>⟨rfl,hQ st' a' w' hk hr⟩) Xn hE hEn hE1 hE2 hmv (Vx _ _ _ mR) h'
  have e:(Fc (!ff false ops) ops (List.range ops.size) (Array.replicate ops.size false)).length+(ops.size-(It ops).length)=ops.size:=by
   have e2:(Fc (!ff false ops) ops (List.range ops.size) (Array.replicate ops.size false)).length=(It ops).length:=rfl
   omega
  rw [e] at this
  exact this
end
end Go.Proofs.YtfolipnappekaaaGreat
