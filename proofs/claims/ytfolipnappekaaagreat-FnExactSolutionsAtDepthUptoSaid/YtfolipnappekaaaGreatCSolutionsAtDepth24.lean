/-
  Part 25 of the proof that the statement FnExactSolutionsAtDepth holds.
-/
import Derived.Test.YtfolipnappekaaaGreatCSolutionsAtDepth23
namespace Go.Proofs.YtfolipnappekaaaGreat
open Go.RowKit
section
variable {P:Program} {T:Tab} {Γ:Env} {X:Ctx} {w w':World} {π:Pi} {ops:Array Oper} {hd tl:List Nat}
structure Tz (ops:Array Oper) (tl fl:List Nat) (Aa:Array Bool):Prop where
 size:Aa.size=ops.size
 done: ∀i,i∈fl->Aa.getD i false=true
 closed: ∀j oj,ops[j]?=some oj->Aa.getD j false=true-> ∀e∈oj.after,Region.binds .any e=true->Aa.getD e.on false=true
 tail: ∀t,t∈tl->Aa.getD t true=false
theorem Tz.set {fl:List Nat} {i:Nat} {Aa:Array Bool} (inv:Tz ops tl fl Aa) (hi:i∈Region.ready .any ops Aa) (dJ:i∉tl):Tz ops tl fl (Aa.setIfInBounds i true):=by
 obtain ⟨_,oi,hoi,Gc⟩:=mem_ready.1 hi
 refine ⟨by simp [inv.size],λk hk=>getD_set_true (inv.done k hk),λj oj hj hl e he hb=>?_,λt ht=>by
  have Ek:i≠t:= λe=>dJ (by rw [e];exact ht)
  rw [getD_set_ne true Ek];exact inv.tail t ht⟩
 by_cases dI:i=j
 ·subst dI
  have:oj=oi:=Option.some.inj (hj.symm.trans hoi)
  subst this
  exact getD_set_true (Gc e he hb)
 ·rw [getD_set_ne false dI] at hl
  exact getD_set_true (inv.closed j oj hj hl e he hb)
theorem DE (k:Nat) (r:List Nat) (h:(r.all λt=>(k::r).any λk=>Region.waitsFor .any ops t k)=true): ∀t,t∈r-> ∃k',(k'=k\/k'∈r)/\Region.waitsFor .any ops t k'=true:= λt ht=>by
 obtain ⟨k',h1,h2⟩:=List.any_eq_true.1 (List.all_eq_true.1 h t ht)
 exact ⟨k',List.mem_cons.1 h1,h2⟩
theorem BC {fl:List Nat} {Aa:Array Bool} (hs:qR ops hd tl=true) (inv:Tz ops tl fl Aa) (Vl: ∀i,i∈hd->i<ops.size):
  ∀(d i:Nat),ops.size-i=d->i∈hd->Aa.getD i true=false-> ∀t,t∈tl->t∉Region.ready .any ops Aa:=by
 cases tl with
 |nil=>intro d i _ _ _ t ht;cases ht
 |cons f r=>
  simp only [qR,Bool.and_eq_true] at hs
  obtain ⟨bz,jd⟩:=hs
  intro d
  induction d using Nat.strongRecOn with
  |_ d ih=>
   intro i QW hi l8 t ht hr
   obtain ⟨_,ot,hot,Gc⟩:=mem_ready.1 hr
   rcases List.mem_cons.1 ht with rfl|jQ
   ·have h1:=List.all_eq_true.1 bz i hi
    obtain ⟨j,hj,hj2⟩:=List.any_eq_true.1 h1
    simp only [Bool.and_eq_true,decide_eq_true_eq] at hj2
    obtain ⟨oj,hoj,e,he,hb,hon⟩:=Region.waitsFor_spec hj2.2
    rcases List.mem_cons.1 hj with rfl|XK
    ·have:oj=ot:=Option.some.inj (hoj.symm.trans hot)
     subst this
     have h2:=Gc e he hb
     rw [hon,getD_both l8] at h2
     cases h2
    ·cases hl:Aa.getD j false with
     |true=>
      have h2:=inv.closed j oj hoj hl e he hb
      rw [hon,getD_both l8] at h2
      cases h2
     |false=>
      have hjs:j<Aa.size:=by rw [inv.size];exact Vl j XK
      have:=Vl j XK
      exact ih (ops.size-j) (by omega) j rfl XK (getD_in hjs hl) t (by simp) hr
   ·obtain ⟨k',h1,h2⟩:=DE f r jd t jQ
    obtain ⟨o',ho',e,he,hb,hon⟩:=Region.waitsFor_spec h2
    have:o'=ot:=Option.some.inj (ho'.symm.trans hot)
    subst this
    have h3:=Gc e he hb
    have hk:k'∈f::r:=by rcases h1 with rfl|h1<;>simp [*]
    rw [hon,getD_both (inv.tail k' hk)] at h3
    cases h3
def PM (T:Tab) (Γ:Env) (ops:Array Oper) (hd:List Nat) (L:Array Bool->St->Prop):Nat->Array Bool->St->Prop
 |0,Aa,st=>L Aa st
 |f+1,Aa,st=>
  Region.ready .any ops Aa≠ []/\ ∀i∈Region.ready .any ops Aa,i∈hd/\ ∃o v,ops[i]?=some o/\Rr T Γ ops st o=some v/\PM T Γ ops hd L f (Aa.setIfInBounds i true) (st.put o.dst v)
theorem xQ (hT:By P T) (Kl:Gq P Γ) {Q:Exit->Act->World->Prop} {K:Act->World->Prop} {st:St} {a:Act} (h:Rel X st a w) {i:Nat} {o:Oper} {v:AV} (ho:ops[i]?=some o) (hv:Rr T Γ ops st o=some v)
  (hK: ∀a' w',Rel X (st.put o.dst v) a' w'->K a' w'):wpOp P ops Q i K a w:=by
 obtain ⟨π,h⟩:=h
 have run:Ru T Γ st o=some v->o.wp P a w K Q:= λhe=>nJ (X:=X) (st':=st) (av:=v) (yC hT Kl h o v he) hK
 have skip:v= .at .skip->K (a.put o.dst undef) w:= λe=>by subst e;exact hK _ _ ⟨π,h.put o.dst AM⟩
 unfold wpOp
 simp only [ho]
 unfold Rr at hv
 split at hv
 ·rename_i hg
  rw [if_pos (by simp [Region.wanted,hg])]
  exact .inl (run hv)
 ·rename_i j want hg
  split at hv
  ·rename_i b hb
   have hy:=(bo h j).1 b hb
   split at hv
   ·rename_i QV
    rw [if_pos (by simp only [Region.wanted,hg,hy];simpa using QV)]
    exact .inl (run hv)
   ·rename_i QV
    rw [if_neg (by simp only [Region.wanted,hg,hy];simpa using QV)]
    simp only [Option.some.injEq] at hv
    exact skip hv.symm
  ·rename_i hb
   have hy:=(bo h j).2 hb
   rw [if_neg (by simp [Region.wanted,hg,hy])]
   simp only [Option.some.injEq] at hv
   exact skip hv.symm
  ·cases hv
theorem ic (hT:By P T) (Kl:Gq P Γ) {g:Nat} {L:Array Bool->St->Prop} {Q:Exit->Act->World->Prop} (hL: ∀Aa st a w,L Aa st->Rel X st a w->wpAny P .any ops Q g Aa a w):
  ∀(f:Nat) (Aa:Array Bool) (st:St) (a:Act) (w:World),PM T Γ ops hd L f Aa st->Rel X st a w->wpAny P .any ops Q (f+g) Aa a w
 |0,Aa,st,a,w,h,hr=>by rw [Nat.zero_add];exact hL _ _ _ _ h hr
 |f+1,Aa,st,a,w,h,hr=>by
  rw [show f+1+g=(f+g)+1 by omega]
  refine ⟨λh0=>absurd h0 h.1,λi hi=>?_⟩
  obtain ⟨_,o,v,ho,hv,cy⟩:=h.2 i hi
  exact xQ hT Kl hr ho hv λa' w' h'=>ic hT Kl hL f _ _ _ _ cy h'
theorem CL {fl:List Nat} {i:Nat} {oi:Oper} {v:AV} {L:Array Bool->St->Prop} (hi:ops[i]?=some oi) (hs:qR ops hd tl=true) (Vl: ∀i,i∈hd->i<ops.size) (dJ:i∈hd)
  (Gc: ∀j,j<ops.size->j∈fl\/j∈hd\/j∈tl) (yV: ∀j,j∈hd->j∉tl) (Ag8: ∀Aa st,L Aa st-> ∀j∈Region.ready .any ops Aa,j∈tl):
  ∀(f:Nat) (Aa:Array Bool) (st:St),Tz ops tl fl Aa->
   (∀j oj,ops[j]?=some oj->j≠i->Aa.getD j true=false->(∀e∈oj.after,Region.binds .any e=true->e.on≠i)->oi.apart ops oj=true)->
   i∈Region.ready .any ops Aa->Rr T Γ ops st oi=some v->
   PM T Γ ops hd L f (Aa.setIfInBounds i true) (st.put oi.dst v)->PM T Γ ops hd L (f+1) Aa st:=by
 intro f
 have Ahs: ∀Aa,Tz ops tl fl Aa->i∈Region.ready .any ops Aa-> ∀j,j∈Region.ready .any ops Aa->j∈hd:=by
  intro Aa inv hr j hj
  obtain ⟨l8,oj,hoj,_⟩:=mem_ready.1 hj
  rcases Gc j (Array.getElem?_eq_some_iff.1 hoj).1 with h|h|h
  ·have h1:=inv.done j h
   rw [getD_both l8] at h1;cases h1
  ·exact h
  ·exact absurd hj (BC hs inv Vl _ i rfl dJ (mem_ready.1 hr).1 j h)
 induction f with
 |zero=>
  intro Aa st inv _ hr hv Hh
  refine ⟨λh=>(by rw [h] at hr;cases hr),λj hj=>?_⟩
  have XK:=Ahs Aa inv hr j hj
  refine ⟨XK,?_⟩
  by_cases si:j=i
  ·subst si;exact ⟨oi,v,hi,hv,Hh⟩
  ·exact absurd (Ag8 _ _ Hh j (ready_mono hj si)) (yV j XK)
 |succ f ih=>
  intro Aa st inv jL hr hv Hh
  have l8:=(mem_ready.1 hr).1
  refine ⟨λh=>(by rw [h] at hr;cases hr),λj hj=>?_⟩
  have XK:=Ahs Aa inv hr j hj
  refine ⟨XK,?_⟩
  by_cases si:j=i
  ·subst si;exact ⟨oi,v,hi,hv,Hh⟩
  ·obtain ⟨_,oj,vj,hoj,hvj,cy⟩:=Hh.2 j (ready_mono hj si)
   obtain ⟨Agi,oj',Amg,Afz⟩:=mem_ready.1 hj
   have:oj'=oj:=Option.some.inj (Amg.symm.trans hoj)
   subst this
   have pR: ∀e∈oj'.after,Region.binds .any e=true->e.on≠i:= λe he hb heq=>by
    have h1:=Afz e he hb
    rw [heq,getD_both l8] at h1
    cases h1
   obtain ⟨p1,p2,p3⟩:=Oper.apart_spec (jL j oj' hoj si Agi pR)
   rw [BI p1] at hvj
   refine ⟨oj',vj,hoj,hvj,?_⟩
   have Ac1: ∀k ok,ops[k]?=some ok->k≠i->(Aa.setIfInBounds j true).getD k true=false->
     (∀e∈ok.after,Region.binds .any e=true->e.on≠i)->oi.apart ops ok=true:= λk ok hk hki Ahg hno=>by
    refine jL k ok hk hki ?_ hno
    by_cases hjk:j=k
    ·subst hjk;exact Agi
    ·rw [getD_set_ne true hjk] at Ahg;exact Ahg
   refine ih (Aa.setIfInBounds j true) (st.put oj'.dst vj) (inv.set hj (yV j XK)) Ac1 (ready_mono hr (Ne.symm si)) (by rw [BI p3];exact hv) ?_
   rw [Array.setIfInBounds_comm _ _ si,<-St.put_comm st v vj p2]
   exact cy
theorem ny: ∀(l:List Nat) (Aa:Array Bool),kA ops l Aa=true-> ∀j∈Region.ready .any ops Aa,j∈l
 | [],Aa,h,j,hj=>by simp only [kA,List.isEmpty_iff] at h;rw [h] at hj;cases hj
 |k::r,Aa,h,j,hj=>by
  simp only [kA,Bool.and_eq_true,Bool.or_eq_true,decide_eq_true_eq] at h
  rcases h.1 with h1|h1
  ·rw [h1] at hj
   simp at hj
   simp [hj]
  ·by_cases e:j=k
   ·simp [e]
   ·exact List.mem_cons_of_mem _ (ny r _ h.2 j (ready_mono hj e))
theorem xV {fl:List Nat} (Xi:Region.noSelect ops=true) (hs:qR ops hd tl=true) (Vl: ∀i,i∈hd->i<ops.size) (Gc: ∀j,j<ops.size->j∈fl\/j∈hd\/j∈tl) (yV: ∀j,j∈hd->j∉tl) (st':St):
  ∀(l:List Nat) (Aa:Array Bool) (st:St),(∀i,i∈l->i∈hd)->Tz ops tl fl Aa->lE ops tl l Aa=true->Cw T Γ ops l st=some st'->
  PM T Γ ops hd (λwz s=>kA ops tl wz=true/\s=st') l.length Aa st
 | [],Aa,st,_,_,hB,he=>by
  simp only [Cw,Option.some.injEq] at he
  exact ⟨by simpa [lE] using hB,he⟩
 |k::l,Aa,st,hl,inv,hB,he=>by
  simp only [lE,Bool.and_eq_true] at hB
  obtain ⟨⟨hr,hf⟩,hB'⟩:=hB
  have hkh:=hl k (by simp)
  have bf:k∈Region.ready .any ops Aa:=by simpa using hr
  simp only [Cw] at he
  split at he
  ·cases he
  ·rename_i o ho
   split at he
   ·rename_i v hv
    exact CL ho hs Vl hkh Gc yV (λwz s hL=>ny tl wz hL.1) l.length Aa st inv (Region.free_spec ho hf) bf hv
     (xV Xi hs Vl Gc yV st' l _ _ (λi hi=>hl i (by simp [hi])) (inv.set bf (yV k hkh)) hB' he)
   ·cases he
theorem vT {Q:Exit->Act->World->Prop} (hQ: ∀e a w,Q e a w->e= .normal) {k i:Nat} {x:Operand} {o:Oper} (ho:ops[k]?=some o) (oE:o.op= .extract x i) (hg:o.guard=none) {K:Act->World->Prop} {a:Act} {w:World}
  (h:wpOp P ops Q k K a w): ∃v,Yields P ops o v a/\K (a.put o.dst v) w:=by
 unfold wpOp at h
 simp only [ho] at h
 have hw:Region.wanted o (yielded ops a.tmps)=true:=by simp [Region.wanted,hg]
 rw [if_pos hw] at h
 rcases h with h|⟨_,a',w',h⟩
 ·unfold Oper.wp at h
  have hr: ∀w,(execOp a.eval o).run P w=(do pure (Next.value (<-Instr.extract (a.eval x) i))).run P w:= λw=>by unfold execOp;rw [oE]
  rw [hr] at h
  unfold Instr.extract at h hr
  split at h
  ·rename_i vs hx
   split at h
   ·rename_i v hv
    rw [hx] at hr
    simp only [hv] at hr
    exact ⟨v, .inl ⟨hw,λw=>(hr w).trans rfl⟩,h⟩
   ·exact h.elim
  ·exact h.elim
 ·cases hQ _ _ _ h
theorem ae {Q:Exit->Act->World->Prop} (hQ: ∀e a w,Q e a w->e= .normal) (Xi:Region.noSelect ops=true): ∀(l:List Nat) (Aa:Array Bool) (a:Act) (w:World),kA ops l Aa=true->wpOps P ops Q l a w->wpAny P .any ops Q l.length Aa a w
 | [],Aa,a,w,hB,h=>⟨by simpa [kA] using hB,h⟩
 |k::r,Aa,a,w,hB,h=>by
  simp only [kA,Bool.and_eq_true,Bool.or_eq_true,decide_eq_true_eq] at hB
  rw [wpOps_cons] at h
  rcases hB.1 with h0|⟨h1,h2,h3⟩
  ·refine ⟨λh1=>(by rw [h0] at h1;cases h1),λi hi=>?_⟩
   rw [h0] at hi
   have hik:i=k:=by simpa using hi
   subst hik
   exact wpOp_mono (λa' w' h'=>ae hQ Xi r _ a' w' hB.2 h') h
  ·unfold SK at h1
   split at h1
   ·rename_i o ho
    split at h1
    ·rename_i x i oE hg
     obtain ⟨v,hy,hk⟩:=vT hQ ho oE hg h
     exact wpAny_take ho Xi h3 h2 (λc a w hq=>by cases hQ _ _ _ hq) hy (ae hQ Xi r _ _ w hB.2 hk)
    ·cases h1
   ·cases h1
theorem jH {P:Program} {o:Oper} {t:Tmp} {a:Act} (h:o.op= .move (.tmp t)) (hg:o.guard=none):Yields P ops o (a.tmps.getD t undef) a:=by
 refine .inl ⟨by simp [Region.wanted,hg],λw=>?_⟩
 unfold execOp
 rw [h]
 rfl
theorem wi {hd tl:List Nat} {i:Nat} (h:jS ops hd tl i=true): ∃o t,ops[i]?=some o/\o.op= .move (.tmp t)/\o.guard=none:=by
 unfold jS at h
 split at h
 ·rename_i o ho
  simp only [Bool.and_eq_true] at h
  have h1:=h.1
  split at h1
  ·rename_i t h2 h3
   exact ⟨o,t,ho,h2,h3⟩
  ·cases h1
 ·cases h
theorem cO {q:Bool} {hd:List Nat} {Q:Exit->Act->World->Prop} (hQ: ∀c a w,¬Q (.panic c) a w) (Xi:Region.noSelect ops=true) {n:Nat} {st1:St}
  (cy: ∀Aa st a w,(∀j oj,ops[j]?=some oj->Aa.getD j false=true-> ∀e∈oj.after,Region.binds .any e=true->Aa.getD e.on false=true)->Aa.size=ops.size->lE ops tl hd Aa=true->st=st1->Rel X st a w->
   (∀j,Aa.getD j false=true↔j∈Qr q Γ ops)->wpAny P .any ops Q n Aa a w):
  ∀(l dn:List Nat) (Aa:Array Bool) (st:St) (a:Act) (w:World),(∀j,j∈Qr q Γ ops↔j∈dn\/j∈l)->(∀i,i∈l-> ∃o t,ops[i]?=some o/\o.op= .move (.tmp t)/\o.guard=none)->
   (∀j oj,ops[j]?=some oj->Aa.getD j false=true-> ∀e∈oj.after,Region.binds .any e=true->Aa.getD e.on false=true)->Aa.size=ops.size->(∀j,Aa.getD j false=true↔j∈dn)->
   jG ops tl hd l Aa=true->Cw T Γ ops l st=some st1->Rel X st a w->wpAny P .any ops Q (l.length+n) Aa a w
 | [],dn,Aa,st,a,w,hm,_,hc,Vl,hdn,hf,he,hr=>by
  simp only [Cw,Option.some.injEq] at he
  rw [List.length_nil,Nat.zero_add]
  exact cy Aa st a w hc Vl (by simpa [jG] using hf) he hr λj=>by rw [hdn j,hm j];simp
 |k::l,dn,Aa,st,a,w,hm,hl,hc,Vl,hdn,hf,he,hr=>by
  simp only [jG,Bool.and_eq_true] at hf
  obtain ⟨⟨h1,h2⟩,h3⟩:=hf
  obtain ⟨o,t,ho,oE,hg⟩:=hl k (by simp)
  have sk:k∈Region.ready .any ops Aa:=by simpa using h1
  obtain ⟨_,o',ho',Gc⟩:=mem_ready.1 sk
  have ho2:o'=o:=Option.some.inj (ho'.symm.trans ho)
  subst ho2
  have hks:k<Aa.size:=by rw [Vl];exact (Array.getElem?_eq_some_iff.1 ho).1
  simp only [Cw,ho] at he
  have hv:Rr T Γ ops st o'=some (st.get t):=by simp only [Rr,hg,Ru,Cm,oE];rfl
  rw [hv] at he
  rw [List.length_cons,show l.length+1+n=(l.length+n)+1 by omega]
  refine wpAny_take ho Xi h2 h1 (λc a w hq=>absurd hq (hQ c _ w)) (jH oE hg) ?_
  obtain ⟨π,hr⟩:=hr
  refine cO hQ Xi cy l (k::dn) _ _ _ _ (λj=>by rw [hm j,List.mem_cons,List.mem_cons];exact ⟨λh=>h.elim (λh=> .inl (.inr h)) (λh=>h.elim (λh=> .inl (.inl h)) .inr),λh=>h.elim (λh=>h.elim (λh=> .inr (.inl h)) .inl) (λh=> .inr (.inr h))⟩) (λi hi=>hl i (by simp [hi])) ?_ (by simp [Vl]) (λj=>?_) h3 he ⟨π,hr.put o'.dst (hr.2.tmps t)⟩
  ·intro j oj hj PJ e hem hb
   by_cases PI:k=j
   ·subst PI
    have:oj=o':=Option.some.inj (hj.symm.trans ho)
    subst this
    exact getD_set_true (Gc e hem hb)
   ·rw [getD_set_ne false PI] at PJ
    exact getD_set_true (hc j oj hj PJ e hem hb)
  ·by_cases PI:k=j
   ·subst PI
    refine ⟨λ_=>by simp,λ_=>?_⟩
    simp [hks]
   ·rw [getD_set_ne false PI,hdn j]
    simp [Ne.symm PI]
theorem cv {ops:Array Oper} : ∀(a b:List Nat) (st st':St),Cw T Γ ops (a++b) st=some st'-> ∃s,Cw T Γ ops a st=some s/\Cw T Γ ops b s=some st'
 | [],b,st,st',h=>⟨st,rfl,h⟩
 |i::a,b,st,st',h=>by
  simp only [List.cons_append,Cw] at h⊢
  split at h
  ·cases h
  ·split at h
   ·exact cv a b _ st' h
   ·cases h
theorem lx (hT:By P T) (Kl:Gq P Γ) (hm:P.follows .mixedOrders=true) {Q:Exit->Act->World->Prop} {id:Nat} {draw:Bool} {st st':St} {a:Act} (h:Rel X st a w)
  (he:Mk T Γ ops draw st=some st') (hQ: ∀a' w',Rel X st' a' w'->Q .normal a' w'):(Code.region id ops draw).wp P Q a w:=by
 unfold Mk at he
 cases draw with
 |false=>
  rw [if_neg (by simp)] at he
  exact wp_region_list (gB hT Kl ops.toList st st' a w h he hQ)
 |true=>
  rw [if_pos rfl] at he
  have go: ∀(q:Bool),fE q Γ ops=true->(match Cw T Γ ops (fh q Γ ops) st with
    |some st'=>Ij T Γ ops (Fg q Γ ops) st'
    |none=>none)=some st'->(Code.region id ops true).wp P Q a w:=by
   intro q dK he
   split at he
   ·rename_i st1 h1
    simp only [fE,Bool.and_eq_true,beq_iff_eq] at dK
    obtain ⟨⟨⟨Xi,hlen⟩,Abz⟩,Aha⟩:=dK
    refine wp_mono (Q:= λe a w=>e= .normal/\Q .normal a w) ?_ λe a w h=>h.1▸h.2
    refine wp_region_any hm ?_
    have hrel:Rel X st a {w with drawn:=w.drawn+1} :=by
     obtain ⟨π,h⟩:=h
     exact ⟨π,h.quiet ⟨rfl,rfl,rfl,Nat.le_refl _,λ_ _=>rfl⟩⟩
    obtain ⟨s0,h0,h1⟩:=cv _ _ _ _ h1
    have dJ: ∀i,i∈Yv q Γ ops->i<ops.size:= λi hi=>List.mem_range.1 (List.mem_filter.1 hi).1
    have Vl: ∀i,i∈Qt q Γ ops->i<ops.size:= λi hi=>dJ i (List.mem_filter.1 hi).1
    have Gc: ∀j,j<ops.size->j∈Qr q Γ ops\/j∈Qt q Γ ops\/j∈Fg q Γ ops:= λj hj=>by
     by_cases ht:j∈Fg q Γ ops
     ·exact .inr (.inr ht)
     ·have hh:j∈Yv q Γ ops:=List.mem_filter.2 ⟨List.mem_range.2 hj,by simpa using ht⟩
      cases PF:jS ops (Yv q Γ ops) (Fg q Γ ops) j with
      |true=>exact .inl (List.mem_filter.2 ⟨hh,PF⟩)
      |false=>exact .inr (.inl (List.mem_filter.2 ⟨hh,by rw [PF];rfl⟩))
    have Aa4: ∀j,j∈Yv q Γ ops->j∉Fg q Γ ops:= λj hj=>by
     have:=(List.mem_filter.1 hj).2
     simpa using this
    have yV: ∀j,j∈Qt q Γ ops->j∉Fg q Γ ops:= λj hj=>Aa4 j (List.mem_filter.1 hj).1
    have Ag6: ∀j,j∈Qr q Γ ops->j∉Fg q Γ ops:= λj hj=>Aa4 j (List.mem_filter.1 hj).1
    have htl: ∀t,t∈Fg q Γ ops->t<ops.size:=by
     intro t ht
     unfold Fg at ht
     have: ∀(l:List Nat) (acc:List Nat),(∀i,i∈acc->i<ops.size)->(∀i,i∈l->i<ops.size)-> ∀i,i∈l.foldl (init:=acc) (λacc i=>match ops[i]? with
       |some o=>if SW q Γ o||o.after.any (λe=>Region.binds .any e&&acc.contains e.on) then acc++ [i] else acc
       |none=>acc)->i<ops.size:=by
      intro l
      induction l with
      |nil=>intro acc h1 _ i hi;exact h1 i hi
      |cons x l ih=>
       intro acc h1 h2 i hi
       simp only [List.foldl_cons] at hi
       refine ih _ ?_ (λi hi=>h2 i (by simp [hi])) i hi
       intro k hk
       split at hk
       ·split at hk
        ·rcases List.mem_append.1 hk with hk|hk
         ·exact h1 k hk
         ·simp at hk;rw [hk];exact h2 x (by simp)
        ·exact h1 k hk
       ·exact h1 k hk
     exact this (List.range ops.size) [] (by simp) (λi hi=>List.mem_range.1 hi) t ht
    rw [<-hlen]
    refine cO (q:=q) (X:=X) (T:=T) (Γ:=Γ) (tl:=Fg q Γ ops) (hd:=Qt q Γ ops) (st1:=s0) (λc a w hq=>by cases hq.1) Xi ?_ (Qr q Γ ops) [] _ st a _ (λj=>by simp)
     (λi hi=>wi (List.mem_filter.1 hi).2) (λj oj _ hl=>(by rw [hlen,getD_replicate_false] at hl;cases hl)) (by simp [hlen]) (λj=>by rw [hlen,getD_replicate_false];simp) (by rw [hlen];exact Abz) h0 hrel
    intro Aa s a' w' hc mU Agh hs hr PF
    subst hs
    have Ane:Tz ops (Fg q Γ ops) (Qr q Γ ops) Aa:=
     ⟨mU,λi hi=>(PF i).2 hi,hc,λt ht=>getD_in (by rw [mU];exact htl t ht) (by
      cases hg:Aa.getD t false with
      |false=>rfl
      |true=>exact absurd ht (Ag6 t ((PF t).1 hg)))⟩
    have HA:=xV (T:=T) (Γ:=Γ) Xi Aha Vl Gc yV st1 (Qt q Γ ops) _ s (λi hi=>hi) Ane Agh h1
    exact ic (X:=X) (P:=P) (Q:= λe a w=>e= .normal/\Q .normal a w) (g:=(Fg q Γ ops).length) hT Kl (λAa s a' w' hL hr=>by
     obtain ⟨Ams,rfl⟩:=hL
     exact ae (λe a w h=>h.1) Xi (Fg q Γ ops) Aa a' w' Ams (gx hT Kl _ _ st' a' w' hr he λa w h=>⟨rfl,hQ a w h⟩)) _ _ _ _ _ HA hr
   ·cases he
  split at he
  ·rename_i dK;exact go false dK he
  ·split at he
   ·rename_i dK;exact go true dK he
   ·cases he
theorem a7 (q:Bool): ∀(l:List Nat) (Aa:Array Bool),(Fc q ops l Aa).length<=l.length
 | [],_=>Nat.le_refl _
 |i::r,Aa=>by
  simp only [Fc]
  split
  ·simp only [List.length_cons];have:=a7 q r (Aa.setIfInBounds i true);omega
  ·simp only [List.length_cons];have:=a7 q r Aa;omega
theorem AB (hT:By P T) {st:St} {a:Act} (h:Ak X π st a w) {i:Nat} {o:Oper} (ho:ops[i]?=some o) (hp:fq ops i=true) {v:AV} (hv:Rr T Γ ops st o=some v):
  ∃u,Yields P ops o u a/\Ao X w π st.heap v u:=by
 unfold fq at hp
 rw [ho] at hp
 simp only at hp
 obtain ⟨dst,op,ty,pos,af,gd⟩:=o
 split at hp
 ·rename_i t h3 h4
  simp only at h3 h4;subst h3;subst h4
  refine ⟨a.tmps.getD t undef,jH rfl rfl,?_⟩
  simp only [Rr,Ru,Cm,Option.some.injEq] at hv
  subst hv
  exact h.2.tmps t
 ·rename_i x h3 h4
  simp only at h3 h4;subst h3;subst h4
  have e:=Bq h.2 x
  have fin:(∃ad,a.eval x= .pointer (some ad))->Yields P ops ⟨dst, .nilCheck x,ty,pos,af,none⟩ (a.eval x) a:= λ⟨ad,hx⟩=>
   .inl ⟨by simp [Region.wanted],λw=>by simp [execOp,hx]⟩
  simp only [Rr,Ru,Cm] at hv
  split at hv
  ·rename_i fr τ y hx
   simp only [Option.some.injEq] at hv;subst hv
   rw [hx] at e
   have e':=e
   obtain ⟨cs,hc,hv⟩:=e
   simp only [Cells] at hc
   obtain ⟨g,o,rfl,_⟩:=hc
   simp only [Au,Ty.Ac,Bool.false_eq_true,if_false,List.headD_cons] at hv
   exact ⟨_,fin ⟨_,hv⟩,e'⟩
  ·rename_i fr τ y hx
   simp only [Option.some.injEq] at hv;subst hv
   rw [hx] at e
   obtain ⟨cs,hc,hv⟩:=e
   simp only [Cells] at hc
   rcases hc with ⟨h0,_⟩|⟨y',g,o,h0,rfl,hr⟩
   ·cases h0
   simp only [Option.some.injEq] at h0;subst h0
   simp only [Au,Ty.Ac,Bool.false_eq_true,if_false,List.headD_cons] at hv
   exact ⟨_,fin ⟨_,hv⟩,[_],⟨g,o,rfl,hr⟩,by rw [hv];simp [Au,Ty.Ac]⟩
  ·rename_i l i hx
   simp only [Option.some.injEq] at hv;subst hv
   rw [hx] at e
   have e':=e
   obtain ⟨r,tid,vs,_,_,hv⟩:=e
   exact ⟨_,fin ⟨_,hv⟩,e'⟩
  ·rename_i l i hx
   simp only [Option.some.injEq] at hv;subst hv
   rw [hx] at e
   have e':=e
   obtain ⟨r,b,sz,n,_,_,_,_,hv⟩:=e
   exact ⟨_,fin ⟨_,hv⟩,e'⟩
  ·cases hv
 ·rename_i s x f h3 h4
  simp only at h3 h4;subst h3;subst h4
  simp only [Rr,Ru,Cm] at hv
  obtain ⟨u,h1,h2⟩:=Yo hT (st:=st) _ _ _ _ v (Bq h.2 x) hv
  refine ⟨u, .inl ⟨by simp [Region.wanted],λw=>?_⟩,h2⟩
  have:=h1 w
  simp only [execOp,Sem.run_bind]
  first
   |(rw [this];rfl)
   |simp [this]
 ·cases hp
theorem wU {i:Nat} (h:wj ops i=true):fq ops i=true:=by
 unfold wj at h
 unfold fq
 split at h
 ·rename_i o ho
  split at h
  ·rename_i h1 h2
   simp only [h1,h2]
  ·cases h
 ·cases h
theorem Yc (hT:By P T) (q:Bool) {Q:Exit->Act->World->Prop} (hQ: ∀c a w,¬Q (.panic c) a w) (Xi:Region.noSelect ops=true) {n:Nat} {st1:St} :
  ∀(l:List Nat) (Aa:Array Bool) (st:St) (a:Act) (w:World),Cw T Γ ops (Fc q ops l Aa) st=some st1->Rel X st a w->
   (∀a w,Rel X st1 a w->wpAny P .any ops Q n (Cq (Fc q ops l Aa) Aa) a w)->wpAny P .any ops Q ((Fc q ops l Aa).length+n) Aa a w
 | [],Aa,st,a,w,he,hr,hK=>by
  simp only [Fc,Cw,Option.some.injEq] at he
  subst he
  simp only [Fc,List.length_nil,Nat.zero_add]
  exact hK a w hr
 |k::l,Aa,st,a,w,he,hr,hK=>by
  simp only [Fc] at he hK⊢
  split
  ·rename_i hc
   rw [if_pos hc] at he hK
   simp only [Bool.and_eq_true] at hc
   obtain ⟨h0,h1,h2⟩:=hc
   have hp:fq ops k=true:=by
    cases q with
    |true=>exact h0
    |false=>exact wU h0
   simp only [Cw] at he
   split at he
   ·cases he
   rename_i o ho
   split at he
   rotate_left
   ·cases he
   rename_i v hv
   obtain ⟨π,hr⟩:=hr
   obtain ⟨u,hy,hu⟩:=AB (Γ:=Γ) hT hr ho hp hv
   rw [List.length_cons,show (Fc q ops l (Aa.setIfInBounds k true)).length+1+n=((Fc q ops l (Aa.setIfInBounds k true)).length+n)+1 by omega]
   refine wpAny_take ho Xi h2 h1 (λc a w hq=>absurd hq (hQ c _ w)) hy ?_
   exact Yc hT q hQ Xi l _ _ _ _ he ⟨π,hr.put o.dst hu⟩ hK
  ·rename_i hc
   rw [if_neg hc] at he hK
   exact Yc hT q hQ Xi l Aa st a w he hr hK
theorem ie (hT:By P T) (Kl:Gq P Γ) {Q:Exit->Act->World->Prop} {K:St->Prop} (hK: ∀st a w,K st->Rel X st a w->Q .normal a w):
  ∀(f:Nat) (Aa:Array Bool) (st:St) (a:Act) (w:World),anyS T Γ ops K f Aa st->Rel X st a w->wpAny P .any ops Q f Aa a w
 |0,Aa,st,a,w,h,hr=>⟨h.1,hK _ _ _ h.2 hr⟩
 |f+1,Aa,st,a,w,h,hr=>by
  refine ⟨λh0=>absurd h0 h.1,λi hi=>?_⟩
  obtain ⟨o,st',ho,he,cy⟩:=h.2 i hi
  obtain ⟨π,hr⟩:=hr
  unfold wpOp
  simp only [ho]
  exact Qp hT Kl hr o he λa' w' h'=>ie hT Kl hK f _ _ _ _ cy h'
def Ol (ops:Array Oper) (Aa:Array Bool):Prop:= ∀k a,Aa.getD k false=true->Region.waitsFor .any ops k a=true->Aa.getD a false=true
theorem Za {Aa:Array Bool} {i a:Nat} (h:i∈Region.ready .any ops Aa) (hw:Region.waitsFor .any ops i a=true):Aa.getD a false=true:=by
 obtain ⟨_,o,ho,Gc⟩:=mem_ready.1 h
 obtain ⟨o',ho',e,he,hb,rfl⟩:=Region.waitsFor_spec hw
 rw [ho] at ho'
 cases ho'
 exact Gc e he hb
theorem Ol.set {Aa:Array Bool} (hc:Ol ops Aa) {i:Nat} (hi:i∈Region.ready .any ops Aa):Ol ops (Aa.setIfInBounds i true):= λk a hk hw=>by
 by_cases hik:i=k
 ·subst hik
  exact getD_set_true (Za hi hw)
 ·rw [getD_set_ne false hik] at hk
  exact getD_set_true (hc k a hk hw)
theorem mI:Ol ops (Array.replicate ops.size false):= λk a hk _=>by
 rw [getD_replicate_false] at hk
 cases hk
theorem Vt (q:Bool): ∀(l:List Nat) (Aa:Array Bool),Ol ops Aa->Ol ops (Cq (Fc q ops l Aa) Aa)
 | [],Aa,h=>h
 |i::r,Aa,h=>by
  simp only [Fc]
  split
  ·rename_i hc
   rw [Bool.and_eq_true,Bool.and_eq_true] at hc
   have hi:i∈Region.ready .any ops Aa:=by simpa using hc.2.1
   exact Vt q r _ (h.set hi)
  ·exact Vt q r Aa h
theorem Qw: ∀(l:List Nat) (Aa:Array Bool),(Cq l Aa).size=Aa.size
 | [],_=>rfl
 |i::r,Aa=>by simp only [Cq];rw [Qw r];simp
theorem bF: ∀(l:List Nat) (Aa:Array Bool) (k:Nat),k∈l->k<Aa.size->(Cq l Aa).getD k false=true
 |i::r,Aa,k,h,hk=>by
  simp only [Cq]
  by_cases hr:k∈r
  ·exact bF r _ k hr (by simpa using hk)
  ·have:k=i:=(List.mem_cons.1 h).resolve_right hr
   subst this
   have hs: ∀(l:List Nat) (A:Array Bool),A.getD k false=true->(Cq l A).getD k false=true:=by
    intro l
    induction l with
    |nil=>exact λA h=>h
    |cons j l ih=>exact λA h=>ih _ (getD_set_true h)
   exact hs r _ (by simp [hk])
theorem Zz: ∀(l:List Nat) (Aa:Array Bool) (k:Nat),k∉l->(Cq l Aa).getD k false=Aa.getD k false
 | [],_,_,_=>rfl
 |i::r,Aa,k,h=>by
  simp only [Cq]
  rw [Zz r _ k λhk=>h (List.mem_cons_of_mem _ hk),getD_set_ne false (λe=>h (by rw [e];simp))]
def Hk (E:List Nat) (Aa:Array Bool):List Nat:=E.filter λr=>!Aa.getD r false
def Zu (ops:Array Oper) (r:Nat):Option Tmp:=(ops[r]?).bind (·.dst)
def gw (ops:Array Oper) (Q:List Nat):List Nat:=Q.filterMap (Zu ops)
def Mr (ops:Array Oper):List Nat->St->St
 | [],st=>st
 |r::Q,st=>(Mr ops Q st).put (Zu ops r) .undef
def KR (ops:Array Oper):List Nat->Act->Act->Prop
 | [],a,a'=>a'=a
 |r::Q,a,a'=> ∃u,KR ops Q (a.put (Zu ops r) u) a'
theorem VL {H:List (Nat×OB)} {v:Value} :Ao X w π H .undef v:=trivial
theorem dH (s:St) (d:Option Tmp) (v:AV) (t:Nat):(d=some t->(s.put d v).get t=v\/(s.put d v).get t= .undef)/\(d≠some t->(s.put d v).get t=s.get t):=by
 cases d with
 |none=>exact ⟨λh=>(by cases h),λ_=>rfl⟩
 |some e=>
  have key:(s.put (some e) v).get t=if e=t/\t<s.tmps.length then v else s.get t:=Lo _ _ _ _ _
  refine ⟨λh=>?_,λh=>?_⟩
  ·cases h
   rw [key]
   by_cases hl:t<s.tmps.length
   ·rw [if_pos ⟨rfl,hl⟩];exact .inl rfl
   ·rw [if_neg (λh=>hl h.2)]
    exact .inr (by unfold St.get;rw [List.getD_eq_getElem?_getD,List.getElem?_eq_none (by omega)];rfl)
  ·rw [key,if_neg]
   rintro ⟨rfl,_⟩
   exact h rfl
theorem fF (s:St) (d:Option Tmp) (v:AV):(s.put d v).heap=s.heap:=by cases d<;>rfl
theorem kl (s:St) (d:Option Tmp) (v:AV):(s.put d v).tmps.length=s.tmps.length:=by
 cases d with
 |none=>rfl
 |some d=>exact Up _ _ _
theorem Lk: ∀(Q:List Nat) (st:St),(Mr ops Q st).heap=st.heap
 | [],_=>rfl
 |r::Q,st=>by simp only [Mr];rw [fF,Lk Q]
theorem Qy: ∀(Q:List Nat) (st:St),(Mr ops Q st).tmps.length=st.tmps.length
 | [],_=>rfl
 |r::Q,st=>by simp only [Mr];rw [kl,Qy Q]
theorem Hb {Q:List Nat} {t:Nat} :t∈gw ops Q↔ ∃r∈Q,Zu ops r=some t:=List.mem_filterMap
theorem Ms: ∀(Q:List Nat) (st:St) (t:Nat),(t∈gw ops Q->(Mr ops Q st).get t= .undef)/\(t∉gw ops Q->(Mr ops Q st).get t=st.get t)
 | [],st,t=>⟨λh=>by simp [gw] at h,λ_=>rfl⟩
 |r::Q,st,t=>by
  obtain ⟨h1,h2⟩:=Ms Q st t
  obtain ⟨g1,g2⟩:=dH (Mr ops Q st) (Zu ops r) .undef t
  simp only [Mr]
  by_cases hd:Zu ops r=some t
  ·refine ⟨λ_=>(g1 hd).elim id id,λh=>absurd (Hb.2 ⟨r,List.mem_cons_self ..,hd⟩) h⟩
  ·refine ⟨λh=>?_,λh=>?_⟩
   ·rw [g2 hd]
    obtain ⟨q,hq,he⟩:=Hb.1 h
    rcases List.mem_cons.1 hq with rfl|hq
    ·exact absurd he hd
    ·exact h1 (Hb.2 ⟨q,hq,he⟩)
   ·rw [g2 hd]
    exact h2 λhm=>by
     obtain ⟨q,hq,he⟩:=Hb.1 hm
     exact h (Hb.2 ⟨q,List.mem_cons_of_mem _ hq,he⟩)
theorem qF {st s:St} {a:Act} (h:Ak X π st a w) (hh:s.heap=st.heap) (hl:s.tmps.length=st.tmps.length) (hg: ∀t,s.get t=st.get t\/s.get t= .undef):Ak X π s a w:=by
 refine ⟨by rw [hh];exact h.1,⟨by rw [hl];exact h.2.size,h.2.defers,λt=>?_⟩⟩
 rw [hh]
 rcases hg t with e|e
 ·rw [e];exact h.2.tmps t
 ·rw [e];exact VL
theorem BH {st s:St} {o:Oper} (hh:s.heap=st.heap) (hg: ∀t,t∈o.looksAt ops->s.get t=st.get t):Rr T Γ ops s o=Rr T Γ ops st o:=by
 obtain ⟨ts,H⟩:=s
 obtain ⟨ts',H'⟩:=st
 simp only at hh
 subst hh
 exact ve hg
theorem nt (hT:By P T) (Kl:Gq P Γ) {st:St} {a:Act} (h:Ak X π st a w) {i:Nat} {o:Oper} (ho:ops[i]?=some o) (hp:fu ops i=true) {v:AV} (hv:Rr T Γ ops st o=some v):
  ∃u,(∀(Q:Exit->Act->World->Prop) (K:Act->World->Prop),K (a.put o.dst u) w->wpOp P ops Q i K a w)/\Ao X w π st.heap v u:=by
 unfold fu at hp
 rw [ho] at hp
 simp only at hp
 have WB:o.guard=none:=by
  obtain ⟨dst,op,ty,pos,af,gd⟩:=o
  cases gd with
  |none=>rfl
  |some g=>split at hp<;>first|rfl|(rename_i h4;cases h4)|cases hp
 have hb:Ru T Γ st o=some v:=by
  unfold Rr at hv
  rw [WB] at hv
  exact hv
 have hw:Region.wanted o (yielded ops a.tmps)=true:=by simp [Region.wanted,WB]
 have fin: ∀s:Sem Value,execOp a.eval o=(do pure (.value (<-s)))->Cm T Γ st o=some v-> ∃u,(∀(Q:Exit->Act->World->Prop) (K:Act->World->Prop),K (a.put o.dst u) w->wpOp P ops Q i K a w)/\Ao X w π st.heap v u:=by
  intro s he hq
  have hg:=dw hT Kl h o v hq
  rw [he,Sem.run_bind] at hg
  cases hr:s.run P w with
  |ok u w'=>
   rw [hr] at hg
   obtain ⟨e,hu⟩:=(show w'=w/\Ao X w π st.heap v u from hg)
   subst e
   refine ⟨u,λQ K hK=>?_,hu⟩
   unfold wpOp
   simp only [ho]
   rw [if_pos hw]
   refine .inl ?_
   unfold Oper.wp
   rw [he,Sem.run_bind,hr]
   exact hK
  |halt x w'=>rw [hr] at hg;exact hg.elim
 obtain ⟨dst,op,ty,pos,af,gd⟩:=o
 simp only at WB
 subst WB
 split at hp
 ·rename_i x h3 h4
  simp only at h3;subst h3
  exact fin (pure (a.eval x)) (by simp [execOp]) hb
 ·rename_i x h3 h4
  simp only at h3;subst h3
  exact fin _ rfl hb
 ·rename_i x h3 h4
  simp only at h3;subst h3
  exact fin _ rfl hb
 ·rename_i x h3 h4
  simp only at h3;subst h3
  exact fin _ rfl hb
 ·cases hp
theorem PA {j:Nat} {oi oj:Oper} {v:Value} (hj:ops[j]?=some oj) (XC:oi.apart ops oj=true) (hsj: ∀cs b,oj.op≠ .select cs b)
  {Q:Exit->Act->World->Prop} (hQ: ∀c a w,¬Q (.panic c) a w) {K:Act->World->Prop} {a:Act} {w:World} (h:wpOp P ops Q j K (a.put oi.dst v) w):
  wpOp P ops Q j (λa' w'=>K (a'.put oi.dst v) w') a w:=by
 obtain ⟨h1,h2,h3⟩:=Oper.apart_spec XC
 unfold wpOp at*
 simp only [hj] at*
 rw [wanted_put oj a oi.dst v h1] at h
 split
 ·rename_i hw
  simp only [hw,if_true] at h
  rcases h with h|⟨ZZ,Agk⟩
  case inr=>exact .inr ⟨by unfold Oper.asks at*;rw [execOp_put oj hsj a oi.dst v h1] at ZZ;exact ZZ,Agk⟩
  refine .inl ?_
  unfold Oper.wp at*
  rw [execOp_put oj hsj a oi.dst v h1] at h
  generalize (execOp a.eval oj).run P w=r at*
  cases r with
  |ok n w'=>
   cases n<;>simp only [Oper.upon] at h⊢
   case value u=>rw [<-Act.put_comm a v u h2];exact h
   case skip=>rw [<-Act.put_comm a v undef h2];exact h
   case defer d=>
    rw [<-Act.put_comm _ v undef h2,<-Act.put_defers]
    exact h
   case enter f args=>
    refine Calls.mono h λe nI he=>?_
    cases e with
    |returned u=>show K ((a.put oj.dst u).put oi.dst v) nI;rw [<-Act.put_comm a v u h2];exact he
    |panicked c=>exact absurd he (hQ _ _ _)
    |outgrown=>exact he
   case row row args=>exact Rows.mono h λu nI he=>by rw [<-Act.put_comm a v u h2];exact he
  |halt x w'=>
   cases x<;>simp only [Oper.upon] at h⊢
   case panic u=>exact absurd h (hQ _ _ _)
 ·rename_i hw
  simp only [hw] at h
  rw [<-Act.put_comm a v undef h2];exact h
theorem uK: ∀ {Q:List Nat} {a a':Act},KR ops Q a a'->a'.defers=a.defers/\a'.tmps.size=a.tmps.size/\ ∀t,t∉gw ops Q->a'.tmps.getD t undef=a.tmps.getD t undef
 | [],a,a',h=>by cases h;exact ⟨rfl,rfl,λ_ _=>rfl⟩
 |r::Q,a,a',⟨u,h⟩=>by
  obtain ⟨h1,h2,h3⟩:=uK h
  have hp:(a.put (Zu ops r) u).defers=a.defers/\(a.put (Zu ops r) u).tmps.size=a.tmps.size:=by cases Zu ops r<;>simp [Act.put]
  refine ⟨h1.trans hp.1,h2.trans hp.2,λt ht=>?_⟩
  have hn:Zu ops r≠some t:= λe=>ht (Hb.2 ⟨r,List.mem_cons_self ..,e⟩)
  rw [h3 t λhm=>ht (by obtain ⟨q,hq,he⟩:=Hb.1 hm;exact Hb.2 ⟨q,List.mem_cons_of_mem _ hq,he⟩)]
  cases hd:Zu ops r with
  |none=>rfl
  |some d=>
   have Ek:d≠t:= λe=>hn (by rw [hd,e])
   simp [Act.put,Array.getElem?_setIfInBounds_ne Ek]
theorem TZ {Q:List Nat} {st:St} {a a':Act} (hp:KR ops Q a a') (h:Ak X π st a' w):Ak X π (Mr ops Q st) a w:=by
 obtain ⟨h1,h2,h3⟩:=uK hp
 refine ⟨by rw [Lk];exact h.1,⟨by rw [Qy,<-h2];exact h.2.size,by rw [<-h1];exact h.2.defers,λt=>?_⟩⟩
 rw [Lk]
 by_cases ht:t∈gw ops Q
 ·rw [(Ms Q st t).1 ht];exact VL
 ·rw [(Ms Q st t).2 ht,<-h3 t ht];exact h.2.tmps t
theorem vh {j:Nat} {oj:Oper} (hj:ops[j]?=some oj) (hsj: ∀cs b,oj.op≠ .select cs b) {Q:Exit->Act->World->Prop} (hQ: ∀c a w,¬Q (.panic c) a w) {K:Act->World->Prop} :
  ∀(L:List Nat) (a a':Act) (w:World),(∀r∈L,∃o,ops[r]?=some o/\o.apart ops oj=true)->KR ops L a a'->wpOp P ops Q j K a' w->wpOp P ops Q j (λa2 w2=> ∃a3,KR ops L a2 a3/\K a3 w2) a w
 | [],a,a',w,_,hp,h=>by cases hp;exact wpOp_mono (λa2 w2 hk=>⟨a2,rfl,hk⟩) h
 |r::L,a,a',w,XC,⟨u,hp⟩,h=>by
  obtain ⟨o,ho,ha⟩:=XC r (List.mem_cons_self ..)
  have hd:Zu ops r=o.dst:=by unfold Zu;rw [ho];rfl
  rw [hd] at hp
  have ih:=vh hj hsj hQ L _ a' w (λq hq=>XC q (List.mem_cons_of_mem _ hq)) hp h
  exact wpOp_mono (λa2 w2 ⟨a3,h1,h2⟩=>⟨a3,⟨u,by rw [hd];exact h1⟩,h2⟩) (PA hj ha hsj hQ ih)
def CM (ops:Array Oper):List Nat->Prop
 | []=>True
 |r::L=>(∀q∈r::L,∀o d,ops[r]?=some o->Zu ops q=some d->d∉o.looksAt ops)/\(∀q∈L,∀d,Zu ops r=some d->Zu ops q≠some d)/\CM ops L
def tJ (ops:Array Oper):List Nat->Prop
 | []=>True
 |r::L=>(∀q∈L,Region.waitsFor .any ops q r=true\/ ∀o d,ops[q]?=some o->Zu ops r=some d->d∉o.looksAt ops)/\tJ ops L
theorem CM.filter {p:Nat->Bool} : ∀ {L:List Nat},CM ops L->CM ops (L.filter p)
 | [],_=>trivial
 |r::L,⟨h1,h2,h3⟩=>by
  rw [List.filter_cons]
  split
  ·exact ⟨λq hq=>h1 q (by rcases List.mem_cons.1 hq with rfl|hq;exact List.mem_cons_self ..;exact List.mem_cons_of_mem _ (List.mem_filter.1 hq).1),λq hq=>h2 q (List.mem_filter.1 hq).1,h3.filter⟩
  ·exact h3.filter
theorem tJ.filter {p:Nat->Bool} : ∀ {L:List Nat},tJ ops L->tJ ops (L.filter p)
 | [],_=>trivial
 |r::L,⟨h1,h3⟩=>by
  rw [List.filter_cons]
  split
  ·exact ⟨λq hq=>h1 q (List.mem_filter.1 hq).1,h3.filter⟩
  ·exact h3.filter
theorem Ur {i j:Nat} {p:Oper->Oper->Bool} (h:mA ops i j p=true): ∃x y,ops[i]?=some x/\ops[j]?=some y/\p x y=true:=by
 unfold mA at h
 split at h
 ·rename_i x y h1 h2;exact ⟨x,y,h1,h2,h⟩
 ·cases h
theorem cd {x y:Oper} (h:kW ops x y=true): ∀d,x.dst=some d->d∉y.looksAt ops:= λd hd=>by
 unfold kW at h
 rw [hd] at h
 simpa using h
theorem yB {x y:Oper} (h:DK x y=true): ∀d,x.dst=some d->y.dst≠some d:= λd hd=>by
 unfold DK at h
 rw [hd] at h
 simpa using h
theorem Yn {r:Nat} {o:Oper} (h:ops[r]?=some o):Zu ops r=o.dst:=by unfold Zu;rw [h];rfl
theorem nj: ∀ {E:List Nat},wQ ops E=true->CM ops E/\tJ ops E
 | [],_=>⟨trivial,trivial⟩
 |r::E,h=>by
  simp only [wQ,Bool.and_eq_true,List.all_eq_true] at h
  obtain ⟨⟨h1,h2⟩,h3⟩:=h
  obtain ⟨g1,g2⟩:=nj h3
  refine ⟨⟨λq hq o d ho hd=>?_,λq hq d hd=>?_,g1⟩,λq hq=>?_,g2⟩
  ·rcases List.mem_cons.1 hq with rfl|hq
   ·obtain ⟨x,y,hx,hy,hp⟩:=Ur h1
    rw [ho] at hx hy;cases hx;cases hy
    rw [Yn ho] at hd
    exact cd hp d hd
   ·obtain ⟨x,y,hx,hy,hp⟩:=Ur (h2 q hq).1
    rw [ho] at hx;cases hx
    rw [Yn hy] at hd
    exact cd (Bool.and_eq_true_iff.1 hp).2 d hd
  ·obtain ⟨x,y,hx,hy,hp⟩:=Ur (h2 q hq).1
   rw [Yn hx] at hd
   rw [Yn hy]
   exact yB (Bool.and_eq_true_iff.1 hp).1 d hd
  ·have h4:=(h2 q hq).2
   rw [Bool.or_eq_true] at h4
   rcases h4 with h4|h4
   ·exact .inl h4
   ·refine .inr λo d ho hd=>?_
    obtain ⟨x,y,hx,hy,hp⟩:=Ur h4
    rw [ho] at hy;cases hy
    rw [Yn hx] at hd
    exact cd hp d hd
theorem ZO (hT:By P T) (Kl:Gq P Γ) {st:St} : ∀(L:List Nat) (a:Act),(∀r∈L,fu ops r=true/\ ∃o v,ops[r]?=some o/\Rr T Γ ops st o=some v/\ ∀d,o.dst=some d->st.get d=v)->CM ops L->
  Ak X π (Mr ops L st) a w-> ∃a',KR ops L a a'/\Ak X π st a' w
 | [],a,_,_,h=>⟨a,rfl,h⟩
 |r::L,a,hs,⟨f1,f2,f3⟩,h=>by
  obtain ⟨hr,o,v,ho,hv,hd⟩:=hs r (List.mem_cons_self ..)
  have hdo:=Yn ho
  have zb:Rr T Γ ops (Mr ops (r::L) st) o=some v:=by
   rw [BH (st:=st) (Lk _ _) λt ht=>(Ms _ _ _).2 λhm=>by
    obtain ⟨q,hq,he⟩:=Hb.1 hm
    exact f1 q hq o t ho he ht]
   exact hv
  obtain ⟨u,_,hu⟩:=nt hT Kl h ho hr zb
  have h2:=h.put o.dst hu
  have h3:Ak X π (Mr ops L st) (a.put o.dst u) w:=by
   refine qF h2 ?_ ?_ λt=>?_
   ·rw [fF,Lk,Lk]
   ·rw [kl,Qy,Qy]
   ·obtain ⟨g1,g2⟩:=dH (Mr ops (r::L) st) o.dst v t
    by_cases he:o.dst=some t
    ·have JK:t∉gw ops L:= λhm=>by
      obtain ⟨q,hq,RQ⟩:=Hb.1 hm
      exact f2 q hq t (by rw [hdo];exact he) RQ
     rw [(Ms L st t).2 JK,hd t he]
     rcases g1 he with g|g
     ·exact .inl g.symm
     ·by_cases hl:t<st.tmps.length
      ·refine .inl ?_
       rw [he]
       show v=((Nk (Mr ops (r::L) st).tmps t v).getD t .undef)
       rw [Lo,if_pos ⟨rfl,by rw [Qy];exact hl⟩]
      ·refine .inr ?_
       rw [<-hd t he]
       unfold St.get
       rw [List.getD_eq_getElem?_getD,List.getElem?_eq_none (by omega)]
       rfl
    ·rw [g2 he]
     have:(Mr ops (r::L) st).get t=(Mr ops L st).get t:=(dH (Mr ops L st) (Zu ops r) .undef t).2 (by rw [hdo];exact he)
     exact .inl this.symm
  obtain ⟨a',hp,cS⟩:=ZO hT Kl L _ (λq hq=>hs q (List.mem_cons_of_mem _ hq)) f3 h3
  exact ⟨a',⟨u,by rw [hdo];exact hp⟩,cS⟩
theorem QM: ∀ {L:List Nat},CM ops L->tJ ops L-> ∀ {i:Nat} {o:Oper},i∈L->ops[i]?=some o->(∀q∈L,Region.waitsFor .any ops i q=true->False)-> ∀q∈L,∀d,Zu ops q=some d->d∉o.looksAt ops
 | [],_,_,i,_,hi,_,_=>by cases hi
 |r::L,⟨f1,f2,f3⟩,⟨b1,b2⟩,i,o,hi,ho,hw=> λq hq d hd=>by
  by_cases hir:i=r
  ·subst hir
   exact f1 q hq o d ho hd
  ·have jN:=(List.mem_cons.1 hi).resolve_left hir
   rcases List.mem_cons.1 hq with rfl|gf
   ·rcases b1 i jN with h|h
    ·exact (hw q hq h).elim
    ·exact h o d ho hd
   ·exact QM f3 b2 jN ho (λq hq=>hw q (List.mem_cons_of_mem _ hq)) q gf d hd
theorem mL {Aa:Array Bool} (Vl:Aa.size=ops.size): ∀ {E:List Nat} {L:Array Bool} {r:Nat} {Q:List Nat},ef ops E L=true->(∀j,L.getD j false=true->Aa.getD j false=true)->Hk E Aa=r::Q->r∈Region.ready .any ops Aa
 | [],_,_,_,_,_,h=>by simp [Hk] at h
 |e::E,L,r,Q,hr,hl,hp=>by
  simp only [ef,Bool.and_eq_true,List.contains_iff_mem] at hr
  unfold Hk at hp
  rw [List.filter_cons] at hp
  by_cases he:Aa.getD e false=true
  ·rw [if_neg (by rw [he];simp)] at hp
   refine mL Vl hr.2 (λj hj=>?_) hp
   by_cases hej:e=j
   ·subst hej;exact he
   ·rw [getD_set_ne false hej] at hj;exact hl j hj
  ·have he:Aa.getD e false=false:=by simpa using he
   rw [if_pos (by rw [he];rfl)] at hp
   injection hp with uc JN
   subst uc
   obtain ⟨_,o,ho,Gc⟩:=mem_ready.1 hr.1
   have Ey:e<Aa.size:=by rw [Vl];exact (Array.getElem?_eq_some_iff.1 ho).1
   exact mem_ready.2 ⟨getD_in Ey he,o,ho,λx hx hb=>hl _ (Gc x hx hb)⟩
theorem aQ {Aa:Array Bool} {j:Nat} (h:Aa.getD j true=false):j<Aa.size:=by
 rcases Nat.lt_or_ge j Aa.size with h'|h'
 ·exact h'
 ·simp [Array.getElem?_eq_none h'] at h
theorem tH (hT:By P T) (Kl:Gq P Γ) {Q:Exit->Act->World->Prop} (hQ: ∀c a w,¬Q (.panic c) a w) {K:St->Prop} (hK: ∀st a w,K st->Rel X st a w->Q .normal a w) (Xi:Region.noSelect ops=true)
  {E:List Nat} {L0:Array Bool} (hE:fG ops E L0=true): ∀(n f:Nat) (Aa LA:Array Bool) (st:St) (a:Act) (w:World),n=f+(Hk E Aa).length->Aa.size=ops.size->LA.size=ops.size->
   (∀j,LA.getD j false=(Aa.getD j false||E.contains j))->Ol ops Aa->(∀j,L0.getD j false=true->Aa.getD j false=true)->rW T Γ ops E K f LA st->Rel X (Mr ops (Hk E Aa) st) a w->wpAny P .any ops Q n Aa a w:=by
 simp only [fG,Bool.and_eq_true,List.all_eq_true] at hE
 obtain ⟨⟨hre,hry⟩,hpr,XC⟩:=hE
 obtain ⟨Agb,mQ⟩:=nj hpr
 have key: ∀(n f:Nat) (Aa LA:Array Bool) (st:St) (a:Act) (w:World),n=f+(Hk E Aa).length->Aa.size=ops.size->LA.size=ops.size->
   (∀j,LA.getD j false=(Aa.getD j false||E.contains j))->Ol ops Aa->(∀j,L0.getD j false=true->Aa.getD j false=true)->rW T Γ ops E K f LA st->Rel X (Mr ops (Hk E Aa) st) a w->
   (∀j,j∈Region.ready .any ops Aa->j∉E->j∈Region.ready .any ops LA)/\(Region.ready .any ops Aa= []->Q .normal a w/\f=0/\Hk E Aa= []):=by
  intro n f Aa LA st a w hn bz jd VZ Kw VY pH hrel
  have h1: ∀j,j∈Region.ready .any ops Aa->j∉E->j∈Region.ready .any ops LA:= λj hj hjE=>by
   obtain ⟨l8,o,ho,Gc⟩:=mem_ready.1 hj
   have Ey:=aQ l8
   refine mem_ready.2 ⟨getD_in (by omega) ?_,o,ho,λe he hb=>by rw [VZ,Gc e he hb];rfl⟩
   rw [VZ,getD_both l8]
   simpa using hjE
  refine ⟨h1,λh0=>?_⟩
  cases hpe:Hk E Aa with
  |cons r L=>
   have:=mL bz hry VY hpe
   rw [h0] at this
   cases this
  |nil=>
   have Gc: ∀r,r∈E->Aa.getD r false=true:= λr hr=>by
    have:r∉Hk E Aa:=by rw [hpe];simp
    unfold Hk at this
    rw [List.mem_filter] at this
    by_cases hl:Aa.getD r false=true
    ·exact hl
    ·exact absurd ⟨hr,by simpa using hl⟩ this
   have hb: ∀j,j∈Region.ready .any ops LA->j∈Region.ready .any ops Aa:= λj hj=>by
    obtain ⟨l8,o,ho,hw⟩:=mem_ready.1 hj
    have Ey:=aQ l8
    have he: ∀k,LA.getD k false=Aa.getD k false:= λk=>by
     rw [VZ]
     by_cases hk:k∈E
     ·rw [Gc k hk];rfl
     ·rw [show E.contains k=false by simpa using hk,Bool.or_false]
    exact mem_ready.2 ⟨getD_in (by omega) (by rw [<-he];exact getD_both l8),o,ho,λe hx hbd=>by rw [<-he];exact hw e hx hbd⟩
   cases f with
   |zero=>
    obtain ⟨_,_,hk⟩:=pH
    rw [hpe] at hrel
    exact ⟨hK _ _ _ hk hrel,rfl,rfl⟩
   |succ f=>
    obtain ⟨_,Ek,_⟩:=pH
    obtain ⟨j,hj⟩:=List.exists_mem_of_ne_nil _ Ek
    have:=hb j hj
    rw [h0] at this
    cases this
 intro n
 induction n with
 |zero=>
  intro f Aa LA st a w hn bz jd VZ Kw VY pH hrel
  obtain ⟨k1,k2⟩:=key 0 f Aa LA st a w hn bz jd VZ Kw VY pH hrel
  have hf:f=0:=by omega
  have hp:Hk E Aa= []:=List.length_eq_zero_iff.1 (by omega)
  subst hf
  obtain ⟨_,hr,_⟩:=pH
  have h0:Region.ready .any ops Aa= []:=List.eq_nil_iff_forall_not_mem.2 λj hj=>by
   by_cases hjE:j∈E
   ·have l8:=getD_both (mem_ready.1 hj).1
    have:j∈Hk E Aa:=List.mem_filter.2 ⟨hjE,by rw [l8];rfl⟩
    rw [hp] at this
    cases this
   ·have:=k1 j hj hjE
    rw [hr] at this
    cases this
  exact ⟨h0,(k2 h0).1⟩
 |succ n ih=>
  intro f Aa LA st a w hn bz jd VZ Kw VY pH hrel
  obtain ⟨k1,k2⟩:=key (n+1) f Aa LA st a w hn bz jd VZ Kw VY pH hrel
  have On:UH T Γ ops E LA st:=by cases f<;>exact pH.1
  have RK: ∀r∈Hk E Aa,r∈E/\Aa.getD r false=false:= λr hr=>by
   obtain ⟨h1,h2⟩:=List.mem_filter.1 hr
   exact ⟨h1,by simpa using h2⟩
  have Aar: ∀r∈Hk E Aa,fu ops r=true/\ ∃o v,ops[r]?=some o/\Rr T Γ ops st o=some v/\ ∀d,o.dst=some d->st.get d=v:= λr hr=>by
   obtain ⟨h1,h2⟩:=RK r hr
   refine ⟨hre r h1,(On r h1).resolve_left λhw=>?_⟩
   unfold oN at hw
   obtain ⟨j,_,hj⟩:=List.any_eq_true.1 hw
   simp only [Bool.and_eq_true,Bool.not_eq_true'] at hj
   obtain ⟨hj1,hj2,hj3⟩:=hj
   rw [VZ,hj1,Bool.or_false] at hj2
   have:=Kw j r hj2 hj3
   rw [h2] at this
   cases this
  refine ⟨λh0=>(k2 h0).1,λi hi=>?_⟩
  obtain ⟨π,hrel⟩:=hrel
  have hiw: ∀q∈Hk E Aa,Region.waitsFor .any ops i q=true->False:= λq hq hw=>by
   have:=Za hi hw
   rw [(RK q hq).2] at this
   cases this
  obtain ⟨l8,oi,hoi,_⟩:=mem_ready.1 hi
  have Ey:=aQ l8
  by_cases hiE:i∈E
  ·have PH:i∈Hk E Aa:=List.mem_filter.2 ⟨hiE,by rw [getD_both l8];rfl⟩
   obtain ⟨hrd,o,v,ho,hv,hd⟩:=Aar i PH
   have hnl:=QM (Agb.filter (p:= λr=>!Aa.getD r false)) (mQ.filter (p:= λr=>!Aa.getD r false)) PH ho hiw
   have zb:Rr T Γ ops (Mr ops (Hk E Aa) st) o=some v:=by
    rw [BH (st:=st) (Lk _ _) λt ht=>(Ms _ _ _).2 λhm=>by
     obtain ⟨q,hq,he⟩:=Hb.1 hm
     exact hnl q hq t he ht]
    exact hv
   obtain ⟨u,hy,hu⟩:=nt hT Kl hrel ho hrd zb
   refine hy Q _ ?_
   have hpe: ∀q,q∈Hk E (Aa.setIfInBounds i true)↔q∈Hk E Aa/\q≠i:= λq=>by
    unfold Hk
    rw [List.mem_filter,List.mem_filter]
    by_cases hqi:q=i
    ·subst hqi
     simp [Ey]
    ·rw [getD_set_ne false (Ne.symm hqi)]
     exact ⟨λh=>⟨h,hqi⟩,λh=>h.1⟩
   have hlen:(Hk E Aa).length=(Hk E (Aa.setIfInBounds i true)).length+1:=by
    have JK: ∀(E:List Nat) (L:Array Bool),ef ops E L=true->E.Nodup/\ ∀r∈E,L.getD r true=false:=by
     intro E
     induction E with
     |nil=>exact λL _=>⟨List.nodup_nil,λr hr=>by cases hr⟩
     |cons e E ihE=>
      intro L h
      simp only [ef,Bool.and_eq_true,List.contains_iff_mem] at h
      obtain ⟨g1,g2⟩:=ihE _ h.2
      have he:=(mem_ready.1 h.1).1
      have gI:=aQ he
      refine ⟨List.nodup_cons.2 ⟨λhm=>?_,g1⟩,λr hr=>?_⟩
      ·have:=g2 e hm
       simp [gI] at this
      ·rcases List.mem_cons.1 hr with rfl|hr
       ·exact he
       ·have Ek:e≠r:= λe'=>by subst e';have:=g2 e hr;simp [gI] at this
        have:=g2 r hr
        rw [getD_set_ne true Ek] at this
        exact this
    have hEn:=(JK E L0 hry).1
    have Ang: ∀L:List Nat,L.Nodup->i∈L->(L.filter λr=>!Aa.getD r false).length=(L.filter λr=>!(Aa.setIfInBounds i true).getD r false).length+1:=by
     intro L
     induction L with
     |nil=>exact λ_ h=>by cases h
     |cons x L ihL=>
      intro hn hm
      obtain ⟨hx,hn⟩:=List.nodup_cons.1 hn
      rw [List.filter_cons,List.filter_cons]
      by_cases hxi:x=i
      ·subst hxi
       rw [if_pos (by rw [getD_both l8];rfl),if_neg (by simp [Ey])]
       have:L.filter (λr=>!Aa.getD r false)=L.filter (λr=>!(Aa.setIfInBounds x true).getD r false):=List.filter_congr λq hq=>by
        rw [getD_set_ne false (λe=>hx (by rw [e];exact hq))]
       rw [List.length_cons,this]
      ·have hm:=(List.mem_cons.1 hm).resolve_left (Ne.symm hxi)
       rw [getD_set_ne false (Ne.symm hxi)]
       split
       ·rw [List.length_cons,List.length_cons,ihL hn hm]
       ·exact ihL hn hm
    exact Ang E hEn hiE
   refine ih f (Aa.setIfInBounds i true) LA st _ w (by omega) (by simp [bz]) jd (λj=>?_) (Kw.set hi) (λj hj=>getD_set_true (VY j hj)) pH ⟨π,?_⟩
   ·rw [VZ]
    by_cases dI:i=j
    ·subst dI
     rw [show E.contains i=true by simpa using hiE,Bool.or_true,Bool.or_true]
    ·rw [getD_set_ne false dI]
   ·have h2:=hrel.put o.dst hu
    refine qF h2 ?_ ?_ λt=>?_
    ·rw [fF,Lk,Lk]
    ·rw [kl,Qy,Qy]
    ·have hdo:=Yn ho
     by_cases hm:t∈gw ops (Hk E (Aa.setIfInBounds i true))
     ·exact .inr ((Ms _ _ _).1 hm)
     ·rw [(Ms _ _ _).2 hm]
      obtain ⟨g1,g2⟩:=dH (Mr ops (Hk E Aa) st) o.dst v t
      by_cases he:o.dst=some t
      ·rw [hd t he]
       rcases g1 he with g|g
       ·exact .inl g.symm
       ·by_cases hl:t<st.tmps.length
        ·refine .inl ?_
         rw [he]
         show v=((Nk (Mr ops (Hk E Aa) st).tmps t v).getD t .undef)
         rw [Lo,if_pos ⟨rfl,by rw [Qy];exact hl⟩]
        ·refine .inr ?_
         rw [<-hd t he]
         unfold St.get
         rw [List.getD_eq_getElem?_getD,List.getElem?_eq_none (by omega)]
         rfl
      ·rw [g2 he]
       refine .inl ((Ms _ _ _).2 λhm2=>?_).symm
       obtain ⟨q,hq,RQ⟩:=Hb.1 hm2
       by_cases hqi:q=i
       ·subst hqi
        rw [hdo] at RQ
        exact he RQ
       ·exact hm (Hb.2 ⟨q,(hpe q).2 ⟨hq,hqi⟩,RQ⟩)
  ·cases f with
   |zero=>
    obtain ⟨_,hr,_⟩:=pH
    have:=k1 i hi hiE
    rw [hr] at this
    cases this
   |succ f=>
    obtain ⟨_,_,Agp⟩:=pH
    obtain ⟨o,st',ho,he,cy⟩:=Agp i (k1 i hi hiE)
    obtain ⟨a',RO,Ug⟩:=ZO hT Kl (Hk E Aa) a Aar Agb.filter hrel
    have gK:wpOp P ops Q i (λa2 w2=>Rel X st' a2 w2) a' w:=by
     unfold wpOp
     simp only [ho]
     exact Qp hT Kl Ug o he λa2 w2 h2=>h2
    have yX:=vh (Q:=Q) ho (λcs b=>Region.noSelect_spec Xi i o cs b ho) hQ (Hk E Aa) a a' w (λr hr=>?_) RO gK
    ·refine wpOp_mono (λa2 w2 hk=>?_) yX
     obtain ⟨a3,hp3,π3,hr3⟩:=hk
     have hpe:Hk E (Aa.setIfInBounds i true)=Hk E Aa:=by
      unfold Hk
      refine List.filter_congr λq hq=>?_
      rw [getD_set_ne false (λe=>hiE (by rw [e];exact hq))]
     refine ih f (Aa.setIfInBounds i true) (LA.setIfInBounds i true) st' a2 w2 (by rw [hpe];omega) (by simp [bz]) (by simp [jd]) (λj=>?_) (Kw.set hi) (λj hj=>getD_set_true (VY j hj)) cy ⟨π3,by rw [hpe];exact TZ hp3 hr3⟩
     by_cases dI:i=j
     ·subst dI
      simp [Ey,bz▸Ey,jd]
     ·rw [getD_set_ne false dI,getD_set_ne false dI,VZ]
    ·obtain ⟨hrE,XR⟩:=RK r hr
     have h3:=List.all_eq_true.1 (List.all_eq_true.1 XC r hrE) i (List.mem_range.2 (by omega))
     simp only [Bool.or_eq_true] at h3
     rcases h3 with ((h3|h3)|h3)|h3
     ·exact absurd (by simpa using h3) hiE
     ·have:=VY i h3
      rw [getD_both l8] at this
      cases this
     ·exact (hiw r hr h3).elim
     ·obtain ⟨x,y,hx,hy,hp⟩:=Ur h3
      rw [ho] at hy;cases hy
      exact ⟨x,hx,hp⟩
theorem jD: ∀(E:List Nat) (s0 s1:St),Cw T Γ ops E s0=some s1->s1.heap=s0.heap/\s1.tmps.length=s0.tmps.length/\ ∀t,t∉gw ops E->s1.get t=s0.get t
 | [],s0,s1,h=>by
  simp only [Cw,Option.some.injEq] at h
  subst h
  exact ⟨rfl,rfl,λ_ _=>rfl⟩
 |r::E,s0,s1,h=>by
  simp only [Cw] at h
  split at h
  ·cases h
  rename_i o ho
  split at h
  rotate_left
  ·cases h
  rename_i v hv
  obtain ⟨h1,h2,h3⟩:=jD E _ _ h
  refine ⟨by rw [h1,fF],by rw [h2,kl],λt ht=>?_⟩
  rw [h3 t λhm=>ht (by obtain ⟨q,hq,he⟩:=Hb.1 hm;exact Hb.2 ⟨q,List.mem_cons_of_mem _ hq,he⟩)]
  exact (dH s0 o.dst v t).2 λe=>ht (Hb.2 ⟨r,List.mem_cons_self ..,by rw [Yn ho];exact e⟩)
theorem uF: ∀ {E:List Nat} {L0:Array Bool},ef ops E L0=true-> ∀r∈E,L0.getD r true=false
 | [],_,_,_,hr=>by cases hr
 |e::E,L0,h,r,hr=>by
  simp only [ef,Bool.and_eq_true,List.contains_iff_mem] at h
  have he:=(mem_ready.1 h.1).1
  rcases List.mem_cons.1 hr with rfl|hr
  ·exact he
  ·have h2:=uF h.2 r hr
   have Ek:e≠r:= λe'=>by subst e';simp [aQ he] at h2
   rw [getD_set_ne true Ek] at h2
   exact h2
theorem tG (hT:By P T) (Kl:Gq P Γ) {Q:Exit->Act->World->Prop} (hQ: ∀c a w,¬Q (.panic c) a w) {K:St->Prop} (hK: ∀st a w,K st->Rel X st a w->Q .normal a w) (Xi:Region.noSelect ops=true)
  {E:List Nat} {L0:Array Bool} (hE:fG ops E L0=true) {n:Nat} (hn:E.length<=n) {Ye st1:St} (h1:Cw T Γ ops E Ye=some st1) (h2:rW T Γ ops E K (n-E.length) (Cq E L0) st1)
  (Vl:L0.size=ops.size) (Kw:Ol ops L0) {a:Act} {w:World} (hr:Rel X Ye a w):wpAny P .any ops Q n L0 a w:=by
 have hE':=hE
 simp only [fG,Bool.and_eq_true] at hE'
 have l8:=uF hE'.1.2
 have hp:Hk E L0=E:=List.filter_eq_self.2 λr hr=>by rw [getD_both (l8 r hr)];rfl
 refine tH hT Kl hQ hK Xi hE n (n-E.length) L0 (Cq E L0) st1 a w (by rw [hp];omega) Vl (by rw [Qw];exact Vl) (λj=>?_) Kw (λj hj=>hj) h2 ?_
 ·by_cases hj:j∈E
  ·rw [bF E L0 j hj (aQ (l8 j hj)),show E.contains j=true by simpa using hj,Bool.or_true]
  ·rw [Zz E L0 j hj,show E.contains j=false by simpa using hj,Bool.or_false]
 ·obtain ⟨π,hr⟩:=hr
  obtain ⟨g1,g2,g3⟩:=jD E _ _ h1
  refine ⟨π,qF hr (by rw [Lk,g1]) (by rw [Qy,g2]) λt=>?_⟩
  rw [hp]
  by_cases ht:t∈gw ops E
  ·exact .inr ((Ms _ _ _).1 ht)
  ·exact .inl (((Ms _ _ _).2 ht).trans (g3 t ht))
theorem GC (hT:By P T) (Kl:Gq P Γ) (hm:P.follows .mixedOrders=true) {Q:Exit->Act->World->Prop} {id:Nat} {draw:Bool} {st:St} {K:St->Prop} {a:Act} (h:Rel X st a w)
  (he:vr T Γ ops draw st K) (hQ: ∀st' a' w',K st'->Rel X st' a' w'->Q .normal a' w'):(Code.region id ops draw).wp P Q a w:=by
 rcases he with ⟨st',h1,h2⟩|⟨rfl,Xi,Ye,h1,h2⟩
 ·exact lx hT Kl hm h h1 λa' w' h'=>hQ st' a' w' h2 h'
 ·refine wp_mono (Q:= λe a w=>e= .normal/\Q .normal a w) ?_ λe a w h=>h.1▸h.2
  refine wp_region_any hm ?_
  have hrel:Rel X st a {w with drawn:=w.drawn+1} :=by
   obtain ⟨π,h⟩:=h
   exact ⟨π,h.quiet ⟨rfl,rfl,rfl,Nat.le_refl _,λ_ _=>rfl⟩⟩
  have hlen:(Is ops).length<=ops.size:=by
   have:=a7 (ops:=ops) (!fb false ops) (List.range ops.size) (Array.replicate ops.size false)
   rw [List.length_range] at this
   exact this
  have RJ:(Array.replicate ops.size false).size=ops.size:=by simp
  have hmv:(Cq (Is ops) (Array.replicate ops.size false)).size=ops.size:=by rw [Qw,RJ]
  have:=Yc hT (!fb false ops) (X:=X) (P:=P) (T:=T) (Γ:=Γ) (Q:= λe a w=>e= .normal/\Q .normal a w) (n:=ops.size-(Is ops).length) (st1:=Ye) (λc a w hq=>by cases hq.1) Xi (List.range ops.size) (Array.replicate ops.size false) st a _ h1 hrel λa' w' h'=>by
   rcases h2 with h2|⟨E,st1,hE,hEn,hE1,hE2⟩
   ·exact ie hT Kl (λst' a' w' hk hr=>⟨rfl,hQ st' a' w' hk hr⟩) _ _ _ _ _ h2 h'
   ·exact tG hT Kl (λc a w hq=>by cases hq.1) (λst' a' w' hk hr=>⟨rfl,hQ st' a' w' hk hr⟩) Xi hE hEn hE1 hE2 hmv (Vt _ _ _ mI) h'
  have e:(Fc (!fb false ops) ops (List.range ops.size) (Array.replicate ops.size false)).length+(ops.size-(Is ops).length)=ops.size:=by
   have e2:(Fc (!fb false ops) ops (List.range ops.size) (Array.replicate ops.size false)).length=(Is ops).length:=rfl
   omega
  rw [e] at this
  exact this
end
end Go.Proofs.YtfolipnappekaaaGreat
