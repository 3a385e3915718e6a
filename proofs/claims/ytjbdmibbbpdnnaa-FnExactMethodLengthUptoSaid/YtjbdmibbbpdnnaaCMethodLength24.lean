/-
  Part 25 of the proof that the statement FnExactMethodLength holds.
-/
import Derived.Test.YtjbdmibbbpdnnaaCMethodLength23
namespace Go.Proofs.Ytjbdmibbbpdnnaa
open Go.RowKit
section
variable {P:Program} {T:Tab} {Γ:Env} {X:Ctx} {w w':World} {π:Pi} {ops:Array Oper} {hd tl:List Nat}
structure Ru (ops:Array Oper) (tl fl:List Nat) (Ad:Array Bool):Prop where
 size:Ad.size=ops.size
 done: ∀i,i∈fl->Ad.getD i false=true
 closed: ∀j oj,ops[j]?=some oj->Ad.getD j false=true-> ∀e∈oj.after,Region.binds .any e=true->Ad.getD e.on false=true
 tail: ∀t,t∈tl->Ad.getD t true=false
theorem Ru.set {fl:List Nat} {i:Nat} {Ad:Array Bool} (inv:Ru ops tl fl Ad) (hi:i∈Region.ready .any ops Ad) (Nq:i∉tl):Ru ops tl fl (Ad.setIfInBounds i true):=by
 obtain ⟨_,oi,hoi,Ia⟩:=mem_ready.1 hi
 refine ⟨by simp [inv.size],λk hk=>getD_set_true (inv.done k hk),λj oj hj hl e he hb=>?_,λt ht=>by
  have Ex:i≠t:= λe=>Nq (by rw [e];exact ht)
  rw [getD_set_ne true Ex];exact inv.tail t ht⟩
 by_cases jv:i=j
 ·subst jv
  have:oj=oi:=Option.some.inj (hj.symm.trans hoi)
  subst this
  exact getD_set_true (Ia e he hb)
 ·rw [getD_set_ne false jv] at hl
  exact getD_set_true (inv.closed j oj hj hl e he hb)
theorem yl (k:Nat) (r:List Nat) (h:(r.all λt=>(k::r).any λk=>Region.waitsFor .any ops t k)=true): ∀t,t∈r-> ∃k',(k'=k\/k'∈r)/\Region.waitsFor .any ops t k'=true:= λt ht=>by
 obtain ⟨k',h1,h2⟩:=List.any_eq_true.1 (List.all_eq_true.1 h t ht)
 exact ⟨k',List.mem_cons.1 h1,h2⟩
theorem xx {fl:List Nat} {Ad:Array Bool} (hs:o0 ops hd tl=true) (inv:Ru ops tl fl Ad) (Wi: ∀i,i∈hd->i<ops.size):
  ∀(d i:Nat),ops.size-i=d->i∈hd->Ad.getD i true=false-> ∀t,t∈tl->t∉Region.ready .any ops Ad:=by
 cases tl with
 |nil=>intro d i _ _ _ t ht;cases ht
 |cons f r=>
  simp only [o0,Bool.and_eq_true] at hs
  obtain ⟨eJ,BY⟩:=hs
  intro d
  induction d using Nat.strongRecOn with
  |_ d ih=>
   intro i hd' hi IC t ht hr
   obtain ⟨_,ot,hot,Ia⟩:=mem_ready.1 hr
   rcases List.mem_cons.1 ht with rfl|ie
   ·have h1:=List.all_eq_true.1 eJ i hi
    obtain ⟨j,hj,hj2⟩:=List.any_eq_true.1 h1
    simp only [Bool.and_eq_true,decide_eq_true_eq] at hj2
    obtain ⟨oj,TQ,e,he,hb,hon⟩:=Region.waitsFor_spec hj2.2
    rcases List.mem_cons.1 hj with rfl|PY
    ·have:oj=ot:=Option.some.inj (TQ.symm.trans hot)
     subst this
     have h2:=Ia e he hb
     rw [hon,getD_both IC] at h2
     cases h2
    ·cases hl:Ad.getD j false with
     |true=>
      have h2:=inv.closed j oj TQ hl e he hb
      rw [hon,getD_both IC] at h2
      cases h2
     |false=>
      have hjs:j<Ad.size:=by rw [inv.size];exact Wi j PY
      have:=Wi j PY
      exact ih (ops.size-j) (by omega) j rfl PY (getD_in hjs hl) t (by simp) hr
   ·obtain ⟨k',h1,h2⟩:=yl f r BY t ie
    obtain ⟨o',ZD,e,he,hb,hon⟩:=Region.waitsFor_spec h2
    have:o'=ot:=Option.some.inj (ZD.symm.trans hot)
    subst this
    have h3:=Ia e he hb
    have hk:k'∈f::r:=by rcases h1 with rfl|h1<;>simp [*]
    rw [hon,getD_both (inv.tail k' hk)] at h3
    cases h3
def IF (T:Tab) (Γ:Env) (ops:Array Oper) (hd:List Nat) (L:Array Bool->St->Prop):Nat->Array Bool->St->Prop
 |0,Ad,st=>L Ad st
 |f+1,Ad,st=>
  Region.ready .any ops Ad≠ []/\ ∀i∈Region.ready .any ops Ad,i∈hd/\ ∃o v,ops[i]?=some o/\bL T Γ ops st o=some v/\IF T Γ ops hd L f (Ad.setIfInBounds i true) (st.put o.dst v)
theorem uK (hT:Cd P T) (Mi:Hy P Γ) {Q:Exit->Act->World->Prop} {K:Act->World->Prop} {st:St} {a:Act} (h:Rel X st a w) {i:Nat} {o:Oper} {v:AV} (ho:ops[i]?=some o) (hv:bL T Γ ops st o=some v)
  (hK: ∀a' w',Rel X (st.put o.dst v) a' w'->K a' w'):wpOp P ops Q i K a w:=by
 obtain ⟨π,h⟩:=h
 have run:Ry T Γ st o=some v->o.wp P a w K Q:= λhe=>lk (X:=X) (st':=st) (av:=v) (vF hT Mi h o v he) hK
 have skip:v= .at .skip->K (a.put o.dst undef) w:= λe=>by subst e;exact hK _ _ ⟨π,h.put o.dst xf⟩
 unfold wpOp
 simp only [ho]
 unfold bL at hv
 split at hv
 ·rename_i hg
  rw [if_pos (by simp [Region.wanted,hg])]
  exact .inl (run hv)
 ·rename_i j want hg
  split at hv
  ·rename_i b hb
   have hy:=(Zt h j).1 b hb
   split at hv
   ·rename_i yD
    rw [if_pos (by simp only [Region.wanted,hg,hy];simpa using yD)]
    exact .inl (run hv)
   ·rename_i yD
    rw [if_neg (by simp only [Region.wanted,hg,hy];simpa using yD)]
    simp only [Option.some.injEq] at hv
    exact skip hv.symm
  ·rename_i hb
   have hy:=(Zt h j).2 hb
   rw [if_neg (by simp [Region.wanted,hg,hy])]
   simp only [Option.some.injEq] at hv
   exact skip hv.symm
  ·cases hv
theorem fe (hT:Cd P T) (Mi:Hy P Γ) {g:Nat} {L:Array Bool->St->Prop} {Q:Exit->Act->World->Prop} (hL: ∀Ad st a w,L Ad st->Rel X st a w->wpAny P .any ops Q g Ad a w):
  ∀(f:Nat) (Ad:Array Bool) (st:St) (a:Act) (w:World),IF T Γ ops hd L f Ad st->Rel X st a w->wpAny P .any ops Q (f+g) Ad a w
 |0,Ad,st,a,w,h,hr=>by rw [Nat.zero_add];exact hL _ _ _ _ h hr
 |f+1,Ad,st,a,w,h,hr=>by
  rw [show f+1+g=(f+g)+1 by omega]
  refine ⟨λh0=>absurd h0 h.1,λi hi=>?_⟩
  obtain ⟨_,o,v,ho,hv,eI⟩:=h.2 i hi
  exact uK hT Mi hr ho hv λa' w' h'=>fe hT Mi hL f _ _ _ _ eI h'
theorem xU {fl:List Nat} {i:Nat} {oi:Oper} {v:AV} {L:Array Bool->St->Prop} (hi:ops[i]?=some oi) (hs:o0 ops hd tl=true) (Wi: ∀i,i∈hd->i<ops.size) (Nq:i∈hd)
  (Ia: ∀j,j<ops.size->j∈fl\/j∈hd\/j∈tl) (vV: ∀j,j∈hd->j∉tl) (Aah: ∀Ad st,L Ad st-> ∀j∈Region.ready .any ops Ad,j∈tl):
  ∀(f:Nat) (Ad:Array Bool) (st:St),Ru ops tl fl Ad->
   (∀j oj,ops[j]?=some oj->j≠i->Ad.getD j true=false->(∀e∈oj.after,Region.binds .any e=true->e.on≠i)->oi.apart ops oj=true)->
   i∈Region.ready .any ops Ad->bL T Γ ops st oi=some v->
   IF T Γ ops hd L f (Ad.setIfInBounds i true) (st.put oi.dst v)->IF T Γ ops hd L (f+1) Ad st:=by
 intro f
 have Abw: ∀Ad,Ru ops tl fl Ad->i∈Region.ready .any ops Ad-> ∀j,j∈Region.ready .any ops Ad->j∈hd:=by
  intro Ad inv hr j hj
  obtain ⟨IC,oj,TQ,_⟩:=mem_ready.1 hj
  rcases Ia j (Array.getElem?_eq_some_iff.1 TQ).1 with h|h|h
  ·have h1:=inv.done j h
   rw [getD_both IC] at h1;cases h1
  ·exact h
  ·exact absurd hj (xx hs inv Wi _ i rfl Nq (mem_ready.1 hr).1 j h)
 induction f with
 |zero=>
  intro Ad st inv _ hr hv Hh
  refine ⟨λh=>(by rw [h] at hr;cases hr),λj hj=>?_⟩
  have PY:=Abw Ad inv hr j hj
  refine ⟨PY,?_⟩
  by_cases pc:j=i
  ·subst pc;exact ⟨oi,v,hi,hv,Hh⟩
  ·exact absurd (Aah _ _ Hh j (ready_mono hj pc)) (vV j PY)
 |succ f ih=>
  intro Ad st inv ib hr hv Hh
  have IC:=(mem_ready.1 hr).1
  refine ⟨λh=>(by rw [h] at hr;cases hr),λj hj=>?_⟩
  have PY:=Abw Ad inv hr j hj
  refine ⟨PY,?_⟩
  by_cases pc:j=i
  ·subst pc;exact ⟨oi,v,hi,hv,Hh⟩
  ·obtain ⟨_,oj,vj,TQ,hvj,eI⟩:=Hh.2 j (ready_mono hj pc)
   obtain ⟨Aao,oj',Agu,Aa8⟩:=mem_ready.1 hj
   have:oj'=oj:=Option.some.inj (Agu.symm.trans TQ)
   subst this
   have mZ: ∀e∈oj'.after,Region.binds .any e=true->e.on≠i:= λe he hb heq=>by
    have h1:=Aa8 e he hb
    rw [heq,getD_both IC] at h1
    cases h1
   obtain ⟨p1,p2,p3⟩:=Oper.apart_spec (ib j oj' TQ pc Aao mZ)
   rw [xA p1] at hvj
   refine ⟨oj',vj,TQ,hvj,?_⟩
   have VJ: ∀k ok,ops[k]?=some ok->k≠i->(Ad.setIfInBounds j true).getD k true=false->
     (∀e∈ok.after,Region.binds .any e=true->e.on≠i)->oi.apart ops ok=true:= λk ok hk hki Abj VZ=>by
    refine ib k ok hk hki ?_ VZ
    by_cases hjk:j=k
    ·subst hjk;exact Aao
    ·rw [getD_set_ne true hjk] at Abj;exact Abj
   refine ih (Ad.setIfInBounds j true) (st.put oj'.dst vj) (inv.set hj (vV j PY)) VJ (ready_mono hr (Ne.symm pc)) (by rw [xA p3];exact hv) ?_
   rw [Array.setIfInBounds_comm _ _ pc,<-St.put_comm st v vj p2]
   exact eI
theorem l8: ∀(l:List Nat) (Ad:Array Bool),iM ops l Ad=true-> ∀j∈Region.ready .any ops Ad,j∈l
 | [],Ad,h,j,hj=>by simp only [iM,List.isEmpty_iff] at h;rw [h] at hj;cases hj
 |k::r,Ad,h,j,hj=>by
  simp only [iM,Bool.and_eq_true,Bool.or_eq_true,decide_eq_true_eq] at h
  rcases h.1 with h1|h1
  ·rw [h1] at hj
   simp at hj
   simp [hj]
  ·by_cases e:j=k
   ·simp [e]
   ·exact List.mem_cons_of_mem _ (l8 r _ h.2 j (ready_mono hj e))
theorem uP {fl:List Nat} (bI:Region.noSelect ops=true) (hs:o0 ops hd tl=true) (Wi: ∀i,i∈hd->i<ops.size) (Ia: ∀j,j<ops.size->j∈fl\/j∈hd\/j∈tl) (vV: ∀j,j∈hd->j∉tl) (st':St):
  ∀(l:List Nat) (Ad:Array Bool) (st:St),(∀i,i∈l->i∈hd)->Ru ops tl fl Ad->ju ops tl l Ad=true->Ed T Γ ops l st=some st'->
  IF T Γ ops hd (λsX s=>iM ops tl sX=true/\s=st') l.length Ad st
 | [],Ad,st,_,_,hB,he=>by
  simp only [Ed,Option.some.injEq] at he
  exact ⟨by simpa [ju] using hB,he⟩
 |k::l,Ad,st,hl,inv,hB,he=>by
  simp only [ju,Bool.and_eq_true] at hB
  obtain ⟨⟨hr,hf⟩,hB'⟩:=hB
  have hkh:=hl k (by simp)
  have fN:k∈Region.ready .any ops Ad:=by simpa using hr
  simp only [Ed] at he
  split at he
  ·cases he
  ·rename_i o ho
   split at he
   ·rename_i v hv
    exact xU ho hs Wi hkh Ia vV (λsX s hL=>l8 tl sX hL.1) l.length Ad st inv (Region.free_spec ho hf) fN hv
     (uP bI hs Wi Ia vV st' l _ _ (λi hi=>hl i (by simp [hi])) (inv.set fN (vV k hkh)) hB' he)
   ·cases he
theorem sv {Q:Exit->Act->World->Prop} (hQ: ∀e a w,Q e a w->e= .normal) {k i:Nat} {x:Operand} {o:Oper} (ho:ops[k]?=some o) (lT:o.op= .extract x i) (hg:o.guard=none) {K:Act->World->Prop} {a:Act} {w:World}
  (h:wpOp P ops Q k K a w): ∃v,Yields P ops o v a/\K (a.put o.dst v) w:=by
 unfold wpOp at h
 simp only [ho] at h
 have hw:Region.wanted o (yielded ops a.tmps)=true:=by simp [Region.wanted,hg]
 rw [if_pos hw] at h
 rcases h with h|⟨_,a',w',h⟩
 ·unfold Oper.wp at h
  have hr: ∀w,(execOp a.eval o).run P w=(do pure (Next.value (<-Instr.extract (a.eval x) i))).run P w:= λw=>by unfold execOp;rw [lT]
  rw [hr] at h
  unfold Instr.extract at h hr
  split at h
  ·rename_i vs hx
   split at h
   ·rename_i v hv
    rw [hx] at hr
    simp only [hv] at hr
    exact ⟨v, .inl ⟨hw,λw=>(hr w).trans rfl⟩,h⟩
   ·exact h.elim
  ·exact h.elim
 ·cases hQ _ _ _ h
theorem Xu {Q:Exit->Act->World->Prop} (hQ: ∀e a w,Q e a w->e= .normal) (bI:Region.noSelect ops=true): ∀(l:List Nat) (Ad:Array Bool) (a:Act) (w:World),iM ops l Ad=true->wpOps P ops Q l a w->wpAny P .any ops Q l.length Ad a w
 | [],Ad,a,w,hB,h=>⟨by simpa [iM] using hB,h⟩
 |k::r,Ad,a,w,hB,h=>by
  simp only [iM,Bool.and_eq_true,Bool.or_eq_true,decide_eq_true_eq] at hB
  rw [wpOps_cons] at h
  rcases hB.1 with h0|⟨h1,h2,h3⟩
  ·refine ⟨λh1=>(by rw [h0] at h1;cases h1),λi hi=>?_⟩
   rw [h0] at hi
   have hik:i=k:=by simpa using hi
   subst hik
   exact wpOp_mono (λa' w' h'=>Xu hQ bI r _ a' w' hB.2 h') h
  ·unfold KP at h1
   split at h1
   ·rename_i o ho
    split at h1
    ·rename_i x i lT hg
     obtain ⟨v,hy,hk⟩:=sv hQ ho lT hg h
     exact wpAny_take ho bI h3 h2 (λc a w hq=>by cases hQ _ _ _ hq) hy (Xu hQ bI r _ _ w hB.2 hk)
    ·cases h1
   ·cases h1
theorem gZ {P:Program} {o:Oper} {t:Tmp} {a:Act} (h:o.op= .move (.tmp t)) (hg:o.guard=none):Yields P ops o (a.tmps.getD t undef) a:=by
 refine .inl ⟨by simp [Region.wanted,hg],λw=>?_⟩
 unfold execOp
 rw [h]
 rfl
theorem sO {hd tl:List Nat} {i:Nat} (h:ig ops hd tl i=true): ∃o t,ops[i]?=some o/\o.op= .move (.tmp t)/\o.guard=none:=by
 unfold ig at h
 split at h
 ·rename_i o ho
  simp only [Bool.and_eq_true] at h
  have h1:=h.1
  split at h1
  ·rename_i t h2 h3
   exact ⟨o,t,ho,h2,h3⟩
  ·cases h1
 ·cases h
theorem bF {q:Bool} {hd:List Nat} {Q:Exit->Act->World->Prop} (hQ: ∀c a w,¬Q (.panic c) a w) (bI:Region.noSelect ops=true) {n:Nat} {st1:St}
  (eI: ∀Ad st a w,(∀j oj,ops[j]?=some oj->Ad.getD j false=true-> ∀e∈oj.after,Region.binds .any e=true->Ad.getD e.on false=true)->Ad.size=ops.size->ju ops tl hd Ad=true->st=st1->Rel X st a w->
   (∀j,Ad.getD j false=true↔j∈Ov q Γ ops)->wpAny P .any ops Q n Ad a w):
  ∀(l dn:List Nat) (Ad:Array Bool) (st:St) (a:Act) (w:World),(∀j,j∈Ov q Γ ops↔j∈dn\/j∈l)->(∀i,i∈l-> ∃o t,ops[i]?=some o/\o.op= .move (.tmp t)/\o.guard=none)->
   (∀j oj,ops[j]?=some oj->Ad.getD j false=true-> ∀e∈oj.after,Region.binds .any e=true->Ad.getD e.on false=true)->Ad.size=ops.size->(∀j,Ad.getD j false=true↔j∈dn)->
   gY ops tl hd l Ad=true->Ed T Γ ops l st=some st1->Rel X st a w->wpAny P .any ops Q (l.length+n) Ad a w
 | [],dn,Ad,st,a,w,hm,_,hc,Wi,PT,hf,he,hr=>by
  simp only [Ed,Option.some.injEq] at he
  rw [List.length_nil,Nat.zero_add]
  exact eI Ad st a w hc Wi (by simpa [gY] using hf) he hr λj=>by rw [PT j,hm j];simp
 |k::l,dn,Ad,st,a,w,hm,hl,hc,Wi,PT,hf,he,hr=>by
  simp only [gY,Bool.and_eq_true] at hf
  obtain ⟨⟨h1,h2⟩,h3⟩:=hf
  obtain ⟨o,t,ho,lT,hg⟩:=hl k (by simp)
  have pf:k∈Region.ready .any ops Ad:=by simpa using h1
  obtain ⟨_,o',ZD,Ia⟩:=mem_ready.1 pf
  have ho2:o'=o:=Option.some.inj (ZD.symm.trans ho)
  subst ho2
  have hks:k<Ad.size:=by rw [Wi];exact (Array.getElem?_eq_some_iff.1 ho).1
  simp only [Ed,ho] at he
  have hv:bL T Γ ops st o'=some (st.get t):=by simp only [bL,hg,Ry,Ck,lT];rfl
  rw [hv] at he
  rw [List.length_cons,show l.length+1+n=(l.length+n)+1 by omega]
  refine wpAny_take ho bI h2 h1 (λc a w hq=>absurd hq (hQ c _ w)) (gZ lT hg) ?_
  obtain ⟨π,hr⟩:=hr
  refine bF hQ bI eI l (k::dn) _ _ _ _ (λj=>by rw [hm j,List.mem_cons,List.mem_cons];exact ⟨λh=>h.elim (λh=> .inl (.inr h)) (λh=>h.elim (λh=> .inl (.inl h)) .inr),λh=>h.elim (λh=>h.elim (λh=> .inr (.inl h)) .inl) (λh=> .inr (.inr h))⟩) (λi hi=>hl i (by simp [hi])) ?_ (by simp [Wi]) (λj=>?_) h3 he ⟨π,hr.put o'.dst (hr.2.tmps t)⟩
  ·intro j oj hj ZA e hem hb
   by_cases HZ:k=j
   ·subst HZ
    have:oj=o':=Option.some.inj (hj.symm.trans ho)
    subst this
    exact getD_set_true (Ia e hem hb)
   ·rw [getD_set_ne false HZ] at ZA
    exact getD_set_true (hc j oj hj ZA e hem hb)
  ·by_cases HZ:k=j
   ·subst HZ
    refine ⟨λ_=>by simp,λ_=>?_⟩
    simp [hks]
   ·rw [getD_set_ne false HZ,PT j]
    simp [Ne.symm HZ]
theorem bd {ops:Array Oper} : ∀(a b:List Nat) (st st':St),Ed T Γ ops (a++b) st=some st'-> ∃s,Ed T Γ ops a st=some s/\Ed T Γ ops b s=some st'
 | [],b,st,st',h=>⟨st,rfl,h⟩
 |i::a,b,st,st',h=>by
  simp only [List.cons_append,Ed] at h⊢
  split at h
  ·cases h
  ·split at h
   ·exact bd a b _ st' h
   ·cases h
theorem ji (hT:Cd P T) (Mi:Hy P Γ) (hm:P.follows .mixedOrders=true) {Q:Exit->Act->World->Prop} {id:Nat} {draw:Bool} {st st':St} {a:Act} (h:Rel X st a w)
  (he:Ll T Γ ops draw st=some st') (hQ: ∀a' w',Rel X st' a' w'->Q .normal a' w'):(Code.region id ops draw).wp P Q a w:=by
 unfold Ll at he
 cases draw with
 |false=>
  rw [if_neg (by simp)] at he
  exact wp_region_list (ez hT Mi ops.toList st st' a w h he hQ)
 |true=>
  rw [if_pos rfl] at he
  have go: ∀(q:Bool),dT q Γ ops=true->(match Ed T Γ ops (dM q Γ ops) st with
    |some st'=>Jl T Γ ops (Fo q Γ ops) st'
    |none=>none)=some st'->(Code.region id ops true).wp P Q a w:=by
   intro q Yn he
   split at he
   ·rename_i st1 h1
    simp only [dT,Bool.and_eq_true,beq_iff_eq] at Yn
    obtain ⟨⟨⟨bI,hlen⟩,VH⟩,Abg⟩:=Yn
    refine wp_mono (Q:= λe a w=>e= .normal/\Q .normal a w) ?_ λe a w h=>h.1▸h.2
    refine wp_region_any hm ?_
    have hrel:Rel X st a {w with drawn:=w.drawn+1} :=by
     obtain ⟨π,h⟩:=h
     exact ⟨π,h.quiet ⟨rfl,rfl,rfl,Nat.le_refl _,λ_ _=>rfl⟩⟩
    obtain ⟨s0,h0,h1⟩:=bd _ _ _ _ h1
    have Nq: ∀i,i∈Wh q Γ ops->i<ops.size:= λi hi=>List.mem_range.1 (List.mem_filter.1 hi).1
    have Wi: ∀i,i∈Oy q Γ ops->i<ops.size:= λi hi=>Nq i (List.mem_filter.1 hi).1
    have Ia: ∀j,j<ops.size->j∈Ov q Γ ops\/j∈Oy q Γ ops\/j∈Fo q Γ ops:= λj hj=>by
     by_cases ht:j∈Fo q Γ ops
     ·exact .inr (.inr ht)
     ·have hh:j∈Wh q Γ ops:=List.mem_filter.2 ⟨List.mem_range.2 hj,by simpa using ht⟩
      cases NZ:ig ops (Wh q Γ ops) (Fo q Γ ops) j with
      |true=>exact .inl (List.mem_filter.2 ⟨hh,NZ⟩)
      |false=>exact .inr (.inl (List.mem_filter.2 ⟨hh,by rw [NZ];rfl⟩))
    have TF: ∀j,j∈Wh q Γ ops->j∉Fo q Γ ops:= λj hj=>by
     have:=(List.mem_filter.1 hj).2
     simpa using this
    have vV: ∀j,j∈Oy q Γ ops->j∉Fo q Γ ops:= λj hj=>TF j (List.mem_filter.1 hj).1
    have Aag: ∀j,j∈Ov q Γ ops->j∉Fo q Γ ops:= λj hj=>TF j (List.mem_filter.1 hj).1
    have htl: ∀t,t∈Fo q Γ ops->t<ops.size:=by
     intro t ht
     unfold Fo at ht
     have: ∀(l:List Nat) (acc:List Nat),(∀i,i∈acc->i<ops.size)->(∀i,i∈l->i<ops.size)-> ∀i,i∈l.foldl (init:=acc) (λacc i=>match ops[i]? with
       |some o=>if KX q Γ o||o.after.any (λe=>Region.binds .any e&&acc.contains e.on) then acc++ [i] else acc
       |none=>acc)->i<ops.size:=by
      intro l
      induction l with
      |nil=>intro acc h1 _ i hi;exact h1 i hi
      |cons x l ih=>
       intro acc h1 h2 i hi
       simp only [List.foldl_cons] at hi
       refine ih _ ?_ (λi hi=>h2 i (by simp [hi])) i hi
       intro k hk
       split at hk
       ·split at hk
        ·rcases List.mem_append.1 hk with hk|hk
         ·exact h1 k hk
         ·simp at hk;rw [hk];exact h2 x (by simp)
        ·exact h1 k hk
       ·exact h1 k hk
     exact this (List.range ops.size) [] (by simp) (λi hi=>List.mem_range.1 hi) t ht
    rw [<-hlen]
    refine bF (q:=q) (X:=X) (T:=T) (Γ:=Γ) (tl:=Fo q Γ ops) (hd:=Oy q Γ ops) (st1:=s0) (λc a w hq=>by cases hq.1) bI ?_ (Ov q Γ ops) [] _ st a _ (λj=>by simp)
     (λi hi=>sO (List.mem_filter.1 hi).2) (λj oj _ hl=>(by rw [hlen,getD_replicate_false] at hl;cases hl)) (by simp [hlen]) (λj=>by rw [hlen,getD_replicate_false];simp) (by rw [hlen];exact VH) h0 hrel
    intro Ad s a' w' hc kL Aam hs hr NZ
    subst hs
    have Aho:Ru ops (Fo q Γ ops) (Ov q Γ ops) Ad:=
     ⟨kL,λi hi=>(NZ i).2 hi,hc,λt ht=>getD_in (by rw [kL];exact htl t ht) (by
      cases hg:Ad.getD t false with
      |false=>rfl
      |true=>exact absurd ht (Aag t ((NZ t).1 hg)))⟩
    have HA:=uP (T:=T) (Γ:=Γ) bI Abg Wi Ia vV st1 (Oy q Γ ops) _ s (λi hi=>hi) Aho Aam h1
    exact fe (X:=X) (P:=P) (Q:= λe a w=>e= .normal/\Q .normal a w) (g:=(Fo q Γ ops).length) hT Mi (λAd s a' w' hL hr=>by
     obtain ⟨Ah7,rfl⟩:=hL
     exact Xu (λe a w h=>h.1) bI (Fo q Γ ops) Ad a' w' Ah7 (eo hT Mi _ _ st' a' w' hr he λa w h=>⟨rfl,hQ a w h⟩)) _ _ _ _ _ HA hr
   ·cases he
  split at he
  ·rename_i Yn;exact go false Yn he
  ·split at he
   ·rename_i Yn;exact go true Yn he
   ·cases he
theorem Xn (q:Bool): ∀(l:List Nat) (Ad:Array Bool),(Fl q ops l Ad).length<=l.length
 | [],_=>Nat.le_refl _
 |i::r,Ad=>by
  simp only [Fl]
  split
  ·simp only [List.length_cons];have:=Xn q r (Ad.setIfInBounds i true);omega
  ·simp only [List.length_cons];have:=Xn q r Ad;omega
theorem x7 (hT:Cd P T) {st:St} {a:Act} (h:Aj X π st a w) {i:Nat} {o:Oper} (ho:ops[i]?=some o) (hp:dR ops i=true) {v:AV} (hv:bL T Γ ops st o=some v):
  ∃u,Yields P ops o u a/\Ao X w π st.heap v u:=by
 unfold dR at hp
 rw [ho] at hp
 simp only at hp
 obtain ⟨dst,op,ty,pos,af,gd⟩:=o
 split at hp
 ·rename_i t h3 h4
  simp only at h3 h4;subst h3;subst h4
  refine ⟨a.tmps.getD t undef,gZ rfl rfl,?_⟩
  simp only [bL,Ry,Ck,Option.some.injEq] at hv
  subst hv
  exact h.2.tmps t
 ·rename_i x h3 h4
  simp only at h3 h4;subst h3;subst h4
  have e:=Bo h.2 x
  have fin:(∃ad,a.eval x= .pointer (some ad))->Yields P ops ⟨dst, .nilCheck x,ty,pos,af,none⟩ (a.eval x) a:= λ⟨ad,hx⟩=>
   .inl ⟨by simp [Region.wanted],λw=>by simp [execOp,hx]⟩
  simp only [bL,Ry,Ck] at hv
  split at hv
  ·rename_i fr τ y hx
   simp only [Option.some.injEq] at hv;subst hv
   rw [hx] at e
   have e':=e
   obtain ⟨cs,hc,hv⟩:=e
   simp only [Cells] at hc
   obtain ⟨g,o,rfl,_⟩:=hc
   simp only [As,Ty.Ac,Bool.false_eq_true,if_false,List.headD_cons] at hv
   exact ⟨_,fin ⟨_,hv⟩,e'⟩
  ·rename_i fr τ y hx
   simp only [Option.some.injEq] at hv;subst hv
   rw [hx] at e
   obtain ⟨cs,hc,hv⟩:=e
   simp only [Cells] at hc
   rcases hc with ⟨h0,_⟩|⟨y',g,o,h0,rfl,hr⟩
   ·cases h0
   simp only [Option.some.injEq] at h0;subst h0
   simp only [As,Ty.Ac,Bool.false_eq_true,if_false,List.headD_cons] at hv
   exact ⟨_,fin ⟨_,hv⟩,[_],⟨g,o,rfl,hr⟩,by rw [hv];simp [As,Ty.Ac]⟩
  ·rename_i l i hx
   simp only [Option.some.injEq] at hv;subst hv
   rw [hx] at e
   have e':=e
   obtain ⟨r,tid,vs,_,_,hv⟩:=e
   exact ⟨_,fin ⟨_,hv⟩,e'⟩
  ·rename_i l i hx
   simp only [Option.some.injEq] at hv;subst hv
   rw [hx] at e
   have e':=e
   obtain ⟨r,b,sz,n,_,_,_,_,hv⟩:=e
   exact ⟨_,fin ⟨_,hv⟩,e'⟩
  ·cases hv
 ·rename_i s x f h3 h4
  simp only at h3 h4;subst h3;subst h4
  simp only [bL,Ry,Ck] at hv
  obtain ⟨u,h1,h2⟩:=Wc hT (st:=st) _ _ _ _ v (Bo h.2 x) hv
  refine ⟨u, .inl ⟨by simp [Region.wanted],λw=>?_⟩,h2⟩
  have:=h1 w
  simp only [execOp,Sem.run_bind]
  first
   |(rw [this];rfl)
   |simp [this]
 ·cases hp
theorem tE {i:Nat} (h:sP ops i=true):dR ops i=true:=by
 unfold sP at h
 unfold dR
 split at h
 ·rename_i o ho
  split at h
  ·rename_i h1 h2
   simp only [h1,h2]
  ·cases h
 ·cases h
theorem Vv (hT:Cd P T) (q:Bool) {Q:Exit->Act->World->Prop} (hQ: ∀c a w,¬Q (.panic c) a w) (bI:Region.noSelect ops=true) {n:Nat} {st1:St} :
  ∀(l:List Nat) (Ad:Array Bool) (st:St) (a:Act) (w:World),Ed T Γ ops (Fl q ops l Ad) st=some st1->Rel X st a w->
   (∀a w,Rel X st1 a w->wpAny P .any ops Q n (Eh (Fl q ops l Ad) Ad) a w)->wpAny P .any ops Q ((Fl q ops l Ad).length+n) Ad a w
 | [],Ad,st,a,w,he,hr,hK=>by
  simp only [Fl,Ed,Option.some.injEq] at he
  subst he
  simp only [Fl,List.length_nil,Nat.zero_add]
  exact hK a w hr
 |k::l,Ad,st,a,w,he,hr,hK=>by
  simp only [Fl] at he hK⊢
  split
  ·rename_i hc
   rw [if_pos hc] at he hK
   simp only [Bool.and_eq_true] at hc
   obtain ⟨h0,h1,h2⟩:=hc
   have hp:dR ops k=true:=by
    cases q with
    |true=>exact h0
    |false=>exact tE h0
   simp only [Ed] at he
   split at he
   ·cases he
   rename_i o ho
   split at he
   rotate_left
   ·cases he
   rename_i v hv
   obtain ⟨π,hr⟩:=hr
   obtain ⟨u,hy,hu⟩:=x7 (Γ:=Γ) hT hr ho hp hv
   rw [List.length_cons,show (Fl q ops l (Ad.setIfInBounds k true)).length+1+n=((Fl q ops l (Ad.setIfInBounds k true)).length+n)+1 by omega]
   refine wpAny_take ho bI h2 h1 (λc a w hq=>absurd hq (hQ c _ w)) hy ?_
   exact Vv hT q hQ bI l _ _ _ _ he ⟨π,hr.put o.dst hu⟩ hK
  ·rename_i hc
   rw [if_neg hc] at he hK
   exact Vv hT q hQ bI l Ad st a w he hr hK
theorem ff (hT:Cd P T) (Mi:Hy P Γ) {Q:Exit->Act->World->Prop} {K:St->Prop} (hK: ∀st a w,K st->Rel X st a w->Q .normal a w):
  ∀(f:Nat) (Ad:Array Bool) (st:St) (a:Act) (w:World),anyS T Γ ops K f Ad st->Rel X st a w->wpAny P .any ops Q f Ad a w
 |0,Ad,st,a,w,h,hr=>⟨h.1,hK _ _ _ h.2 hr⟩
 |f+1,Ad,st,a,w,h,hr=>by
  refine ⟨λh0=>absurd h0 h.1,λi hi=>?_⟩
  obtain ⟨o,st',ho,he,eI⟩:=h.2 i hi
  obtain ⟨π,hr⟩:=hr
  unfold wpOp
  simp only [ho]
  exact Ux hT Mi hr o he λa' w' h'=>ff hT Mi hK f _ _ _ _ eI h'
theorem zz (hT:Cd P T) (Mi:Hy P Γ) (hm:P.follows .mixedOrders=true) {Q:Exit->Act->World->Prop} {id:Nat} {draw:Bool} {st:St} {K:St->Prop} {a:Act} (h:Rel X st a w)
  (he:rY T Γ ops draw st K) (hQ: ∀st' a' w',K st'->Rel X st' a' w'->Q .normal a' w'):(Code.region id ops draw).wp P Q a w:=by
 rcases he with ⟨st',h1,h2⟩|⟨rfl,bI,bx,h1,h2⟩
 ·exact ji hT Mi hm h h1 λa' w' h'=>hQ st' a' w' h2 h'
 ·refine wp_mono (Q:= λe a w=>e= .normal/\Q .normal a w) ?_ λe a w h=>h.1▸h.2
  refine wp_region_any hm ?_
  have hrel:Rel X st a {w with drawn:=w.drawn+1} :=by
   obtain ⟨π,h⟩:=h
   exact ⟨π,h.quiet ⟨rfl,rfl,rfl,Nat.le_refl _,λ_ _=>rfl⟩⟩
  have hlen:(Kf ops).length<=ops.size:=by
   have:=Xn (ops:=ops) (!dI false ops) (List.range ops.size) (Array.replicate ops.size false)
   rw [List.length_range] at this
   exact this
  have:=Vv hT (!dI false ops) (X:=X) (P:=P) (T:=T) (Γ:=Γ) (Q:= λe a w=>e= .normal/\Q .normal a w) (n:=ops.size-(Kf ops).length) (st1:=bx) (λc a w hq=>by cases hq.1) bI (List.range ops.size) (Array.replicate ops.size false) st a _ h1 hrel λa' w' h'=>
   ff hT Mi (λst' a' w' hk hr=>⟨rfl,hQ st' a' w' hk hr⟩) _ _ _ _ _ h2 h'
  have e:(Fl (!dI false ops) ops (List.range ops.size) (Array.replicate ops.size false)).length+(ops.size-(Kf ops).length)=ops.size:=by
   have e2:(Fl (!dI false ops) ops (List.range ops.size) (Array.replicate ops.size false)).length=(Kf ops).length:=rfl
   omega
  rw [e] at this
  exact this
end
end Go.Proofs.Ytjbdmibbbpdnnaa
