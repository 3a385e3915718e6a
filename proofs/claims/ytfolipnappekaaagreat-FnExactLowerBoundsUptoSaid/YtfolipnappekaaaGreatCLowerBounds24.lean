/-
  Part 25 of the proof that the statement FnExactLowerBounds holds.
-/
import Derived.Test.YtfolipnappekaaaGreatCLowerBounds23
namespace Go.Proofs.YtfolipnappekaaaGreat
open Go.RowKit
section
variable {P:Program} {T:Tab} {Γ:Env} {X:Ctx} {w w':World} {π:Pi} {ops:Array Oper} {hd tl:List Nat}
structure Sk (ops:Array Oper) (tl fl:List Nat) (Ac:Array Bool):Prop where
 size:Ac.size=ops.size
 done: ∀i,i∈fl->Ac.getD i false=true
 closed: ∀j oj,ops[j]?=some oj->Ac.getD j false=true-> ∀e∈oj.after,Region.binds .any e=true->Ac.getD e.on false=true
 tail: ∀t,t∈tl->Ac.getD t true=false
theorem Sk.set {fl:List Nat} {i:Nat} {Ac:Array Bool} (inv:Sk ops tl fl Ac) (hi:i∈Region.ready .any ops Ac) (cT:i∉tl):Sk ops tl fl (Ac.setIfInBounds i true):=by
 obtain ⟨_,oi,hoi,Hf⟩:=mem_ready.1 hi
 refine ⟨by simp [inv.size],λk hk=>getD_set_true (inv.done k hk),λj oj hj hl e he hb=>?_,λt ht=>by
  have Fa:i≠t:= λe=>cT (by rw [e];exact ht)
  rw [getD_set_ne true Fa];exact inv.tail t ht⟩
 by_cases jI:i=j
 ·subst jI
  have:oj=oi:=Option.some.inj (hj.symm.trans hoi)
  subst this
  exact getD_set_true (Hf e he hb)
 ·rw [getD_set_ne false jI] at hl
  exact getD_set_true (inv.closed j oj hj hl e he hb)
theorem zY (k:Nat) (r:List Nat) (h:(r.all λt=>(k::r).any λk=>Region.waitsFor .any ops t k)=true): ∀t,t∈r-> ∃k',(k'=k\/k'∈r)/\Region.waitsFor .any ops t k'=true:= λt ht=>by
 obtain ⟨k',h1,h2⟩:=List.any_eq_true.1 (List.all_eq_true.1 h t ht)
 exact ⟨k',List.mem_cons.1 h1,h2⟩
theorem z8 {fl:List Nat} {Ac:Array Bool} (hs:ph ops hd tl=true) (inv:Sk ops tl fl Ac) (Xm: ∀i,i∈hd->i<ops.size):
  ∀(d i:Nat),ops.size-i=d->i∈hd->Ac.getD i true=false-> ∀t,t∈tl->t∉Region.ready .any ops Ac:=by
 cases tl with
 |nil=>intro d i _ _ _ t ht;cases ht
 |cons f r=>
  simp only [ph,Bool.and_eq_true] at hs
  obtain ⟨gZ,qd⟩:=hs
  intro d
  induction d using Nat.strongRecOn with
  |_ d ih=>
   intro i hd' hi LH t ht hr
   obtain ⟨_,ot,hot,Hf⟩:=mem_ready.1 hr
   rcases List.mem_cons.1 ht with rfl|iN
   ·have h1:=List.all_eq_true.1 gZ i hi
    obtain ⟨j,hj,hj2⟩:=List.any_eq_true.1 h1
    simp only [Bool.and_eq_true,decide_eq_true_eq] at hj2
    obtain ⟨oj,VT,e,he,hb,hon⟩:=Region.waitsFor_spec hj2.2
    rcases List.mem_cons.1 hj with rfl|SL
    ·have:oj=ot:=Option.some.inj (VT.symm.trans hot)
     subst this
     have h2:=Hf e he hb
     rw [hon,getD_both LH] at h2
     cases h2
    ·cases hl:Ac.getD j false with
     |true=>
      have h2:=inv.closed j oj VT hl e he hb
      rw [hon,getD_both LH] at h2
      cases h2
     |false=>
      have hjs:j<Ac.size:=by rw [inv.size];exact Xm j SL
      have:=Xm j SL
      exact ih (ops.size-j) (by omega) j rfl SL (getD_in hjs hl) t (by simp) hr
   ·obtain ⟨k',h1,h2⟩:=zY f r qd t iN
    obtain ⟨o',ho',e,he,hb,hon⟩:=Region.waitsFor_spec h2
    have:o'=ot:=Option.some.inj (ho'.symm.trans hot)
    subst this
    have h3:=Hf e he hb
    have hk:k'∈f::r:=by rcases h1 with rfl|h1<;>simp [*]
    rw [hon,getD_both (inv.tail k' hk)] at h3
    cases h3
def LJ (T:Tab) (Γ:Env) (ops:Array Oper) (hd:List Nat) (L:Array Bool->St->Prop):Nat->Array Bool->St->Prop
 |0,Ac,st=>L Ac st
 |f+1,Ac,st=>
  Region.ready .any ops Ac≠ []/\ ∀i∈Region.ready .any ops Ac,i∈hd/\ ∃o v,ops[i]?=some o/\cd T Γ ops st o=some v/\LJ T Γ ops hd L f (Ac.setIfInBounds i true) (st.put o.dst v)
theorem wq (hT:Ca P T) (Mq:Hi P Γ) {Q:Exit->Act->World->Prop} {K:Act->World->Prop} {st:St} {a:Act} (h:Rel X st a w) {i:Nat} {o:Oper} {v:AV} (ho:ops[i]?=some o) (hv:cd T Γ ops st o=some v)
  (hK: ∀a' w',Rel X (st.put o.dst v) a' w'->K a' w'):wpOp P ops Q i K a w:=by
 obtain ⟨π,h⟩:=h
 have run:Sm T Γ st o=some v->o.wp P a w K Q:= λhe=>m4 (X:=X) (st':=st) (av:=v) (x8 hT Mq h o v he) hK
 have skip:v= .at .skip->K (a.put o.dst undef) w:= λe=>by subst e;exact hK _ _ ⟨π,h.put o.dst yO⟩
 unfold wpOp
 simp only [ho]
 unfold cd at hv
 split at hv
 ·rename_i hg
  rw [if_pos (by simp [Region.wanted,hg])]
  exact .inl (run hv)
 ·rename_i j want hg
  split at hv
  ·rename_i b hb
   have hy:=(aB h j).1 b hb
   split at hv
   ·rename_i MJ
    rw [if_pos (by simp only [Region.wanted,hg,hy];simpa using MJ)]
    exact .inl (run hv)
   ·rename_i MJ
    rw [if_neg (by simp only [Region.wanted,hg,hy];simpa using MJ)]
    simp only [Option.some.injEq] at hv
    exact skip hv.symm
  ·rename_i hb
   have hy:=(aB h j).2 hb
   rw [if_neg (by simp [Region.wanted,hg,hy])]
   simp only [Option.some.injEq] at hv
   exact skip hv.symm
  ·cases hv
theorem fT (hT:Ca P T) (Mq:Hi P Γ) {g:Nat} {L:Array Bool->St->Prop} {Q:Exit->Act->World->Prop} (hL: ∀Ac st a w,L Ac st->Rel X st a w->wpAny P .any ops Q g Ac a w):
  ∀(f:Nat) (Ac:Array Bool) (st:St) (a:Act) (w:World),LJ T Γ ops hd L f Ac st->Rel X st a w->wpAny P .any ops Q (f+g) Ac a w
 |0,Ac,st,a,w,h,hr=>by rw [Nat.zero_add];exact hL _ _ _ _ h hr
 |f+1,Ac,st,a,w,h,hr=>by
  rw [show f+1+g=(f+g)+1 by omega]
  refine ⟨λh0=>absurd h0 h.1,λi hi=>?_⟩
  obtain ⟨_,o,v,ho,hv,fp⟩:=h.2 i hi
  exact wq hT Mq hr ho hv λa' w' h'=>fT hT Mq hL f _ _ _ _ fp h'
theorem zH {fl:List Nat} {i:Nat} {oi:Oper} {v:AV} {L:Array Bool->St->Prop} (hi:ops[i]?=some oi) (hs:ph ops hd tl=true) (Xm: ∀i,i∈hd->i<ops.size) (cT:i∈hd)
  (Hf: ∀j,j<ops.size->j∈fl\/j∈hd\/j∈tl) (xw: ∀j,j∈hd->j∉tl) (Acf: ∀Ac st,L Ac st-> ∀j∈Region.ready .any ops Ac,j∈tl):
  ∀(f:Nat) (Ac:Array Bool) (st:St),Sk ops tl fl Ac->
   (∀j oj,ops[j]?=some oj->j≠i->Ac.getD j true=false->(∀e∈oj.after,Region.binds .any e=true->e.on≠i)->oi.apart ops oj=true)->
   i∈Region.ready .any ops Ac->cd T Γ ops st oi=some v->
   LJ T Γ ops hd L f (Ac.setIfInBounds i true) (st.put oi.dst v)->LJ T Γ ops hd L (f+1) Ac st:=by
 intro f
 have Adv: ∀Ac,Sk ops tl fl Ac->i∈Region.ready .any ops Ac-> ∀j,j∈Region.ready .any ops Ac->j∈hd:=by
  intro Ac inv hr j hj
  obtain ⟨LH,oj,VT,_⟩:=mem_ready.1 hj
  rcases Hf j (Array.getElem?_eq_some_iff.1 VT).1 with h|h|h
  ·have h1:=inv.done j h
   rw [getD_both LH] at h1;cases h1
  ·exact h
  ·exact absurd hj (z8 hs inv Xm _ i rfl cT (mem_ready.1 hr).1 j h)
 induction f with
 |zero=>
  intro Ac st inv _ hr hv Hh
  refine ⟨λh=>(by rw [h] at hr;cases hr),λj hj=>?_⟩
  have SL:=Adv Ac inv hr j hj
  refine ⟨SL,?_⟩
  by_cases qw:j=i
  ·subst qw;exact ⟨oi,v,hi,hv,Hh⟩
  ·exact absurd (Acf _ _ Hh j (ready_mono hj qw)) (xw j SL)
 |succ f ih=>
  intro Ac st inv iK hr hv Hh
  have LH:=(mem_ready.1 hr).1
  refine ⟨λh=>(by rw [h] at hr;cases hr),λj hj=>?_⟩
  have SL:=Adv Ac inv hr j hj
  refine ⟨SL,?_⟩
  by_cases qw:j=i
  ·subst qw;exact ⟨oi,v,hi,hv,Hh⟩
  ·obtain ⟨_,oj,vj,VT,hvj,fp⟩:=Hh.2 j (ready_mono hj qw)
   obtain ⟨Acn,oj',Aia,Ac8⟩:=mem_ready.1 hj
   have:oj'=oj:=Option.some.inj (Aia.symm.trans VT)
   subst this
   have od: ∀e∈oj'.after,Region.binds .any e=true->e.on≠i:= λe he hb heq=>by
    have h1:=Ac8 e he hb
    rw [heq,getD_both LH] at h1
    cases h1
   obtain ⟨p1,p2,p3⟩:=Oper.apart_spec (iK j oj' VT qw Acn od)
   rw [zd p1] at hvj
   refine ⟨oj',vj,VT,hvj,?_⟩
   have YA: ∀k ok,ops[k]?=some ok->k≠i->(Ac.setIfInBounds j true).getD k true=false->
     (∀e∈ok.after,Region.binds .any e=true->e.on≠i)->oi.apart ops ok=true:= λk ok hk hki Adk SO=>by
    refine iK k ok hk hki ?_ SO
    by_cases hjk:j=k
    ·subst hjk;exact Acn
    ·rw [getD_set_ne true hjk] at Adk;exact Adk
   refine ih (Ac.setIfInBounds j true) (st.put oj'.dst vj) (inv.set hj (xw j SL)) YA (ready_mono hr (Ne.symm qw)) (by rw [zd p3];exact hv) ?_
   rw [Array.setIfInBounds_comm _ _ qw,<-St.put_comm st v vj p2]
   exact fp
theorem lQ: ∀(l:List Nat) (Ac:Array Bool),ji ops l Ac=true-> ∀j∈Region.ready .any ops Ac,j∈l
 | [],Ac,h,j,hj=>by simp only [ji,List.isEmpty_iff] at h;rw [h] at hj;cases hj
 |k::r,Ac,h,j,hj=>by
  simp only [ji,Bool.and_eq_true,Bool.or_eq_true,decide_eq_true_eq] at h
  rcases h.1 with h1|h1
  ·rw [h1] at hj
   simp at hj
   simp [hj]
  ·by_cases e:j=k
   ·simp [e]
   ·exact List.mem_cons_of_mem _ (lQ r _ h.2 j (ready_mono hj e))
theorem wC {fl:List Nat} (ca:Region.noSelect ops=true) (hs:ph ops hd tl=true) (Xm: ∀i,i∈hd->i<ops.size) (Hf: ∀j,j<ops.size->j∈fl\/j∈hd\/j∈tl) (xw: ∀j,j∈hd->j∉tl) (st':St):
  ∀(l:List Nat) (Ac:Array Bool) (st:St),(∀i,i∈l->i∈hd)->Sk ops tl fl Ac->kf ops tl l Ac=true->Ed T Γ ops l st=some st'->
  LJ T Γ ops hd (λuD s=>ji ops tl uD=true/\s=st') l.length Ac st
 | [],Ac,st,_,_,hB,he=>by
  simp only [Ed,Option.some.injEq] at he
  exact ⟨by simpa [kf] using hB,he⟩
 |k::l,Ac,st,hl,inv,hB,he=>by
  simp only [kf,Bool.and_eq_true] at hB
  obtain ⟨⟨hr,hf⟩,hB'⟩:=hB
  have hkh:=hl k (by simp)
  have al:k∈Region.ready .any ops Ac:=by simpa using hr
  simp only [Ed] at he
  split at he
  ·cases he
  ·rename_i o ho
   split at he
   ·rename_i v hv
    exact zH ho hs Xm hkh Hf xw (λuD s hL=>lQ tl uD hL.1) l.length Ac st inv (Region.free_spec ho hf) al hv
     (wC ca hs Xm Hf xw st' l _ _ (λi hi=>hl i (by simp [hi])) (inv.set al (xw k hkh)) hB' he)
   ·cases he
theorem tZ {Q:Exit->Act->World->Prop} (hQ: ∀e a w,Q e a w->e= .normal) {k i:Nat} {x:Operand} {o:Oper} (ho:ops[k]?=some o) (mX:o.op= .extract x i) (hg:o.guard=none) {K:Act->World->Prop} {a:Act} {w:World}
  (h:wpOp P ops Q k K a w): ∃v,Yields P ops o v a/\K (a.put o.dst v) w:=by
 unfold wpOp at h
 simp only [ho] at h
 have hw:Region.wanted o (yielded ops a.tmps)=true:=by simp [Region.wanted,hg]
 rw [if_pos hw] at h
 rcases h with h|⟨_,a',w',h⟩
 ·unfold Oper.wp at h
  have hr: ∀w,(execOp a.eval o).run P w=(do pure (Next.value (<-Instr.extract (a.eval x) i))).run P w:= λw=>by unfold execOp;rw [mX]
  rw [hr] at h
  unfold Instr.extract at h hr
  split at h
  ·rename_i vs hx
   split at h
   ·rename_i v hv
    rw [hx] at hr
    simp only [hv] at hr
    exact ⟨v, .inl ⟨hw,λw=>(hr w).trans rfl⟩,h⟩
   ·exact h.elim
  ·exact h.elim
 ·cases hQ _ _ _ h
theorem Yx {Q:Exit->Act->World->Prop} (hQ: ∀e a w,Q e a w->e= .normal) (ca:Region.noSelect ops=true): ∀(l:List Nat) (Ac:Array Bool) (a:Act) (w:World),ji ops l Ac=true->wpOps P ops Q l a w->wpAny P .any ops Q l.length Ac a w
 | [],Ac,a,w,hB,h=>⟨by simpa [ji] using hB,h⟩
 |k::r,Ac,a,w,hB,h=>by
  simp only [ji,Bool.and_eq_true,Bool.or_eq_true,decide_eq_true_eq] at hB
  rw [wpOps_cons] at h
  rcases hB.1 with h0|⟨h1,h2,h3⟩
  ·refine ⟨λh1=>(by rw [h0] at h1;cases h1),λi hi=>?_⟩
   rw [h0] at hi
   have hik:i=k:=by simpa using hi
   subst hik
   exact wpOp_mono (λa' w' h'=>Yx hQ ca r _ a' w' hB.2 h') h
  ·unfold NN at h1
   split at h1
   ·rename_i o ho
    split at h1
    ·rename_i x i mX hg
     obtain ⟨v,hy,hk⟩:=tZ hQ ho mX hg h
     exact wpAny_take ho ca h3 h2 (λc a w hq=>by cases hQ _ _ _ hq) hy (Yx hQ ca r _ _ w hB.2 hk)
    ·cases h1
   ·cases h1
theorem iF {P:Program} {o:Oper} {t:Tmp} {a:Act} (h:o.op= .move (.tmp t)) (hg:o.guard=none):Yields P ops o (a.tmps.getD t undef) a:=by
 refine .inl ⟨by simp [Region.wanted,hg],λw=>?_⟩
 unfold execOp
 rw [h]
 rfl
theorem uo {hd tl:List Nat} {i:Nat} (h:iP ops hd tl i=true): ∃o t,ops[i]?=some o/\o.op= .move (.tmp t)/\o.guard=none:=by
 unfold iP at h
 split at h
 ·rename_i o ho
  simp only [Bool.and_eq_true] at h
  have h1:=h.1
  split at h1
  ·rename_i t h2 h3
   exact ⟨o,t,ho,h2,h3⟩
  ·cases h1
 ·cases h
theorem c5 {q:Bool} {hd:List Nat} {Q:Exit->Act->World->Prop} (hQ: ∀c a w,¬Q (.panic c) a w) (ca:Region.noSelect ops=true) {n:Nat} {st1:St}
  (fp: ∀Ac st a w,(∀j oj,ops[j]?=some oj->Ac.getD j false=true-> ∀e∈oj.after,Region.binds .any e=true->Ac.getD e.on false=true)->Ac.size=ops.size->kf ops tl hd Ac=true->st=st1->Rel X st a w->
   (∀j,Ac.getD j false=true↔j∈Pj q Γ ops)->wpAny P .any ops Q n Ac a w):
  ∀(l dn:List Nat) (Ac:Array Bool) (st:St) (a:Act) (w:World),(∀j,j∈Pj q Γ ops↔j∈dn\/j∈l)->(∀i,i∈l-> ∃o t,ops[i]?=some o/\o.op= .move (.tmp t)/\o.guard=none)->
   (∀j oj,ops[j]?=some oj->Ac.getD j false=true-> ∀e∈oj.after,Region.binds .any e=true->Ac.getD e.on false=true)->Ac.size=ops.size->(∀j,Ac.getD j false=true↔j∈dn)->
   iE ops tl hd l Ac=true->Ed T Γ ops l st=some st1->Rel X st a w->wpAny P .any ops Q (l.length+n) Ac a w
 | [],dn,Ac,st,a,w,hm,_,hc,Xm,hdn,hf,he,hr=>by
  simp only [Ed,Option.some.injEq] at he
  rw [List.length_nil,Nat.zero_add]
  exact fp Ac st a w hc Xm (by simpa [iE] using hf) he hr λj=>by rw [hdn j,hm j];simp
 |k::l,dn,Ac,st,a,w,hm,hl,hc,Xm,hdn,hf,he,hr=>by
  simp only [iE,Bool.and_eq_true] at hf
  obtain ⟨⟨h1,h2⟩,h3⟩:=hf
  obtain ⟨o,t,ho,mX,hg⟩:=hl k (by simp)
  have qy:k∈Region.ready .any ops Ac:=by simpa using h1
  obtain ⟨_,o',ho',Hf⟩:=mem_ready.1 qy
  have ho2:o'=o:=Option.some.inj (ho'.symm.trans ho)
  subst ho2
  have hks:k<Ac.size:=by rw [Xm];exact (Array.getElem?_eq_some_iff.1 ho).1
  simp only [Ed,ho] at he
  have hv:cd T Γ ops st o'=some (st.get t):=by simp only [cd,hg,Sm,Ci,mX];rfl
  rw [hv] at he
  rw [List.length_cons,show l.length+1+n=(l.length+n)+1 by omega]
  refine wpAny_take ho ca h2 h1 (λc a w hq=>absurd hq (hQ c _ w)) (iF mX hg) ?_
  obtain ⟨π,hr⟩:=hr
  refine c5 hQ ca fp l (k::dn) _ _ _ _ (λj=>by rw [hm j,List.mem_cons,List.mem_cons];exact ⟨λh=>h.elim (λh=> .inl (.inr h)) (λh=>h.elim (λh=> .inl (.inl h)) .inr),λh=>h.elim (λh=>h.elim (λh=> .inr (.inl h)) .inl) (λh=> .inr (.inr h))⟩) (λi hi=>hl i (by simp [hi])) ?_ (by simp [Xm]) (λj=>?_) h3 he ⟨π,hr.put o'.dst (hr.2.tmps t)⟩
  ·intro j oj hj hlj e hem hb
   by_cases LF:k=j
   ·subst LF
    have:oj=o':=Option.some.inj (hj.symm.trans ho)
    subst this
    exact getD_set_true (Hf e hem hb)
   ·rw [getD_set_ne false LF] at hlj
    exact getD_set_true (hc j oj hj hlj e hem hb)
  ·by_cases LF:k=j
   ·subst LF
    refine ⟨λ_=>by simp,λ_=>?_⟩
    simp [hks]
   ·rw [getD_set_ne false LF,hdn j]
    simp [Ne.symm LF]
theorem bH {ops:Array Oper} : ∀(a b:List Nat) (st st':St),Ed T Γ ops (a++b) st=some st'-> ∃s,Ed T Γ ops a st=some s/\Ed T Γ ops b s=some st'
 | [],b,st,st',h=>⟨st,rfl,h⟩
 |i::a,b,st,st',h=>by
  simp only [List.cons_append,Ed] at h⊢
  split at h
  ·cases h
  ·split at h
   ·exact bH a b _ st' h
   ·cases h
theorem jX (hT:Ca P T) (Mq:Hi P Γ) (hm:P.follows .mixedOrders=true) {Q:Exit->Act->World->Prop} {id:Nat} {draw:Bool} {st st':St} {a:Act} (h:Rel X st a w)
  (he:Lo T Γ ops draw st=some st') (hQ: ∀a' w',Rel X st' a' w'->Q .normal a' w'):(Code.region id ops draw).wp P Q a w:=by
 unfold Lo at he
 cases draw with
 |false=>
  rw [if_neg (by simp)] at he
  exact wp_region_list (fh hT Mq ops.toList st st' a w h he hQ)
 |true=>
  rw [if_pos rfl] at he
  have go: ∀(q:Bool),ez q Γ ops=true->(match Ed T Γ ops (eg q Γ ops) st with
    |some st'=>Jf T Γ ops (Fb q Γ ops) st'
    |none=>none)=some st'->(Code.region id ops true).wp P Q a w:=by
   intro q eS he
   split at he
   ·rename_i st1 h1
    simp only [ez,Bool.and_eq_true,beq_iff_eq] at eS
    obtain ⟨⟨⟨ca,hlen⟩,XY⟩,Adf⟩:=eS
    refine wp_mono (Q:= λe a w=>e= .normal/\Q .normal a w) ?_ λe a w h=>h.1▸h.2
    refine wp_region_any hm ?_
    have hrel:Rel X st a {w with drawn:=w.drawn+1} :=by
     obtain ⟨π,h⟩:=h
     exact ⟨π,h.quiet ⟨rfl,rfl,rfl,Nat.le_refl _,λ_ _=>rfl⟩⟩
    obtain ⟨s0,h0,h1⟩:=bH _ _ _ _ h1
    have cT: ∀i,i∈Xl q Γ ops->i<ops.size:= λi hi=>List.mem_range.1 (List.mem_filter.1 hi).1
    have Xm: ∀i,i∈Pl q Γ ops->i<ops.size:= λi hi=>cT i (List.mem_filter.1 hi).1
    have Hf: ∀j,j<ops.size->j∈Pj q Γ ops\/j∈Pl q Γ ops\/j∈Fb q Γ ops:= λj hj=>by
     by_cases ht:j∈Fb q Γ ops
     ·exact .inr (.inr ht)
     ·have hh:j∈Xl q Γ ops:=List.mem_filter.2 ⟨List.mem_range.2 hj,by simpa using ht⟩
      cases RD:iP ops (Xl q Γ ops) (Fb q Γ ops) j with
      |true=>exact .inl (List.mem_filter.2 ⟨hh,RD⟩)
      |false=>exact .inr (.inl (List.mem_filter.2 ⟨hh,by rw [RD];rfl⟩))
    have VH: ∀j,j∈Xl q Γ ops->j∉Fb q Γ ops:= λj hj=>by
     have:=(List.mem_filter.1 hj).2
     simpa using this
    have xw: ∀j,j∈Pl q Γ ops->j∉Fb q Γ ops:= λj hj=>VH j (List.mem_filter.1 hj).1
    have Ace: ∀j,j∈Pj q Γ ops->j∉Fb q Γ ops:= λj hj=>VH j (List.mem_filter.1 hj).1
    have htl: ∀t,t∈Fb q Γ ops->t<ops.size:=by
     intro t ht
     unfold Fb at ht
     have: ∀(l:List Nat) (acc:List Nat),(∀i,i∈acc->i<ops.size)->(∀i,i∈l->i<ops.size)-> ∀i,i∈l.foldl (init:=acc) (λacc i=>match ops[i]? with
       |some o=>if NW q Γ o||o.after.any (λe=>Region.binds .any e&&acc.contains e.on) then acc++ [i] else acc
       |none=>acc)->i<ops.size:=by
      intro l
      induction l with
      |nil=>intro acc h1 _ i hi;exact h1 i hi
      |cons x l ih=>
       intro acc h1 h2 i hi
       simp only [List.foldl_cons] at hi
       refine ih _ ?_ (λi hi=>h2 i (by simp [hi])) i hi
       intro k hk
       split at hk
       ·split at hk
        ·rcases List.mem_append.1 hk with hk|hk
         ·exact h1 k hk
         ·simp at hk;rw [hk];exact h2 x (by simp)
        ·exact h1 k hk
       ·exact h1 k hk
     exact this (List.range ops.size) [] (by simp) (λi hi=>List.mem_range.1 hi) t ht
    rw [<-hlen]
    refine c5 (q:=q) (X:=X) (T:=T) (Γ:=Γ) (tl:=Fb q Γ ops) (hd:=Pl q Γ ops) (st1:=s0) (λc a w hq=>by cases hq.1) ca ?_ (Pj q Γ ops) [] _ st a _ (λj=>by simp)
     (λi hi=>uo (List.mem_filter.1 hi).2) (λj oj _ hl=>(by rw [hlen,getD_replicate_false] at hl;cases hl)) (by simp [hlen]) (λj=>by rw [hlen,getD_replicate_false];simp) (by rw [hlen];exact XY) h0 hrel
    intro Ac s a' w' hc wv Acm hs hr RD
    subst hs
    have Aj6:Sk ops (Fb q Γ ops) (Pj q Γ ops) Ac:=
     ⟨wv,λi hi=>(RD i).2 hi,hc,λt ht=>getD_in (by rw [wv];exact htl t ht) (by
      cases hg:Ac.getD t false with
      |false=>rfl
      |true=>exact absurd ht (Ace t ((RD t).1 hg)))⟩
    have HA:=wC (T:=T) (Γ:=Γ) ca Adf Xm Hf xw st1 (Pl q Γ ops) _ s (λi hi=>hi) Aj6 Acm h1
    exact fT (X:=X) (P:=P) (Q:= λe a w=>e= .normal/\Q .normal a w) (g:=(Fb q Γ ops).length) hT Mq (λAc s a' w' hL hr=>by
     obtain ⟨Ain,rfl⟩:=hL
     exact Yx (λe a w h=>h.1) ca (Fb q Γ ops) Ac a' w' Ain (fc hT Mq _ _ st' a' w' hr he λa w h=>⟨rfl,hQ a w h⟩)) _ _ _ _ _ HA hr
   ·cases he
  split at he
  ·rename_i eS;exact go false eS he
  ·split at he
   ·rename_i eS;exact go true eS he
   ·cases he
theorem Ys (q:Bool): ∀(l:List Nat) (Ac:Array Bool),(Ex q ops l Ac).length<=l.length
 | [],_=>Nat.le_refl _
 |i::r,Ac=>by
  simp only [Ex]
  split
  ·simp only [List.length_cons];have:=Ys q r (Ac.setIfInBounds i true);omega
  ·simp only [List.length_cons];have:=Ys q r Ac;omega
theorem yF (hT:Ca P T) {st:St} {a:Act} (h:Al X π st a w) {i:Nat} {o:Oper} (ho:ops[i]?=some o) (hp:eu ops i=true) {v:AV} (hv:cd T Γ ops st o=some v):
  ∃u,Yields P ops o u a/\An X w π st.heap v u:=by
 unfold eu at hp
 rw [ho] at hp
 simp only at hp
 obtain ⟨dst,op,ty,pos,af,gd⟩:=o
 split at hp
 ·rename_i t h3 h4
  simp only at h3 h4;subst h3;subst h4
  refine ⟨a.tmps.getD t undef,iF rfl rfl,?_⟩
  simp only [cd,Sm,Ci,Option.some.injEq] at hv
  subst hv
  exact h.2.tmps t
 ·rename_i x h3 h4
  simp only at h3 h4;subst h3;subst h4
  have e:=Bo h.2 x
  have fin:(∃ad,a.eval x= .pointer (some ad))->Yields P ops ⟨dst, .nilCheck x,ty,pos,af,none⟩ (a.eval x) a:= λ⟨ad,hx⟩=>
   .inl ⟨by simp [Region.wanted],λw=>by simp [execOp,hx]⟩
  simp only [cd,Sm,Ci] at hv
  split at hv
  ·rename_i fr τ y hx
   simp only [Option.some.injEq] at hv;subst hv
   rw [hx] at e
   have e':=e
   obtain ⟨cs,hc,hv⟩:=e
   simp only [Cells] at hc
   obtain ⟨g,o,rfl,_⟩:=hc
   simp only [As,Ty.Ab,Bool.false_eq_true,if_false,List.headD_cons] at hv
   exact ⟨_,fin ⟨_,hv⟩,e'⟩
  ·rename_i fr τ y hx
   simp only [Option.some.injEq] at hv;subst hv
   rw [hx] at e
   obtain ⟨cs,hc,hv⟩:=e
   simp only [Cells] at hc
   rcases hc with ⟨h0,_⟩|⟨y',g,o,h0,rfl,hr⟩
   ·cases h0
   simp only [Option.some.injEq] at h0;subst h0
   simp only [As,Ty.Ab,Bool.false_eq_true,if_false,List.headD_cons] at hv
   exact ⟨_,fin ⟨_,hv⟩,[_],⟨g,o,rfl,hr⟩,by rw [hv];simp [As,Ty.Ab]⟩
  ·rename_i l i hx
   simp only [Option.some.injEq] at hv;subst hv
   rw [hx] at e
   have e':=e
   obtain ⟨r,tid,vs,_,_,hv⟩:=e
   exact ⟨_,fin ⟨_,hv⟩,e'⟩
  ·rename_i l i hx
   simp only [Option.some.injEq] at hv;subst hv
   rw [hx] at e
   have e':=e
   obtain ⟨r,b,sz,n,_,_,_,_,hv⟩:=e
   exact ⟨_,fin ⟨_,hv⟩,e'⟩
  ·cases hv
 ·rename_i s x f h3 h4
  simp only at h3 h4;subst h3;subst h4
  simp only [cd,Sm,Ci] at hv
  obtain ⟨u,h1,h2⟩:=Xe hT (st:=st) _ _ _ _ v (Bo h.2 x) hv
  refine ⟨u, .inl ⟨by simp [Region.wanted],λw=>?_⟩,h2⟩
  have:=h1 w
  simp only [execOp,Sem.run_bind]
  first
   |(rw [this];rfl)
   |simp [this]
 ·cases hp
theorem v7 {i:Nat} (h:uq ops i=true):eu ops i=true:=by
 unfold uq at h
 unfold eu
 split at h
 ·rename_i o ho
  split at h
  ·rename_i h1 h2
   simp only [h1,h2]
  ·cases h
 ·cases h
theorem Wu (hT:Ca P T) (q:Bool) {Q:Exit->Act->World->Prop} (hQ: ∀c a w,¬Q (.panic c) a w) (ca:Region.noSelect ops=true) {n:Nat} {st1:St} :
  ∀(l:List Nat) (Ac:Array Bool) (st:St) (a:Act) (w:World),Ed T Γ ops (Ex q ops l Ac) st=some st1->Rel X st a w->
   (∀a w,Rel X st1 a w->wpAny P .any ops Q n (Ei (Ex q ops l Ac) Ac) a w)->wpAny P .any ops Q ((Ex q ops l Ac).length+n) Ac a w
 | [],Ac,st,a,w,he,hr,hK=>by
  simp only [Ex,Ed,Option.some.injEq] at he
  subst he
  simp only [Ex,List.length_nil,Nat.zero_add]
  exact hK a w hr
 |k::l,Ac,st,a,w,he,hr,hK=>by
  simp only [Ex] at he hK⊢
  split
  ·rename_i hc
   rw [if_pos hc] at he hK
   simp only [Bool.and_eq_true] at hc
   obtain ⟨h0,h1,h2⟩:=hc
   have hp:eu ops k=true:=by
    cases q with
    |true=>exact h0
    |false=>exact v7 h0
   simp only [Ed] at he
   split at he
   ·cases he
   rename_i o ho
   split at he
   rotate_left
   ·cases he
   rename_i v hv
   obtain ⟨π,hr⟩:=hr
   obtain ⟨u,hy,hu⟩:=yF (Γ:=Γ) hT hr ho hp hv
   rw [List.length_cons,show (Ex q ops l (Ac.setIfInBounds k true)).length+1+n=((Ex q ops l (Ac.setIfInBounds k true)).length+n)+1 by omega]
   refine wpAny_take ho ca h2 h1 (λc a w hq=>absurd hq (hQ c _ w)) hy ?_
   exact Wu hT q hQ ca l _ _ _ _ he ⟨π,hr.put o.dst hu⟩ hK
  ·rename_i hc
   rw [if_neg hc] at he hK
   exact Wu hT q hQ ca l Ac st a w he hr hK
theorem fU (hT:Ca P T) (Mq:Hi P Γ) {Q:Exit->Act->World->Prop} {K:St->Prop} (hK: ∀st a w,K st->Rel X st a w->Q .normal a w):
  ∀(f:Nat) (Ac:Array Bool) (st:St) (a:Act) (w:World),anyS T Γ ops K f Ac st->Rel X st a w->wpAny P .any ops Q f Ac a w
 |0,Ac,st,a,w,h,hr=>⟨h.1,hK _ _ _ h.2 hr⟩
 |f+1,Ac,st,a,w,h,hr=>by
  refine ⟨λh0=>absurd h0 h.1,λi hi=>?_⟩
  obtain ⟨o,st',ho,he,fp⟩:=h.2 i hi
  obtain ⟨π,hr⟩:=hr
  unfold wpOp
  simp only [ho]
  exact Vv hT Mq hr o he λa' w' h'=>fU hT Mq hK f _ _ _ _ fp h'
theorem CT (hT:Ca P T) (Mq:Hi P Γ) (hm:P.follows .mixedOrders=true) {Q:Exit->Act->World->Prop} {id:Nat} {draw:Bool} {st:St} {K:St->Prop} {a:Act} (h:Rel X st a w)
  (he:tC T Γ ops draw st K) (hQ: ∀st' a' w',K st'->Rel X st' a' w'->Q .normal a' w'):(Code.region id ops draw).wp P Q a w:=by
 rcases he with ⟨st',h1,h2⟩|⟨rfl,ca,bV,h1,h2⟩
 ·exact jX hT Mq hm h h1 λa' w' h'=>hQ st' a' w' h2 h'
 ·refine wp_mono (Q:= λe a w=>e= .normal/\Q .normal a w) ?_ λe a w h=>h.1▸h.2
  refine wp_region_any hm ?_
  have hrel:Rel X st a {w with drawn:=w.drawn+1} :=by
   obtain ⟨π,h⟩:=h
   exact ⟨π,h.quiet ⟨rfl,rfl,rfl,Nat.le_refl _,λ_ _=>rfl⟩⟩
  have hlen:(Kk ops).length<=ops.size:=by
   have:=Ys (ops:=ops) (!ec false ops) (List.range ops.size) (Array.replicate ops.size false)
   rw [List.length_range] at this
   exact this
  have:=Wu hT (!ec false ops) (X:=X) (P:=P) (T:=T) (Γ:=Γ) (Q:= λe a w=>e= .normal/\Q .normal a w) (n:=ops.size-(Kk ops).length) (st1:=bV) (λc a w hq=>by cases hq.1) ca (List.range ops.size) (Array.replicate ops.size false) st a _ h1 hrel λa' w' h'=>
   fU hT Mq (λst' a' w' hk hr=>⟨rfl,hQ st' a' w' hk hr⟩) _ _ _ _ _ h2 h'
  have e:(Ex (!ec false ops) ops (List.range ops.size) (Array.replicate ops.size false)).length+(ops.size-(Kk ops).length)=ops.size:=by
   have e2:(Ex (!ec false ops) ops (List.range ops.size) (Array.replicate ops.size false)).length=(Kk ops).length:=rfl
   omega
  rw [e] at this
  exact this
end
end Go.Proofs.YtfolipnappekaaaGreat
