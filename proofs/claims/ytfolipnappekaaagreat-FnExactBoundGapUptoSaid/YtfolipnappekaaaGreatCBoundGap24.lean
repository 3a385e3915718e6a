/-
  Part 25 of the proof that the statement FnExactBoundGap holds.
-/
import Derived.Test.YtfolipnappekaaaGreatCBoundGap23
namespace Go.Proofs.YtfolipnappekaaaGreat
open Go.RowKit
section
variable {P:Program} {T:Tab} {Γ:Env} {X:Ctx} {w w':World} {π:Pi} {ops:Array Oper} {hd tl:List Nat}
structure Td (ops:Array Oper) (tl fl:List Nat) (Ac:Array Bool):Prop where
 size:Ac.size=ops.size
 done: ∀i,i∈fl->Ac.getD i false=true
 closed: ∀j oj,ops[j]?=some oj->Ac.getD j false=true-> ∀e∈oj.after,Region.binds .any e=true->Ac.getD e.on false=true
 tail: ∀t,t∈tl->Ac.getD t true=false
theorem Td.set {fl:List Nat} {i:Nat} {Ac:Array Bool} (inv:Td ops tl fl Ac) (hi:i∈Region.ready .any ops Ac) (Vf:i∉tl):Td ops tl fl (Ac.setIfInBounds i true):=by
 obtain ⟨_,oi,hoi,Hm⟩:=mem_ready.1 hi
 refine ⟨by simp [inv.size],λk hk=>getD_set_true (inv.done k hk),λj oj hj hl e he hb=>?_,λt ht=>by
  have Ff:i≠t:= λe=>Vf (by rw [e];exact ht)
  rw [getD_set_ne true Ff];exact inv.tail t ht⟩
 by_cases kE:i=j
 ·subst kE
  have:oj=oi:=Option.some.inj (hj.symm.trans hoi)
  subst this
  exact getD_set_true (Hm e he hb)
 ·rw [getD_set_ne false kE] at hl
  exact getD_set_true (inv.closed j oj hj hl e he hb)
theorem BD (k:Nat) (r:List Nat) (h:(r.all λt=>(k::r).any λk=>Region.waitsFor .any ops t k)=true): ∀t,t∈r-> ∃k',(k'=k\/k'∈r)/\Region.waitsFor .any ops t k'=true:= λt ht=>by
 obtain ⟨k',h1,h2⟩:=List.any_eq_true.1 (List.all_eq_true.1 h t ht)
 exact ⟨k',List.mem_cons.1 h1,h2⟩
theorem zG {fl:List Nat} {Ac:Array Bool} (hs:pR ops hd tl=true) (inv:Td ops tl fl Ac) (Xz: ∀i,i∈hd->i<ops.size):
  ∀(d i:Nat),ops.size-i=d->i∈hd->Ac.getD i true=false-> ∀t,t∈tl->t∉Region.ready .any ops Ac:=by
 cases tl with
 |nil=>intro d i _ _ _ t ht;cases ht
 |cons f r=>
  simp only [pR,Bool.and_eq_true] at hs
  obtain ⟨iv,qK⟩:=hs
  intro d
  induction d using Nat.strongRecOn with
  |_ d ih=>
   intro i hd' hi MZ t ht hr
   obtain ⟨_,ot,hot,Hm⟩:=mem_ready.1 hr
   rcases List.mem_cons.1 ht with rfl|j8
   ·have h1:=List.all_eq_true.1 iv i hi
    obtain ⟨j,hj,hj2⟩:=List.any_eq_true.1 h1
    simp only [Bool.and_eq_true,decide_eq_true_eq] at hj2
    obtain ⟨oj,YE,e,he,hb,hon⟩:=Region.waitsFor_spec hj2.2
    rcases List.mem_cons.1 hj with rfl|UY
    ·have:oj=ot:=Option.some.inj (YE.symm.trans hot)
     subst this
     have h2:=Hm e he hb
     rw [hon,getD_both MZ] at h2
     cases h2
    ·cases hl:Ac.getD j false with
     |true=>
      have h2:=inv.closed j oj YE hl e he hb
      rw [hon,getD_both MZ] at h2
      cases h2
     |false=>
      have hjs:j<Ac.size:=by rw [inv.size];exact Xz j UY
      have:=Xz j UY
      exact ih (ops.size-j) (by omega) j rfl UY (getD_in hjs hl) t (by simp) hr
   ·obtain ⟨k',h1,h2⟩:=BD f r qK t j8
    obtain ⟨o',ho',e,he,hb,hon⟩:=Region.waitsFor_spec h2
    have:o'=ot:=Option.some.inj (ho'.symm.trans hot)
    subst this
    have h3:=Hm e he hb
    have hk:k'∈f::r:=by rcases h1 with rfl|h1<;>simp [*]
    rw [hon,getD_both (inv.tail k' hk)] at h3
    cases h3
def NC (T:Tab) (Γ:Env) (ops:Array Oper) (hd:List Nat) (L:Array Bool->St->Prop):Nat->Array Bool->St->Prop
 |0,Ac,st=>L Ac st
 |f+1,Ac,st=>
  Region.ready .any ops Ac≠ []/\ ∀i∈Region.ready .any ops Ac,i∈hd/\ ∃o v,ops[i]?=some o/\cB T Γ ops st o=some v/\NC T Γ ops hd L f (Ac.setIfInBounds i true) (st.put o.dst v)
theorem wY (hT:Ce P T) (Ni:Iu P Γ) {Q:Exit->Act->World->Prop} {K:Act->World->Prop} {st:St} {a:Act} (h:Rel X st a w) {i:Nat} {o:Oper} {v:AV} (ho:ops[i]?=some o) (hv:cB T Γ ops st o=some v)
  (hK: ∀a' w',Rel X (st.put o.dst v) a' w'->K a' w'):wpOp P ops Q i K a w:=by
 obtain ⟨π,h⟩:=h
 have run:Tf T Γ st o=some v->o.wp P a w K Q:= λhe=>mF (X:=X) (st':=st) (av:=v) (xI hT Ni h o v he) hK
 have skip:v= .at .skip->K (a.put o.dst undef) w:= λe=>by subst e;exact hK _ _ ⟨π,h.put o.dst zr⟩
 unfold wpOp
 simp only [ho]
 unfold cB at hv
 split at hv
 ·rename_i hg
  rw [if_pos (by simp [Region.wanted,hg])]
  exact .inl (run hv)
 ·rename_i j want hg
  split at hv
  ·rename_i b hb
   have hy:=(aO h j).1 b hb
   split at hv
   ·rename_i BS
    rw [if_pos (by simp only [Region.wanted,hg,hy];simpa using BS)]
    exact .inl (run hv)
   ·rename_i BS
    rw [if_neg (by simp only [Region.wanted,hg,hy];simpa using BS)]
    simp only [Option.some.injEq] at hv
    exact skip hv.symm
  ·rename_i hb
   have hy:=(aO h j).2 hb
   rw [if_neg (by simp [Region.wanted,hg,hy])]
   simp only [Option.some.injEq] at hv
   exact skip hv.symm
  ·cases hv
theorem gw (hT:Ce P T) (Ni:Iu P Γ) {g:Nat} {L:Array Bool->St->Prop} {Q:Exit->Act->World->Prop} (hL: ∀Ac st a w,L Ac st->Rel X st a w->wpAny P .any ops Q g Ac a w):
  ∀(f:Nat) (Ac:Array Bool) (st:St) (a:Act) (w:World),NC T Γ ops hd L f Ac st->Rel X st a w->wpAny P .any ops Q (f+g) Ac a w
 |0,Ac,st,a,w,h,hr=>by rw [Nat.zero_add];exact hL _ _ _ _ h hr
 |f+1,Ac,st,a,w,h,hr=>by
  rw [show f+1+g=(f+g)+1 by omega]
  refine ⟨λh0=>absurd h0 h.1,λi hi=>?_⟩
  obtain ⟨_,o,v,ho,hv,fM⟩:=h.2 i hi
  exact wY hT Ni hr ho hv λa' w' h'=>gw hT Ni hL f _ _ _ _ fM h'
theorem AM {fl:List Nat} {i:Nat} {oi:Oper} {v:AV} {L:Array Bool->St->Prop} (hi:ops[i]?=some oi) (hs:pR ops hd tl=true) (Xz: ∀i,i∈hd->i<ops.size) (Vf:i∈hd)
  (Hm: ∀j,j<ops.size->j∈fl\/j∈hd\/j∈tl) (yb: ∀j,j∈hd->j∉tl) (Adz: ∀Ac st,L Ac st-> ∀j∈Region.ready .any ops Ac,j∈tl):
  ∀(f:Nat) (Ac:Array Bool) (st:St),Td ops tl fl Ac->
   (∀j oj,ops[j]?=some oj->j≠i->Ac.getD j true=false->(∀e∈oj.after,Region.binds .any e=true->e.on≠i)->oi.apart ops oj=true)->
   i∈Region.ready .any ops Ac->cB T Γ ops st oi=some v->
   NC T Γ ops hd L f (Ac.setIfInBounds i true) (st.put oi.dst v)->NC T Γ ops hd L (f+1) Ac st:=by
 intro f
 have Afg: ∀Ac,Td ops tl fl Ac->i∈Region.ready .any ops Ac-> ∀j,j∈Region.ready .any ops Ac->j∈hd:=by
  intro Ac inv hr j hj
  obtain ⟨MZ,oj,YE,_⟩:=mem_ready.1 hj
  rcases Hm j (Array.getElem?_eq_some_iff.1 YE).1 with h|h|h
  ·have h1:=inv.done j h
   rw [getD_both MZ] at h1;cases h1
  ·exact h
  ·exact absurd hj (zG hs inv Xz _ i rfl Vf (mem_ready.1 hr).1 j h)
 induction f with
 |zero=>
  intro Ac st inv _ hr hv Hh
  refine ⟨λh=>(by rw [h] at hr;cases hr),λj hj=>?_⟩
  have UY:=Afg Ac inv hr j hj
  refine ⟨UY,?_⟩
  by_cases qY:j=i
  ·subst qY;exact ⟨oi,v,hi,hv,Hh⟩
  ·exact absurd (Adz _ _ Hh j (ready_mono hj qY)) (yb j UY)
 |succ f ih=>
  intro Ac st inv j4 hr hv Hh
  have MZ:=(mem_ready.1 hr).1
  refine ⟨λh=>(by rw [h] at hr;cases hr),λj hj=>?_⟩
  have UY:=Afg Ac inv hr j hj
  refine ⟨UY,?_⟩
  by_cases qY:j=i
  ·subst qY;exact ⟨oi,v,hi,hv,Hh⟩
  ·obtain ⟨_,oj,vj,YE,hvj,fM⟩:=Hh.2 j (ready_mono hj qY)
   obtain ⟨Ae8,oj',Ak1,Ads⟩:=mem_ready.1 hj
   have:oj'=oj:=Option.some.inj (Ak1.symm.trans YE)
   subst this
   have oL: ∀e∈oj'.after,Region.binds .any e=true->e.on≠i:= λe he hb heq=>by
    have h1:=Ads e he hb
    rw [heq,getD_both MZ] at h1
    cases h1
   obtain ⟨p1,p2,p3⟩:=Oper.apart_spec (j4 j oj' YE qY Ae8 oL)
   rw [zL p1] at hvj
   refine ⟨oj',vj,YE,hvj,?_⟩
   have Aa5: ∀k ok,ops[k]?=some ok->k≠i->(Ac.setIfInBounds j true).getD k true=false->
     (∀e∈ok.after,Region.binds .any e=true->e.on≠i)->oi.apart ops ok=true:= λk ok hk hki Af4 YD=>by
    refine j4 k ok hk hki ?_ YD
    by_cases hjk:j=k
    ·subst hjk;exact Ae8
    ·rw [getD_set_ne true hjk] at Af4;exact Af4
   refine ih (Ac.setIfInBounds j true) (st.put oj'.dst vj) (inv.set hj (yb j UY)) Aa5 (ready_mono hr (Ne.symm qY)) (by rw [zL p3];exact hv) ?_
   rw [Array.setIfInBounds_comm _ _ qY,<-St.put_comm st v vj p2]
   exact fM
theorem mq: ∀(l:List Nat) (Ac:Array Bool),jA ops l Ac=true-> ∀j∈Region.ready .any ops Ac,j∈l
 | [],Ac,h,j,hj=>by simp only [jA,List.isEmpty_iff] at h;rw [h] at hj;cases hj
 |k::r,Ac,h,j,hj=>by
  simp only [jA,Bool.and_eq_true,Bool.or_eq_true,decide_eq_true_eq] at h
  rcases h.1 with h1|h1
  ·rw [h1] at hj
   simp at hj
   simp [hj]
  ·by_cases e:j=k
   ·simp [e]
   ·exact List.mem_cons_of_mem _ (mq r _ h.2 j (ready_mono hj e))
theorem xb {fl:List Nat} (cy:Region.noSelect ops=true) (hs:pR ops hd tl=true) (Xz: ∀i,i∈hd->i<ops.size) (Hm: ∀j,j<ops.size->j∈fl\/j∈hd\/j∈tl) (yb: ∀j,j∈hd->j∉tl) (st':St):
  ∀(l:List Nat) (Ac:Array Bool) (st:St),(∀i,i∈l->i∈hd)->Td ops tl fl Ac->kC ops tl l Ac=true->El T Γ ops l st=some st'->
  NC T Γ ops hd (λvA s=>jA ops tl vA=true/\s=st') l.length Ac st
 | [],Ac,st,_,_,hB,he=>by
  simp only [El,Option.some.injEq] at he
  exact ⟨by simpa [kC] using hB,he⟩
 |k::l,Ac,st,hl,inv,hB,he=>by
  simp only [kC,Bool.and_eq_true] at hB
  obtain ⟨⟨hr,hf⟩,hB'⟩:=hB
  have hkh:=hl k (by simp)
  have aF:k∈Region.ready .any ops Ac:=by simpa using hr
  simp only [El] at he
  split at he
  ·cases he
  ·rename_i o ho
   split at he
   ·rename_i v hv
    exact AM ho hs Xz hkh Hm yb (λvA s hL=>mq tl vA hL.1) l.length Ac st inv (Region.free_spec ho hf) aF hv
     (xb cy hs Xz Hm yb st' l _ _ (λi hi=>hl i (by simp [hi])) (inv.set aF (yb k hkh)) hB' he)
   ·cases he
theorem uK {Q:Exit->Act->World->Prop} (hQ: ∀e a w,Q e a w->e= .normal) {k i:Nat} {x:Operand} {o:Oper} (ho:ops[k]?=some o) (nB:o.op= .extract x i) (hg:o.guard=none) {K:Act->World->Prop} {a:Act} {w:World}
  (h:wpOp P ops Q k K a w): ∃v,Yields P ops o v a/\K (a.put o.dst v) w:=by
 unfold wpOp at h
 simp only [ho] at h
 have hw:Region.wanted o (yielded ops a.tmps)=true:=by simp [Region.wanted,hg]
 rw [if_pos hw] at h
 rcases h with h|⟨_,a',w',h⟩
 ·unfold Oper.wp at h
  have hr: ∀w,(execOp a.eval o).run P w=(do pure (Next.value (<-Instr.extract (a.eval x) i))).run P w:= λw=>by unfold execOp;rw [nB]
  rw [hr] at h
  unfold Instr.extract at h hr
  split at h
  ·rename_i vs hx
   split at h
   ·rename_i v hv
    rw [hx] at hr
    simp only [hv] at hr
    exact ⟨v, .inl ⟨hw,λw=>(hr w).trans rfl⟩,h⟩
   ·exact h.elim
  ·exact h.elim
 ·cases hQ _ _ _ h
theorem Zi {Q:Exit->Act->World->Prop} (hQ: ∀e a w,Q e a w->e= .normal) (cy:Region.noSelect ops=true): ∀(l:List Nat) (Ac:Array Bool) (a:Act) (w:World),jA ops l Ac=true->wpOps P ops Q l a w->wpAny P .any ops Q l.length Ac a w
 | [],Ac,a,w,hB,h=>⟨by simpa [jA] using hB,h⟩
 |k::r,Ac,a,w,hB,h=>by
  simp only [jA,Bool.and_eq_true,Bool.or_eq_true,decide_eq_true_eq] at hB
  rw [wpOps_cons] at h
  rcases hB.1 with h0|⟨h1,h2,h3⟩
  ·refine ⟨λh1=>(by rw [h0] at h1;cases h1),λi hi=>?_⟩
   rw [h0] at hi
   have hik:i=k:=by simpa using hi
   subst hik
   exact wpOp_mono (λa' w' h'=>Zi hQ cy r _ a' w' hB.2 h') h
  ·unfold PV at h1
   split at h1
   ·rename_i o ho
    split at h1
    ·rename_i x i nB hg
     obtain ⟨v,hy,hk⟩:=uK hQ ho nB hg h
     exact wpAny_take ho cy h3 h2 (λc a w hq=>by cases hQ _ _ _ hq) hy (Zi hQ cy r _ _ w hB.2 hk)
    ·cases h1
   ·cases h1
theorem iV {P:Program} {o:Oper} {t:Tmp} {a:Act} (h:o.op= .move (.tmp t)) (hg:o.guard=none):Yields P ops o (a.tmps.getD t undef) a:=by
 refine .inl ⟨by simp [Region.wanted,hg],λw=>?_⟩
 unfold execOp
 rw [h]
 rfl
theorem ve {hd tl:List Nat} {i:Nat} (h:ja ops hd tl i=true): ∃o t,ops[i]?=some o/\o.op= .move (.tmp t)/\o.guard=none:=by
 unfold ja at h
 split at h
 ·rename_i o ho
  simp only [Bool.and_eq_true] at h
  have h1:=h.1
  split at h1
  ·rename_i t h2 h3
   exact ⟨o,t,ho,h2,h3⟩
  ·cases h1
 ·cases h
theorem cr {q:Bool} {hd:List Nat} {Q:Exit->Act->World->Prop} (hQ: ∀c a w,¬Q (.panic c) a w) (cy:Region.noSelect ops=true) {n:Nat} {st1:St}
  (fM: ∀Ac st a w,(∀j oj,ops[j]?=some oj->Ac.getD j false=true-> ∀e∈oj.after,Region.binds .any e=true->Ac.getD e.on false=true)->Ac.size=ops.size->kC ops tl hd Ac=true->st=st1->Rel X st a w->
   (∀j,Ac.getD j false=true↔j∈Qj q Γ ops)->wpAny P .any ops Q n Ac a w):
  ∀(l dn:List Nat) (Ac:Array Bool) (st:St) (a:Act) (w:World),(∀j,j∈Qj q Γ ops↔j∈dn\/j∈l)->(∀i,i∈l-> ∃o t,ops[i]?=some o/\o.op= .move (.tmp t)/\o.guard=none)->
   (∀j oj,ops[j]?=some oj->Ac.getD j false=true-> ∀e∈oj.after,Region.binds .any e=true->Ac.getD e.on false=true)->Ac.size=ops.size->(∀j,Ac.getD j false=true↔j∈dn)->
   iU ops tl hd l Ac=true->El T Γ ops l st=some st1->Rel X st a w->wpAny P .any ops Q (l.length+n) Ac a w
 | [],dn,Ac,st,a,w,hm,_,hc,Xz,hdn,hf,he,hr=>by
  simp only [El,Option.some.injEq] at he
  rw [List.length_nil,Nat.zero_add]
  exact fM Ac st a w hc Xz (by simpa [iU] using hf) he hr λj=>by rw [hdn j,hm j];simp
 |k::l,dn,Ac,st,a,w,hm,hl,hc,Xz,hdn,hf,he,hr=>by
  simp only [iU,Bool.and_eq_true] at hf
  obtain ⟨⟨h1,h2⟩,h3⟩:=hf
  obtain ⟨o,t,ho,nB,hg⟩:=hl k (by simp)
  have r7:k∈Region.ready .any ops Ac:=by simpa using h1
  obtain ⟨_,o',ho',Hm⟩:=mem_ready.1 r7
  have ho2:o'=o:=Option.some.inj (ho'.symm.trans ho)
  subst ho2
  have hks:k<Ac.size:=by rw [Xz];exact (Array.getElem?_eq_some_iff.1 ho).1
  simp only [El,ho] at he
  have hv:cB T Γ ops st o'=some (st.get t):=by simp only [cB,hg,Tf,Cq,nB];rfl
  rw [hv] at he
  rw [List.length_cons,show l.length+1+n=(l.length+n)+1 by omega]
  refine wpAny_take ho cy h2 h1 (λc a w hq=>absurd hq (hQ c _ w)) (iV nB hg) ?_
  obtain ⟨π,hr⟩:=hr
  refine cr hQ cy fM l (k::dn) _ _ _ _ (λj=>by rw [hm j,List.mem_cons,List.mem_cons];exact ⟨λh=>h.elim (λh=> .inl (.inr h)) (λh=>h.elim (λh=> .inl (.inl h)) .inr),λh=>h.elim (λh=>h.elim (λh=> .inr (.inl h)) .inl) (λh=> .inr (.inr h))⟩) (λi hi=>hl i (by simp [hi])) ?_ (by simp [Xz]) (λj=>?_) h3 he ⟨π,hr.put o'.dst (hr.2.tmps t)⟩
  ·intro j oj hj hlj e hem hb
   by_cases MX:k=j
   ·subst MX
    have:oj=o':=Option.some.inj (hj.symm.trans ho)
    subst this
    exact getD_set_true (Hm e hem hb)
   ·rw [getD_set_ne false MX] at hlj
    exact getD_set_true (hc j oj hj hlj e hem hb)
  ·by_cases MX:k=j
   ·subst MX
    refine ⟨λ_=>by simp,λ_=>?_⟩
    simp [hks]
   ·rw [getD_set_ne false MX,hdn j]
    simp [Ne.symm MX]
theorem bU {ops:Array Oper} : ∀(a b:List Nat) (st st':St),El T Γ ops (a++b) st=some st'-> ∃s,El T Γ ops a st=some s/\El T Γ ops b s=some st'
 | [],b,st,st',h=>⟨st,rfl,h⟩
 |i::a,b,st,st',h=>by
  simp only [List.cons_append,El] at h⊢
  split at h
  ·cases h
  ·split at h
   ·exact bU a b _ st' h
   ·cases h
theorem ko (hT:Ce P T) (Ni:Iu P Γ) (hm:P.follows .mixedOrders=true) {Q:Exit->Act->World->Prop} {id:Nat} {draw:Bool} {st st':St} {a:Act} (h:Rel X st a w)
  (he:Mb T Γ ops draw st=some st') (hQ: ∀a' w',Rel X st' a' w'->Q .normal a' w'):(Code.region id ops draw).wp P Q a w:=by
 unfold Mb at he
 cases draw with
 |false=>
  rw [if_neg (by simp)] at he
  exact wp_region_list (fF hT Ni ops.toList st st' a w h he hQ)
 |true=>
  rw [if_pos rfl] at he
  have go: ∀(q:Bool),eQ q Γ ops=true->(match El T Γ ops (eE q Γ ops) st with
    |some st'=>Jm T Γ ops (Fo q Γ ops) st'
    |none=>none)=some st'->(Code.region id ops true).wp P Q a w:=by
   intro q bY he
   split at he
   ·rename_i st1 h1
    simp only [eQ,Bool.and_eq_true,beq_iff_eq] at bY
    obtain ⟨⟨⟨cy,hlen⟩,Aa3⟩,Aez⟩:=bY
    refine wp_mono (Q:= λe a w=>e= .normal/\Q .normal a w) ?_ λe a w h=>h.1▸h.2
    refine wp_region_any hm ?_
    have hrel:Rel X st a {w with drawn:=w.drawn+1} :=by
     obtain ⟨π,h⟩:=h
     exact ⟨π,h.quiet ⟨rfl,rfl,rfl,Nat.le_refl _,λ_ _=>rfl⟩⟩
    obtain ⟨s0,h0,h1⟩:=bU _ _ _ _ h1
    have Vf: ∀i,i∈Xy q Γ ops->i<ops.size:= λi hi=>List.mem_range.1 (List.mem_filter.1 hi).1
    have Xz: ∀i,i∈Ql q Γ ops->i<ops.size:= λi hi=>Vf i (List.mem_filter.1 hi).1
    have Hm: ∀j,j<ops.size->j∈Qj q Γ ops\/j∈Ql q Γ ops\/j∈Fo q Γ ops:= λj hj=>by
     by_cases ht:j∈Fo q Γ ops
     ·exact .inr (.inr ht)
     ·have hh:j∈Xy q Γ ops:=List.mem_filter.2 ⟨List.mem_range.2 hj,by simpa using ht⟩
      cases TP:ja ops (Xy q Γ ops) (Fo q Γ ops) j with
      |true=>exact .inl (List.mem_filter.2 ⟨hh,TP⟩)
      |false=>exact .inr (.inl (List.mem_filter.2 ⟨hh,by rw [TP];rfl⟩))
    have XS: ∀j,j∈Xy q Γ ops->j∉Fo q Γ ops:= λj hj=>by
     have:=(List.mem_filter.1 hj).2
     simpa using this
    have yb: ∀j,j∈Ql q Γ ops->j∉Fo q Γ ops:= λj hj=>XS j (List.mem_filter.1 hj).1
    have Ady: ∀j,j∈Qj q Γ ops->j∉Fo q Γ ops:= λj hj=>XS j (List.mem_filter.1 hj).1
    have htl: ∀t,t∈Fo q Γ ops->t<ops.size:=by
     intro t ht
     unfold Fo at ht
     have: ∀(l:List Nat) (acc:List Nat),(∀i,i∈acc->i<ops.size)->(∀i,i∈l->i<ops.size)-> ∀i,i∈l.foldl (init:=acc) (λacc i=>match ops[i]? with
       |some o=>if QE q Γ o||o.after.any (λe=>Region.binds .any e&&acc.contains e.on) then acc++ [i] else acc
       |none=>acc)->i<ops.size:=by
      intro l
      induction l with
      |nil=>intro acc h1 _ i hi;exact h1 i hi
      |cons x l ih=>
       intro acc h1 h2 i hi
       simp only [List.foldl_cons] at hi
       refine ih _ ?_ (λi hi=>h2 i (by simp [hi])) i hi
       intro k hk
       split at hk
       ·split at hk
        ·rcases List.mem_append.1 hk with hk|hk
         ·exact h1 k hk
         ·simp at hk;rw [hk];exact h2 x (by simp)
        ·exact h1 k hk
       ·exact h1 k hk
     exact this (List.range ops.size) [] (by simp) (λi hi=>List.mem_range.1 hi) t ht
    rw [<-hlen]
    refine cr (q:=q) (X:=X) (T:=T) (Γ:=Γ) (tl:=Fo q Γ ops) (hd:=Ql q Γ ops) (st1:=s0) (λc a w hq=>by cases hq.1) cy ?_ (Qj q Γ ops) [] _ st a _ (λj=>by simp)
     (λi hi=>ve (List.mem_filter.1 hi).2) (λj oj _ hl=>(by rw [hlen,getD_replicate_false] at hl;cases hl)) (by simp [hlen]) (λj=>by rw [hlen,getD_replicate_false];simp) (by rw [hlen];exact Aa3) h0 hrel
    intro Ac s a' w' hc mP Ae7 hs hr TP
    subst hs
    have Akv:Td ops (Fo q Γ ops) (Qj q Γ ops) Ac:=
     ⟨mP,λi hi=>(TP i).2 hi,hc,λt ht=>getD_in (by rw [mP];exact htl t ht) (by
      cases hg:Ac.getD t false with
      |false=>rfl
      |true=>exact absurd ht (Ady t ((TP t).1 hg)))⟩
    have HA:=xb (T:=T) (Γ:=Γ) cy Aez Xz Hm yb st1 (Ql q Γ ops) _ s (λi hi=>hi) Akv Ae7 h1
    exact gw (X:=X) (P:=P) (Q:= λe a w=>e= .normal/\Q .normal a w) (g:=(Fo q Γ ops).length) hT Ni (λAc s a' w' hL hr=>by
     obtain ⟨Akd,rfl⟩:=hL
     exact Zi (λe a w h=>h.1) cy (Fo q Γ ops) Ac a' w' Akd (fz hT Ni _ _ st' a' w' hr he λa w h=>⟨rfl,hQ a w h⟩)) _ _ _ _ _ HA hr
   ·cases he
  split at he
  ·rename_i bY;exact go false bY he
  ·split at he
   ·rename_i bY;exact go true bY he
   ·cases he
theorem Zc (q:Bool): ∀(l:List Nat) (Ac:Array Bool),(Fh q ops l Ac).length<=l.length
 | [],_=>Nat.le_refl _
 |i::r,Ac=>by
  simp only [Fh]
  split
  ·simp only [List.length_cons];have:=Zc q r (Ac.setIfInBounds i true);omega
  ·simp only [List.length_cons];have:=Zc q r Ac;omega
theorem zh (hT:Ce P T) {st:St} {a:Act} (h:Al X π st a w) {i:Nat} {o:Oper} (ho:ops[i]?=some o) (hp:eL ops i=true) {v:AV} (hv:cB T Γ ops st o=some v):
  ∃u,Yields P ops o u a/\Ao X w π st.heap v u:=by
 unfold eL at hp
 rw [ho] at hp
 simp only at hp
 obtain ⟨dst,op,ty,pos,af,gd⟩:=o
 split at hp
 ·rename_i t h3 h4
  simp only at h3 h4;subst h3;subst h4
  refine ⟨a.tmps.getD t undef,iV rfl rfl,?_⟩
  simp only [cB,Tf,Cq,Option.some.injEq] at hv
  subst hv
  exact h.2.tmps t
 ·rename_i x h3 h4
  simp only at h3 h4;subst h3;subst h4
  have e:=Bs h.2 x
  have fin:(∃ad,a.eval x= .pointer (some ad))->Yields P ops ⟨dst, .nilCheck x,ty,pos,af,none⟩ (a.eval x) a:= λ⟨ad,hx⟩=>
   .inl ⟨by simp [Region.wanted],λw=>by simp [execOp,hx]⟩
  simp only [cB,Tf,Cq] at hv
  split at hv
  ·rename_i fr τ y hx
   simp only [Option.some.injEq] at hv;subst hv
   rw [hx] at e
   have e':=e
   obtain ⟨cs,hc,hv⟩:=e
   simp only [Cells] at hc
   obtain ⟨g,o,rfl,_⟩:=hc
   simp only [Ar,Ty.Ab,Bool.false_eq_true,if_false,List.headD_cons] at hv
   exact ⟨_,fin ⟨_,hv⟩,e'⟩
  ·rename_i fr τ y hx
   simp only [Option.some.injEq] at hv;subst hv
   rw [hx] at e
   obtain ⟨cs,hc,hv⟩:=e
   simp only [Cells] at hc
   rcases hc with ⟨h0,_⟩|⟨y',g,o,h0,rfl,hr⟩
   ·cases h0
   simp only [Option.some.injEq] at h0;subst h0
   simp only [Ar,Ty.Ab,Bool.false_eq_true,if_false,List.headD_cons] at hv
   exact ⟨_,fin ⟨_,hv⟩,[_],⟨g,o,rfl,hr⟩,by rw [hv];simp [Ar,Ty.Ab]⟩
  ·rename_i l i hx
   simp only [Option.some.injEq] at hv;subst hv
   rw [hx] at e
   have e':=e
   obtain ⟨r,tid,vs,_,_,hv⟩:=e
   exact ⟨_,fin ⟨_,hv⟩,e'⟩
  ·rename_i l i hx
   simp only [Option.some.injEq] at hv;subst hv
   rw [hx] at e
   have e':=e
   obtain ⟨r,b,sz,n,_,_,_,_,hv⟩:=e
   exact ⟨_,fin ⟨_,hv⟩,e'⟩
  ·cases hv
 ·rename_i s x f h3 h4
  simp only at h3 h4;subst h3;subst h4
  simp only [cB,Tf,Cq] at hv
  obtain ⟨u,h1,h2⟩:=Xr hT (st:=st) _ _ _ _ v (Bs h.2 x) hv
  refine ⟨u, .inl ⟨by simp [Region.wanted],λw=>?_⟩,h2⟩
  have:=h1 w
  simp only [execOp,Sem.run_bind]
  first
   |(rw [this];rfl)
   |simp [this]
 ·cases hp
theorem vV {i:Nat} (h:vf ops i=true):eL ops i=true:=by
 unfold vf at h
 unfold eL
 split at h
 ·rename_i o ho
  split at h
  ·rename_i h1 h2
   simp only [h1,h2]
  ·cases h
 ·cases h
theorem Xi (hT:Ce P T) (q:Bool) {Q:Exit->Act->World->Prop} (hQ: ∀c a w,¬Q (.panic c) a w) (cy:Region.noSelect ops=true) {n:Nat} {st1:St} :
  ∀(l:List Nat) (Ac:Array Bool) (st:St) (a:Act) (w:World),El T Γ ops (Fh q ops l Ac) st=some st1->Rel X st a w->
   (∀a w,Rel X st1 a w->wpAny P .any ops Q n (Eo (Fh q ops l Ac) Ac) a w)->wpAny P .any ops Q ((Fh q ops l Ac).length+n) Ac a w
 | [],Ac,st,a,w,he,hr,hK=>by
  simp only [Fh,El,Option.some.injEq] at he
  subst he
  simp only [Fh,List.length_nil,Nat.zero_add]
  exact hK a w hr
 |k::l,Ac,st,a,w,he,hr,hK=>by
  simp only [Fh] at he hK⊢
  split
  ·rename_i hc
   rw [if_pos hc] at he hK
   simp only [Bool.and_eq_true] at hc
   obtain ⟨h0,h1,h2⟩:=hc
   have hp:eL ops k=true:=by
    cases q with
    |true=>exact h0
    |false=>exact vV h0
   simp only [El] at he
   split at he
   ·cases he
   rename_i o ho
   split at he
   rotate_left
   ·cases he
   rename_i v hv
   obtain ⟨π,hr⟩:=hr
   obtain ⟨u,hy,hu⟩:=zh (Γ:=Γ) hT hr ho hp hv
   rw [List.length_cons,show (Fh q ops l (Ac.setIfInBounds k true)).length+1+n=((Fh q ops l (Ac.setIfInBounds k true)).length+n)+1 by omega]
   refine wpAny_take ho cy h2 h1 (λc a w hq=>absurd hq (hQ c _ w)) hy ?_
   exact Xi hT q hQ cy l _ _ _ _ he ⟨π,hr.put o.dst hu⟩ hK
  ·rename_i hc
   rw [if_neg hc] at he hK
   exact Xi hT q hQ cy l Ac st a w he hr hK
theorem gx (hT:Ce P T) (Ni:Iu P Γ) {Q:Exit->Act->World->Prop} {K:St->Prop} (hK: ∀st a w,K st->Rel X st a w->Q .normal a w):
  ∀(f:Nat) (Ac:Array Bool) (st:St) (a:Act) (w:World),anyS T Γ ops K f Ac st->Rel X st a w->wpAny P .any ops Q f Ac a w
 |0,Ac,st,a,w,h,hr=>⟨h.1,hK _ _ _ h.2 hr⟩
 |f+1,Ac,st,a,w,h,hr=>by
  refine ⟨λh0=>absurd h0 h.1,λi hi=>?_⟩
  obtain ⟨o,st',ho,he,fM⟩:=h.2 i hi
  obtain ⟨π,hr⟩:=hr
  unfold wpOp
  simp only [ho]
  exact Wi hT Ni hr o he λa' w' h'=>gx hT Ni hK f _ _ _ _ fM h'
theorem EA (hT:Ce P T) (Ni:Iu P Γ) (hm:P.follows .mixedOrders=true) {Q:Exit->Act->World->Prop} {id:Nat} {draw:Bool} {st:St} {K:St->Prop} {a:Act} (h:Rel X st a w)
  (he:uh T Γ ops draw st K) (hQ: ∀st' a' w',K st'->Rel X st' a' w'->Q .normal a' w'):(Code.region id ops draw).wp P Q a w:=by
 rcases he with ⟨st',h1,h2⟩|⟨rfl,cy,ck,h1,h2⟩
 ·exact ko hT Ni hm h h1 λa' w' h'=>hQ st' a' w' h2 h'
 ·refine wp_mono (Q:= λe a w=>e= .normal/\Q .normal a w) ?_ λe a w h=>h.1▸h.2
  refine wp_region_any hm ?_
  have hrel:Rel X st a {w with drawn:=w.drawn+1} :=by
   obtain ⟨π,h⟩:=h
   exact ⟨π,h.quiet ⟨rfl,rfl,rfl,Nat.le_refl _,λ_ _=>rfl⟩⟩
  have hlen:(Ks ops).length<=ops.size:=by
   have:=Zc (ops:=ops) (!eA false ops) (List.range ops.size) (Array.replicate ops.size false)
   rw [List.length_range] at this
   exact this
  have:=Xi hT (!eA false ops) (X:=X) (P:=P) (T:=T) (Γ:=Γ) (Q:= λe a w=>e= .normal/\Q .normal a w) (n:=ops.size-(Ks ops).length) (st1:=ck) (λc a w hq=>by cases hq.1) cy (List.range ops.size) (Array.replicate ops.size false) st a _ h1 hrel λa' w' h'=>
   gx hT Ni (λst' a' w' hk hr=>⟨rfl,hQ st' a' w' hk hr⟩) _ _ _ _ _ h2 h'
  have e:(Fh (!eA false ops) ops (List.range ops.size) (Array.replicate ops.size false)).length+(ops.size-(Ks ops).length)=ops.size:=by
   have e2:(Fh (!eA false ops) ops (List.range ops.size) (Array.replicate ops.size false)).length=(Ks ops).length:=rfl
   omega
  rw [e] at this
  exact this
end
end Go.Proofs.YtfolipnappekaaaGreat
