/-
  Part 25 of the proof that the statement FnExactSolveIDAStar holds.
-/
import Derived.Test.YtfgfigkbgecfnaaGreatCSolveIDAStar23
namespace Go.Proofs.YtfgfigkbgecfnaaGreat
open Go.RowKit
section
variable {P:Program} {T:Tab} {Γ:Env} {X:Ctx} {w w':World} {π:Pi} {ops:Array Oper} {hd tl:List Nat}
structure ao (ops:Array Oper) (tl fl:List Nat) (Ah:Array Bool):Prop where
 size:Ah.size=ops.size
 done: ∀i,i∈fl->Ah.getD i false=true
 closed: ∀j oj,ops[j]?=some oj->Ah.getD j false=true-> ∀e∈oj.after,Region.binds .any e=true->Ah.getD e.on false=true
 tail: ∀t,t∈tl->Ah.getD t true=false
theorem ao.set {fl:List Nat} {i:Nat} {Ah:Array Bool} (inv:ao ops tl fl Ah) (hi:i∈Region.ready .any ops Ah) (jD:i∉tl):ao ops tl fl (Ah.setIfInBounds i true):=by
 obtain ⟨_,oi,hoi,Js⟩:=mem_ready.1 hi
 refine ⟨by simp [inv.size],λk hk=>getD_set_true (inv.done k hk),λj oj hj hl e he hb=>?_,λt ht=>by
  have Ih:i≠t:= λe=>jD (by rw [e];exact ht)
  rw [getD_set_ne true Ih];exact inv.tail t ht⟩
 by_cases jC:i=j
 ·subst jC
  have:oj=oi:=Ba (hj.symm.trans hoi)
  subst this
  exact getD_set_true (Js e he hb)
 ·rw [getD_set_ne false jC] at hl
  exact getD_set_true (inv.closed j oj hj hl e he hb)
theorem PA (k:Nat) (r:List Nat) (h:(r.all λt=>(k::r).any λk=>Region.waitsFor .any ops t k)=true): ∀t,t∈r-> ∃k',(k'=k\/k'∈r)/\Region.waitsFor .any ops t k'=true:= λt ht=>by
 obtain ⟨k',h1,h2⟩:=Hq.1 (Bc.1 h t ht)
 exact ⟨k',Be.1 h1,h2⟩
theorem MR {fl:List Nat} {Ah:Array Bool} (hs:wN ops hd tl=true) (inv:ao ops tl fl Ah) (bm: ∀i,i∈hd->i<ops.size):
  ∀(d i:Nat),ops.size-i=d->i∈hd->Ah.getD i true=false-> ∀t,t∈tl->t∉Region.ready .any ops Ah:=by
 cases tl with
 |nil=>intro d i _ _ _ t ht;cases ht
 |cons f r=>
  simp only [wN,Af] at hs
  obtain ⟨eY,lJ⟩:=hs
  intro d
  induction d using Nat.strongRecOn with
  |_ d ih=>
   intro i hd' hi mc t ht hr
   obtain ⟨_,ot,hot,Js⟩:=mem_ready.1 hr
   rcases Be.1 ht with rfl|oH
   ·have h1:=Bc.1 eY i hi
    obtain ⟨j,hj,hj2⟩:=Hq.1 h1
    simp only [Af,Nn] at hj2
    obtain ⟨oj,hoj,e,he,hb,hon⟩:=Region.waitsFor_spec hj2.2
    rcases Be.1 hj with rfl|hjh
    ·have:oj=ot:=Ba (hoj.symm.trans hot)
     subst this
     have h2:=Js e he hb
     rw [hon,getD_both mc] at h2
     cases h2
    ·cases hl:Ah.getD j false with
     |true=>
      have h2:=inv.closed j oj hoj hl e he hb
      rw [hon,getD_both mc] at h2
      cases h2
     |false=>
      have hjs:j<Ah.size:=by rw [inv.size];exact bm j hjh
      have:=bm j hjh
      exact ih (ops.size-j) (by omega) j rfl hjh (getD_in hjs hl) t (by simp) hr
   ·obtain ⟨k',h1,h2⟩:=PA f r lJ t oH
    obtain ⟨o',ho',e,he,hb,hon⟩:=Region.waitsFor_spec h2
    have:o'=ot:=Ba (ho'.symm.trans hot)
    subst this
    have h3:=Js e he hb
    have hk:k'∈f::r:=by rcases h1 with rfl|h1<;>simp [*]
    rw [hon,getD_both (inv.tail k' hk)] at h3
    cases h3
def Abc (T:Tab) (Γ:Env) (ops:Array Oper) (hd:List Nat) (L:Array Bool->St->Prop):Nat->Array Bool->St->Prop
 |0,Ah,st=>L Ah st
 |f+1,Ah,st=>
  Region.ready .any ops Ah≠ []/\ ∀i∈Region.ready .any ops Ah,i∈hd/\ ∃o v,ops[i]?=some o/\Yb T Γ ops st o=some v/\Abc T Γ ops hd L f (Ah.setIfInBounds i true) (st.put o.dst v)
theorem GH (hT:Ed P T) (Ph:Kk P Γ) {Q:Exit->Act->World->Prop} {K:Act->World->Prop} {st:St} {a:Act} (h:Rel X st a w) {i:Nat} {o:Oper} {v:AV} (ho:ops[i]?=some o) (hv:Yb T Γ ops st o=some v)
  (hK: ∀a' w',Rel X (st.put o.dst v) a' w'->K a' w'):wpOp P ops Q i K a w:=by
 obtain ⟨π,h⟩:=h
 have run:Ye T Γ st o=some v->o.wp P a w K Q:= λhe=>sN (X:=X) (st':=st) (av:=v) (HR hT Ph h o v he) hK
 have skip:v= .at .skip->K (a.put o.dst undef) w:= λe=>by subst e;exact hK _ _ ⟨π,h.put o.dst LV⟩
 unfold wpOp
 simp only [ho]
 unfold Yb at hv
 split at hv
 ·rename_i hg
  rw [Ab (by simp [Region.wanted,hg])]
  exact .inl (run hv)
 ·rename_i j want hg
  split at hv
  ·rename_i b hb
   have hy:=(fQ h j).1 b hb
   split at hv
   ·rename_i hbw
    rw [Ab (by simp only [Region.wanted,hg,hy];simpa using hbw)]
    exact .inl (run hv)
   ·rename_i hbw
    rw [Ag (by simp only [Region.wanted,hg,hy];simpa using hbw)]
    simp only [Aa] at hv
    exact skip hv.symm
  ·rename_i hb
   have hy:=(fQ h j).2 hb
   rw [Ag (by simp [Region.wanted,hg,hy])]
   simp only [Aa] at hv
   exact skip hv.symm
  ·cases hv
theorem mI (hT:Ed P T) (Ph:Kk P Γ) {g:Nat} {L:Array Bool->St->Prop} {Q:Exit->Act->World->Prop} (hL: ∀Ah st a w,L Ah st->Rel X st a w->wpAny P .any ops Q g Ah a w):
  ∀(f:Nat) (Ah:Array Bool) (st:St) (a:Act) (w:World),Abc T Γ ops hd L f Ah st->Rel X st a w->wpAny P .any ops Q (f+g) Ah a w
 |0,Ah,st,a,w,h,hr=>by rw [Bo];exact hL _ _ _ _ h hr
 |f+1,Ah,st,a,w,h,hr=>by
  rw [show f+1+g=(f+g)+1 by omega]
  refine ⟨λh0=>absurd h0 h.1,λi hi=>?_⟩
  obtain ⟨_,o,v,ho,hv,ir⟩:=h.2 i hi
  exact GH hT Ph hr ho hv λa' w' h'=>mI hT Ph hL f _ _ _ _ ir h'
theorem OF {fl:List Nat} {i:Nat} {oi:Oper} {v:AV} {L:Array Bool->St->Prop} (hi:ops[i]?=some oi) (hs:wN ops hd tl=true) (bm: ∀i,i∈hd->i<ops.size) (jD:i∈hd)
  (Js: ∀j,j<ops.size->j∈fl\/j∈hd\/j∈tl) (IL: ∀j,j∈hd->j∉tl) (Aq0: ∀Ah st,L Ah st-> ∀j∈Region.ready .any ops Ah,j∈tl):
  ∀(f:Nat) (Ah:Array Bool) (st:St),ao ops tl fl Ah->
   (∀j oj,ops[j]?=some oj->j≠i->Ah.getD j true=false->(∀e∈oj.after,Region.binds .any e=true->e.on≠i)->oi.apart ops oj=true)->
   i∈Region.ready .any ops Ah->Yb T Γ ops st oi=some v->
   Abc T Γ ops hd L f (Ah.setIfInBounds i true) (st.put oi.dst v)->Abc T Γ ops hd L (f+1) Ah st:=by
 intro f
 have Arl: ∀Ah,ao ops tl fl Ah->i∈Region.ready .any ops Ah-> ∀j,j∈Region.ready .any ops Ah->j∈hd:=by
  intro Ah inv hr j hj
  obtain ⟨mc,oj,hoj,_⟩:=mem_ready.1 hj
  rcases Js j (Nj.1 hoj).1 with h|h|h
  ·have h1:=inv.done j h
   rw [getD_both mc] at h1;cases h1
  ·exact h
  ·exact absurd hj (MR hs inv bm _ i rfl jD (mem_ready.1 hr).1 j h)
 induction f with
 |zero=>
  intro Ah st inv _ hr hv Hh
  refine ⟨λh=>(by rw [h] at hr;cases hr),λj hj=>?_⟩
  have hjh:=Arl Ah inv hr j hj
  refine ⟨hjh,?_⟩
  by_cases xP:j=i
  ·subst xP;exact ⟨oi,v,hi,hv,Hh⟩
  ·exact absurd (Aq0 _ _ Hh j (ready_mono hj xP)) (IL j hjh)
 |succ f ih=>
  intro Ah st inv oB hr hv Hh
  have mc:=(mem_ready.1 hr).1
  refine ⟨λh=>(by rw [h] at hr;cases hr),λj hj=>?_⟩
  have hjh:=Arl Ah inv hr j hj
  refine ⟨hjh,?_⟩
  by_cases xP:j=i
  ·subst xP;exact ⟨oi,v,hi,hv,Hh⟩
  ·obtain ⟨_,oj,vj,hoj,hvj,ir⟩:=Hh.2 j (ready_mono hj xP)
   obtain ⟨Aq9,oj',Awe,Apt⟩:=mem_ready.1 hj
   have:oj'=oj:=Ba (Awe.symm.trans hoj)
   subst this
   have vH: ∀e∈oj'.after,Region.binds .any e=true->e.on≠i:= λe he hb heq=>by
    have h1:=Apt e he hb
    rw [heq,getD_both mc] at h1
    cases h1
   obtain ⟨p1,p2,p3⟩:=Oper.apart_spec (oB j oj' hoj xP Aq9 vH)
   rw [MZ p1] at hvj
   refine ⟨oj',vj,hoj,hvj,?_⟩
   have Alr: ∀k ok,ops[k]?=some ok->k≠i->(Ah.setIfInBounds j true).getD k true=false->
     (∀e∈ok.after,Region.binds .any e=true->e.on≠i)->oi.apart ops ok=true:= λk ok hk hki Ar8 hno=>by
    refine oB k ok hk hki ?_ hno
    by_cases hjk:j=k
    ·subst hjk;exact Aq9
    ·rw [getD_set_ne true hjk] at Ar8;exact Ar8
   refine ih (Ah.setIfInBounds j true) (st.put oj'.dst vj) (inv.set hj (IL j hjh)) Alr (ready_mono hr (Gl xP)) (by rw [MZ p3];exact hv) ?_
   rw [Array.setIfInBounds_comm _ _ xP,<-St.put_comm st v vj p2]
   exact ir
theorem sx: ∀(l:List Nat) (Ah:Array Bool),po ops l Ah=true-> ∀j∈Region.ready .any ops Ah,j∈l
 | [],Ah,h,j,hj=>by simp only [po,List.isEmpty_iff] at h;rw [h] at hj;cases hj
 |k::r,Ah,h,j,hj=>by
  simp only [po,Af,Kj,Nn] at h
  rcases h.1 with h1|h1
  ·rw [h1] at hj
   simp at hj
   simp [hj]
  ·by_cases e:j=k
   ·simp [e]
   ·exact Ar _ (sx r _ h.2 j (ready_mono hj e))
theorem GL {fl:List Nat} (cE:Region.noSelect ops=true) (hs:wN ops hd tl=true) (bm: ∀i,i∈hd->i<ops.size) (Js: ∀j,j<ops.size->j∈fl\/j∈hd\/j∈tl) (IL: ∀j,j∈hd->j∉tl) (st':St):
  ∀(l:List Nat) (Ah:Array Bool) (st:St),(∀i,i∈l->i∈hd)->ao ops tl fl Ah->qw ops tl l Ah=true->Gh T Γ ops l st=some st'->
  Abc T Γ ops hd (λCZ s=>po ops tl CZ=true/\s=st') l.length Ah st
 | [],Ah,st,_,_,hB,he=>by
  simp only [Gh,Aa] at he
  exact ⟨by simpa [qw] using hB,he⟩
 |k::l,Ah,st,hl,inv,hB,he=>by
  simp only [qw,Af] at hB
  obtain ⟨⟨hr,hf⟩,hB'⟩:=hB
  have hkh:=hl k (by simp)
  have eE:k∈Region.ready .any ops Ah:=by simpa using hr
  simp only [Gh] at he
  split at he
  ·cases he
  ·rename_i o ho
   split at he
   ·rename_i v hv
    exact OF ho hs bm hkh Js IL (λCZ s hL=>sx tl CZ hL.1) l.length Ah st inv (Region.free_spec ho hf) eE hv
     (GL cE hs bm Js IL st' l _ _ (λi hi=>hl i (by simp [hi])) (inv.set eE (IL k hkh)) hB' he)
   ·cases he
theorem BZ {Q:Exit->Act->World->Prop} (hQ: ∀e a w,Q e a w->e= .normal) {k i:Nat} {x:Operand} {o:Oper} (ho:ops[k]?=some o) (tV:o.op= .extract x i) (hg:o.guard=none) {K:Act->World->Prop} {a:Act} {w:World}
  (h:wpOp P ops Q k K a w): ∃v,Yields P ops o v a/\K (a.put o.dst v) w:=by
 unfold wpOp at h
 simp only [ho] at h
 have hw:Region.wanted o (yielded ops a.tmps)=true:=by simp [Region.wanted,hg]
 rw [Ab hw] at h
 rcases h with h|⟨_,a',w',h⟩
 ·unfold Oper.wp at h
  have hr: ∀w,(execOp a.eval o).run P w=(do pure (Next.value (<-Instr.extract (a.eval x) i))).run P w:= λw=>by unfold execOp;rw [tV]
  rw [hr] at h
  unfold Instr.extract at h hr
  split at h
  ·rename_i vs hx
   split at h
   ·rename_i v hv
    rw [hx] at hr
    simp only [hv] at hr
    exact ⟨v, .inl ⟨hw,λw=>(hr w).trans rfl⟩,h⟩
   ·exact h.elim
  ·exact h.elim
 ·cases hQ _ _ _ h
theorem eA {Q:Exit->Act->World->Prop} (hQ: ∀e a w,Q e a w->e= .normal) (cE:Region.noSelect ops=true): ∀(l:List Nat) (Ah:Array Bool) (a:Act) (w:World),po ops l Ah=true->wpOps P ops Q l a w->wpAny P .any ops Q l.length Ah a w
 | [],Ah,a,w,hB,h=>⟨by simpa [po] using hB,h⟩
 |k::r,Ah,a,w,hB,h=>by
  simp only [po,Af,Kj,Nn] at hB
  rw [wpOps_cons] at h
  rcases hB.1 with h0|⟨h1,h2,h3⟩
  ·refine ⟨λh1=>(by rw [h0] at h1;cases h1),λi hi=>?_⟩
   rw [h0] at hi
   have hik:i=k:=by simpa using hi
   subst hik
   exact wpOp_mono (λa' w' h'=>eA hQ cE r _ a' w' hB.2 h') h
  ·unfold Adi at h1
   split at h1
   ·rename_i o ho
    split at h1
    ·rename_i x i tV hg
     obtain ⟨v,hy,hk⟩:=BZ hQ ho tV hg h
     exact wpAny_take ho cE h3 h2 (λc a w hq=>by cases hQ _ _ _ hq) hy (eA hQ cE r _ _ w hB.2 hk)
    ·cases h1
   ·cases h1
theorem ov {P:Program} {o:Oper} {t:Tmp} {a:Act} (h:o.op= .move (.tmp t)) (hg:o.guard=none):Yields P ops o (a.tmps.getD t undef) a:=by
 refine .inl ⟨by simp [Region.wanted,hg],λw=>?_⟩
 unfold execOp
 rw [h]
 rfl
theorem CP {hd tl:List Nat} {i:Nat} (h:oJ ops hd tl i=true): ∃o t,ops[i]?=some o/\o.op= .move (.tmp t)/\o.guard=none:=by
 unfold oJ at h
 split at h
 ·rename_i o ho
  simp only [Af] at h
  have h1:=h.1
  split at h1
  ·rename_i t h2 h3
   exact ⟨o,t,ho,h2,h3⟩
  ·cases h1
 ·cases h
theorem iK {q:Bool} {hd:List Nat} {Q:Exit->Act->World->Prop} (hQ: ∀c a w,¬Q (.panic c) a w) (cE:Region.noSelect ops=true) {n:Nat} {st1:St}
  (ir: ∀Ah st a w,(∀j oj,ops[j]?=some oj->Ah.getD j false=true-> ∀e∈oj.after,Region.binds .any e=true->Ah.getD e.on false=true)->Ah.size=ops.size->qw ops tl hd Ah=true->st=st1->Rel X st a w->
   (∀j,Ah.getD j false=true↔j∈Wv q Γ ops)->wpAny P .any ops Q n Ah a w):
  ∀(l dn:List Nat) (Ah:Array Bool) (st:St) (a:Act) (w:World),(∀j,j∈Wv q Γ ops↔j∈dn\/j∈l)->(∀i,i∈l-> ∃o t,ops[i]?=some o/\o.op= .move (.tmp t)/\o.guard=none)->
   (∀j oj,ops[j]?=some oj->Ah.getD j false=true-> ∀e∈oj.after,Region.binds .any e=true->Ah.getD e.on false=true)->Ah.size=ops.size->(∀j,Ah.getD j false=true↔j∈dn)->
   ou ops tl hd l Ah=true->Gh T Γ ops l st=some st1->Rel X st a w->wpAny P .any ops Q (l.length+n) Ah a w
 | [],dn,Ah,st,a,w,hm,_,hc,bm,hdn,hf,he,hr=>by
  simp only [Gh,Aa] at he
  rw [Ex,Bo]
  exact ir Ah st a w hc bm (by simpa [ou] using hf) he hr λj=>by rw [hdn j,hm j];simp
 |k::l,dn,Ah,st,a,w,hm,hl,hc,bm,hdn,hf,he,hr=>by
  simp only [ou,Af] at hf
  obtain ⟨⟨h1,h2⟩,h3⟩:=hf
  obtain ⟨o,t,ho,tV,hg⟩:=hl k (by simp)
  have xR:k∈Region.ready .any ops Ah:=by simpa using h1
  obtain ⟨_,o',ho',Js⟩:=mem_ready.1 xR
  have ho2:o'=o:=Ba (ho'.symm.trans ho)
  subst ho2
  have hks:k<Ah.size:=by rw [bm];exact (Nj.1 ho).1
  simp only [Gh,ho] at he
  have hv:Yb T Γ ops st o'=some (st.get t):=by simp only [Yb,hg,Ye,Fl,tV];rfl
  rw [hv] at he
  rw [Aw,show l.length+1+n=(l.length+n)+1 by omega]
  refine wpAny_take ho cE h2 h1 (λc a w hq=>absurd hq (hQ c _ w)) (ov tV hg) ?_
  obtain ⟨π,hr⟩:=hr
  refine iK hQ cE ir l (k::dn) _ _ _ _ (λj=>by rw [hm j,Be,Be];exact ⟨λh=>h.elim (λh=> .inl (.inr h)) (λh=>h.elim (λh=> .inl (.inl h)) .inr),λh=>h.elim (λh=>h.elim (λh=> .inr (.inl h)) .inl) (λh=> .inr (.inr h))⟩) (λi hi=>hl i (by simp [hi])) ?_ (by simp [bm]) (λj=>?_) h3 he ⟨π,hr.put o'.dst (hr.2.tmps t)⟩
  ·intro j oj hj hlj e hem hb
   by_cases hkj:k=j
   ·subst hkj
    have:oj=o':=Ba (hj.symm.trans ho)
    subst this
    exact getD_set_true (Js e hem hb)
   ·rw [getD_set_ne false hkj] at hlj
    exact getD_set_true (hc j oj hj hlj e hem hb)
  ·by_cases hkj:k=j
   ·subst hkj
    refine ⟨λ_=>by simp,λ_=>?_⟩
    simp [hks]
   ·rw [getD_set_ne false hkj,hdn j]
    simp [Gl hkj]
theorem il {ops:Array Oper} : ∀(a b:List Nat) (st st':St),Gh T Γ ops (a++b) st=some st'-> ∃s,Gh T Γ ops a st=some s/\Gh T Γ ops b s=some st'
 | [],b,st,st',h=>⟨st,rfl,h⟩
 |i::a,b,st,st',h=>by
  simp only [Mo,Gh] at h⊢
  split at h
  ·cases h
  ·split at h
   ·exact il a b _ st' h
   ·cases h
theorem qk (hT:Ed P T) (Ph:Kk P Γ) (hm:P.follows .mixedOrders=true) {Q:Exit->Act->World->Prop} {id:Nat} {draw:Bool} {st st':St} {a:Act} (h:Rel X st a w)
  (he:Sf T Γ ops draw st=some st') (hQ: ∀a' w',Rel X st' a' w'->Q .normal a' w'):(Code.region id ops draw).wp P Q a w:=by
 unfold Sf at he
 cases draw with
 |false=>
  rw [Ag (by simp)] at he
  exact wp_region_list (lZ hT Ph ops.toList st st' a w h he hQ)
 |true=>
  rw [Ab rfl] at he
  have go: ∀(q:Bool),dE q Γ ops=true->(match Gh T Γ ops (kY q Γ ops) st with
    |some st'=>Nc T Γ ops (Jp q Γ ops) st'
    |none=>none)=some st'->(Code.region id ops true).wp P Q a w:=by
   intro q jE he
   split at he
   ·rename_i st1 h1
    simp only [dE,Af,Xw] at jE
    obtain ⟨⟨⟨cE,hlen⟩,Alp⟩,Ar2⟩:=jE
    refine wp_mono (Q:= λe a w=>e= .normal/\Q .normal a w) ?_ λe a w h=>h.1▸h.2
    refine wp_region_any hm ?_
    have hrel:Rel X st a {w with drawn:=w.drawn+1} :=by
     obtain ⟨π,h⟩:=h
     exact ⟨π,h.quiet ⟨rfl,rfl,rfl,Ao _,λ_ _=>rfl⟩⟩
    obtain ⟨s0,h0,h1⟩:=il _ _ _ _ h1
    have jD: ∀i,i∈dz q Γ ops->i<ops.size:= λi hi=>Eo.1 (Ch.1 hi).1
    have bm: ∀i,i∈Wx q Γ ops->i<ops.size:= λi hi=>jD i (Ch.1 hi).1
    have Js: ∀j,j<ops.size->j∈Wv q Γ ops\/j∈Wx q Γ ops\/j∈Jp q Γ ops:= λj hj=>by
     by_cases ht:j∈Jp q Γ ops
     ·exact .inr (.inr ht)
     ·have hh:j∈dz q Γ ops:=Ch.2 ⟨Eo.2 hj,by simpa using ht⟩
      cases hfl:oJ ops (dz q Γ ops) (Jp q Γ ops) j with
      |true=>exact .inl (Ch.2 ⟨hh,hfl⟩)
      |false=>exact .inr (.inl (Ch.2 ⟨hh,by rw [hfl];rfl⟩))
    have Ajs: ∀j,j∈dz q Γ ops->j∉Jp q Γ ops:= λj hj=>by
     have:=(Ch.1 hj).2
     simpa using this
    have IL: ∀j,j∈Wx q Γ ops->j∉Jp q Γ ops:= λj hj=>Ajs j (Ch.1 hj).1
    have Apy: ∀j,j∈Wv q Γ ops->j∉Jp q Γ ops:= λj hj=>Ajs j (Ch.1 hj).1
    have htl: ∀t,t∈Jp q Γ ops->t<ops.size:=by
     intro t ht
     unfold Jp at ht
     have: ∀(l:List Nat) (acc:List Nat),(∀i,i∈acc->i<ops.size)->(∀i,i∈l->i<ops.size)-> ∀i,i∈l.foldl (init:=acc) (λacc i=>match ops[i]? with
       |some o=>if Ads q Γ o||o.after.any (λe=>Region.binds .any e&&acc.contains e.on) then acc++ [i] else acc
       |none=>acc)->i<ops.size:=by
      intro l
      induction l with
      |nil=>intro acc h1 _ i hi;exact h1 i hi
      |cons x l ih=>
       intro acc h1 h2 i hi
       simp only [Hr] at hi
       refine ih _ ?_ (λi hi=>h2 i (by simp [hi])) i hi
       intro k hk
       split at hk
       ·split at hk
        ·rcases Az.1 hk with hk|hk
         ·exact h1 k hk
         ·simp at hk;rw [hk];exact h2 x (by simp)
        ·exact h1 k hk
       ·exact h1 k hk
     exact this (List.range ops.size) [] (by simp) (λi hi=>Eo.1 hi) t ht
    rw [<-hlen]
    refine iK (q:=q) (X:=X) (T:=T) (Γ:=Γ) (tl:=Jp q Γ ops) (hd:=Wx q Γ ops) (st1:=s0) (λc a w hq=>by cases hq.1) cE ?_ (Wv q Γ ops) [] _ st a _ (λj=>by simp)
     (λi hi=>CP (Ch.1 hi).2) (λj oj _ hl=>(by rw [hlen,getD_replicate_false] at hl;cases hl)) (by simp [hlen]) (λj=>by rw [hlen,getD_replicate_false];simp) (by rw [hlen];exact Alp) h0 hrel
    intro Ah s a' w' hc rX Aq8 hs hr hfl
    subst hs
    have Axe:ao ops (Jp q Γ ops) (Wv q Γ ops) Ah:=
     ⟨rX,λi hi=>(hfl i).2 hi,hc,λt ht=>getD_in (by rw [rX];exact htl t ht) (by
      cases hg:Ah.getD t false with
      |false=>rfl
      |true=>exact absurd ht (Apy t ((hfl t).1 hg)))⟩
    have HA:=GL (T:=T) (Γ:=Γ) cE Ar2 bm Js IL st1 (Wx q Γ ops) _ s (λi hi=>hi) Axe Aq8 h1
    exact mI (X:=X) (P:=P) (Q:= λe a w=>e= .normal/\Q .normal a w) (g:=(Jp q Γ ops).length) hT Ph (λAh s a' w' hL hr=>by
     obtain ⟨Awq,rfl⟩:=hL
     exact eA (λe a w h=>h.1) cE (Jp q Γ ops) Ah a' w' Awq (lV hT Ph _ _ st' a' w' hr he λa w h=>⟨rfl,hQ a w h⟩)) _ _ _ _ _ HA hr
   ·cases he
  split at he
  ·rename_i jE;exact go false jE he
  ·split at he
   ·rename_i jE;exact go true jE he
   ·cases he
theorem ej (q:Bool): ∀(l:List Nat) (Ah:Array Bool),(Jn q ops l Ah).length<=l.length
 | [],_=>Ao _
 |i::r,Ah=>by
  simp only [Jn]
  split
  ·simp only [Aw];have:=ej q r (Ah.setIfInBounds i true);omega
  ·simp only [Aw];have:=ej q r Ah;omega
theorem LK (hT:Ed P T) {st:St} {a:Act} (h:Bk X π st a w) {i:Nat} {o:Oper} (ho:ops[i]?=some o) (hp:l8 ops i=true) {v:AV} (hv:Yb T Γ ops st o=some v):
  ∃u,Yields P ops o u a/\Bs X w π st.heap v u:=by
 unfold l8 at hp
 rw [ho] at hp
 simp only at hp
 obtain ⟨dst,op,ty,pos,af,gd⟩:=o
 split at hp
 ·rename_i t h3 h4
  simp only at h3 h4;subst h3;subst h4
  refine ⟨a.tmps.getD t undef,ov rfl rfl,?_⟩
  simp only [Yb,Ye,Fl,Aa] at hv
  subst hv
  exact h.2.tmps t
 ·rename_i x h3 h4
  simp only at h3 h4;subst h3;subst h4
  have e:=Dy h.2 x
  have fin:(∃ad,a.eval x= .pointer (some ad))->Yields P ops ⟨dst, .nilCheck x,ty,pos,af,none⟩ (a.eval x) a:= λ⟨ad,hx⟩=>
   .inl ⟨by simp [Region.wanted],λw=>by simp [execOp,hx]⟩
  simp only [Yb,Ye,Fl] at hv
  split at hv
  ·rename_i fr τ y hx
   simp only [Aa] at hv;subst hv
   rw [hx] at e
   have e':=e
   obtain ⟨cs,hc,hv⟩:=e
   simp only [Cells] at hc
   obtain ⟨g,o,rfl,_⟩:=hc
   simp only [Cf,Ty.Aq,Dj,Ul,j6] at hv
   exact ⟨_,fin ⟨_,hv⟩,e'⟩
  ·rename_i fr τ y hx
   simp only [Aa] at hv;subst hv
   rw [hx] at e
   obtain ⟨cs,hc,hv⟩:=e
   simp only [Cells] at hc
   rcases hc with ⟨h0,_⟩|⟨y',g,o,h0,rfl,hr⟩
   ·cases h0
   simp only [Aa] at h0;subst h0
   simp only [Cf,Ty.Aq,Dj,Ul,j6] at hv
   exact ⟨_,fin ⟨_,hv⟩,[_],⟨g,o,rfl,hr⟩,by rw [hv];simp [Cf,Ty.Aq]⟩
  ·rename_i l i hx
   simp only [Aa] at hv;subst hv
   rw [hx] at e
   have e':=e
   obtain ⟨r,tid,vs,_,_,hv⟩:=e
   exact ⟨_,fin ⟨_,hv⟩,e'⟩
  ·rename_i l i hx
   simp only [Aa] at hv;subst hv
   rw [hx] at e
   have e':=e
   obtain ⟨r,b,sz,n,_,_,_,_,hv⟩:=e
   exact ⟨_,fin ⟨_,hv⟩,e'⟩
  ·cases hv
 ·rename_i s x f h3 h4
  simp only at h3 h4;subst h3;subst h4
  simp only [Yb,Ye,Fl] at hv
  obtain ⟨u,h1,h2⟩:=dr hT (st:=st) _ _ _ _ v (Dy h.2 x) hv
  refine ⟨u, .inl ⟨by simp [Region.wanted],λw=>?_⟩,h2⟩
  have:=h1 w
  simp only [execOp,Sem.run_bind]
  first
   |(rw [this];rfl)
   |simp [this]
 ·cases hp
theorem EB {i:Nat} (h:CQ ops i=true):l8 ops i=true:=by
 unfold CQ at h
 unfold l8
 split at h
 ·rename_i o ho
  split at h
  ·rename_i h1 h2
   simp only [h1,h2]
  ·cases h
 ·cases h
theorem cX (hT:Ed P T) (q:Bool) {Q:Exit->Act->World->Prop} (hQ: ∀c a w,¬Q (.panic c) a w) (cE:Region.noSelect ops=true) {n:Nat} {st1:St} :
  ∀(l:List Nat) (Ah:Array Bool) (st:St) (a:Act) (w:World),Gh T Γ ops (Jn q ops l Ah) st=some st1->Rel X st a w->
   (∀a w,Rel X st1 a w->wpAny P .any ops Q n (Ej (Jn q ops l Ah) Ah) a w)->wpAny P .any ops Q ((Jn q ops l Ah).length+n) Ah a w
 | [],Ah,st,a,w,he,hr,hK=>by
  simp only [Jn,Gh,Aa] at he
  subst he
  simp only [Jn,Ex,Bo]
  exact hK a w hr
 |k::l,Ah,st,a,w,he,hr,hK=>by
  simp only [Jn] at he hK⊢
  split
  ·rename_i hc
   rw [Ab hc] at he hK
   simp only [Af] at hc
   obtain ⟨h0,h1,h2⟩:=hc
   have hp:l8 ops k=true:=by
    cases q with
    |true=>exact h0
    |false=>exact EB h0
   simp only [Gh] at he
   split at he
   ·cases he
   rename_i o ho
   split at he
   rotate_left
   ·cases he
   rename_i v hv
   obtain ⟨π,hr⟩:=hr
   obtain ⟨u,hy,hu⟩:=LK (Γ:=Γ) hT hr ho hp hv
   rw [Aw,show (Jn q ops l (Ah.setIfInBounds k true)).length+1+n=((Jn q ops l (Ah.setIfInBounds k true)).length+n)+1 by omega]
   refine wpAny_take ho cE h2 h1 (λc a w hq=>absurd hq (hQ c _ w)) hy ?_
   exact cX hT q hQ cE l _ _ _ _ he ⟨π,hr.put o.dst hu⟩ hK
  ·rename_i hc
   rw [Ag hc] at he hK
   exact cX hT q hQ cE l Ah st a w he hr hK
theorem mJ (hT:Ed P T) (Ph:Kk P Γ) {Q:Exit->Act->World->Prop} {K:St->Prop} (hK: ∀st a w,K st->Rel X st a w->Q .normal a w):
  ∀(f:Nat) (Ah:Array Bool) (st:St) (a:Act) (w:World),anyS T Γ ops K f Ah st->Rel X st a w->wpAny P .any ops Q f Ah a w
 |0,Ah,st,a,w,h,hr=>⟨h.1,hK _ _ _ h.2 hr⟩
 |f+1,Ah,st,a,w,h,hr=>by
  refine ⟨λh0=>absurd h0 h.1,λi hi=>?_⟩
  obtain ⟨o,st',ho,he,ir⟩:=h.2 i hi
  obtain ⟨π,hr⟩:=hr
  unfold wpOp
  simp only [ho]
  exact Wu hT Ph hr o he λa' w' h'=>mJ hT Ph hK f _ _ _ _ ir h'
def Uw (ops:Array Oper) (Ah:Array Bool):Prop:= ∀k a,Ah.getD k false=true->Region.waitsFor .any ops k a=true->Ah.getD a false=true
theorem dG {Ah:Array Bool} {i a:Nat} (h:i∈Region.ready .any ops Ah) (hw:Region.waitsFor .any ops i a=true):Ah.getD a false=true:=by
 obtain ⟨_,o,ho,Js⟩:=mem_ready.1 h
 obtain ⟨o',ho',e,he,hb,rfl⟩:=Region.waitsFor_spec hw
 rw [ho] at ho'
 cases ho'
 exact Js e he hb
theorem Uw.set {Ah:Array Bool} (hc:Uw ops Ah) {i:Nat} (hi:i∈Region.ready .any ops Ah):Uw ops (Ah.setIfInBounds i true):= λk a hk hw=>by
 by_cases hik:i=k
 ·subst hik
  exact getD_set_true (dG hi hw)
 ·rw [getD_set_ne false hik] at hk
  exact getD_set_true (hc k a hk hw)
theorem rK:Uw ops (Array.replicate ops.size false):= λk a hk _=>by
 rw [getD_replicate_false] at hk
 cases hk
theorem bw (q:Bool): ∀(l:List Nat) (Ah:Array Bool),Uw ops Ah->Uw ops (Ej (Jn q ops l Ah) Ah)
 | [],Ah,h=>h
 |i::r,Ah,h=>by
  simp only [Jn]
  split
  ·rename_i hc
   rw [Af,Af] at hc
   have hi:i∈Region.ready .any ops Ah:=by simpa using hc.2.1
   exact bw q r _ (h.set hi)
  ·exact bw q r Ah h
theorem Xb: ∀(l:List Nat) (Ah:Array Bool),(Ej l Ah).size=Ah.size
 | [],_=>rfl
 |i::r,Ah=>by simp only [Ej];rw [Xb r];simp
theorem gk: ∀(l:List Nat) (Ah:Array Bool) (k:Nat),k∈l->k<Ah.size->(Ej l Ah).getD k false=true
 |i::r,Ah,k,h,hk=>by
  simp only [Ej]
  by_cases hr:k∈r
  ·exact gk r _ k hr (by simpa using hk)
  ·have:k=i:=(Be.1 h).resolve_right hr
   subst this
   have hs: ∀(l:List Nat) (A:Array Bool),A.getD k false=true->(Ej l A).getD k false=true:=by
    intro l
    induction l with
    |nil=>exact λA h=>h
    |cons j l ih=>exact λA h=>ih _ (getD_set_true h)
   exact hs r _ (by simp [hk])
theorem eg: ∀(l:List Nat) (Ah:Array Bool) (k:Nat),k∉l->(Ej l Ah).getD k false=Ah.getD k false
 | [],_,_,_=>rfl
 |i::r,Ah,k,h=>by
  simp only [Ej]
  rw [eg r _ k λhk=>h (Ar _ hk),getD_set_ne false (λe=>h (by rw [e];simp))]
def Mh (E:List Nat) (Ah:Array Bool):List Nat:=E.filter λr=>!Ah.getD r false
def dZ (ops:Array Oper) (r:Nat):Option Tmp:=(ops[r]?).bind (·.dst)
def lU (ops:Array Oper) (Q:List Nat):List Nat:=Q.filterMap (dZ ops)
def So (ops:Array Oper):List Nat->St->St
 | [],st=>st
 |r::Q,st=>(So ops Q st).put (dZ ops r) .undef
def WT (ops:Array Oper):List Nat->Act->Act->Prop
 | [],a,a'=>a'=a
 |r::Q,a,a'=> ∃u,WT ops Q (a.put (dZ ops r) u) a'
theorem Afm {H:List (Nat×OB)} {v:Value} :Bs X w π H .undef v:=trivial
theorem jA (s:St) (d:Option Tmp) (v:AV) (t:Nat):(d=some t->(s.put d v).get t=v\/(s.put d v).get t= .undef)/\(d≠some t->(s.put d v).get t=s.get t):=by
 cases d with
 |none=>exact ⟨λh=>(by cases h),λ_=>rfl⟩
 |some e=>
  have key:(s.put (some e) v).get t=if e=t/\t<s.tmps.length then v else s.get t:=Rh _ _ _ _ _
  refine ⟨λh=>?_,λh=>?_⟩
  ·cases h
   rw [key]
   by_cases hl:t<s.tmps.length
   ·rw [Ab ⟨rfl,hl⟩];exact .inl rfl
   ·rw [Ag (λh=>hl h.2)]
    exact .inr (by unfold St.get;rw [Aj,Ec (by omega)];rfl)
  ·rw [key,Ag]
   rintro ⟨rfl,_⟩
   exact h rfl
theorem lj (s:St) (d:Option Tmp) (v:AV):(s.put d v).heap=s.heap:=by cases d<;>rfl
theorem pa (s:St) (d:Option Tmp) (v:AV):(s.put d v).tmps.length=s.tmps.length:=by
 cases d with
 |none=>rfl
 |some d=>exact aN _ _ _
theorem Rd: ∀(Q:List Nat) (st:St),(So ops Q st).heap=st.heap
 | [],_=>rfl
 |r::Q,st=>by simp only [So];rw [lj,Rd Q]
theorem Xg: ∀(Q:List Nat) (st:St),(So ops Q st).tmps.length=st.tmps.length
 | [],_=>rfl
 |r::Q,st=>by simp only [So];rw [pa,Xg Q]
theorem Lt {Q:List Nat} {t:Nat} :t∈lU ops Q↔ ∃r∈Q,dZ ops r=some t:=List.mem_filterMap
theorem Sp: ∀(Q:List Nat) (st:St) (t:Nat),(t∈lU ops Q->(So ops Q st).get t= .undef)/\(t∉lU ops Q->(So ops Q st).get t=st.get t)
 | [],st,t=>⟨λh=>by simp [lU] at h,λ_=>rfl⟩
 |r::Q,st,t=>by
  obtain ⟨h1,h2⟩:=Sp Q st t
  obtain ⟨g1,g2⟩:=jA (So ops Q st) (dZ ops r) .undef t
  simp only [So]
  by_cases hd:dZ ops r=some t
  ·refine ⟨λ_=>(g1 hd).elim id id,λh=>absurd (Lt.2 ⟨r,Jc ..,hd⟩) h⟩
  ·refine ⟨λh=>?_,λh=>?_⟩
   ·rw [g2 hd]
    obtain ⟨q,hq,he⟩:=Lt.1 h
    rcases Be.1 hq with rfl|hq
    ·exact absurd he hd
    ·exact h1 (Lt.2 ⟨q,hq,he⟩)
   ·rw [g2 hd]
    exact h2 λhm=>by
     obtain ⟨q,hq,he⟩:=Lt.1 hm
     exact h (Lt.2 ⟨q,Ar _ hq,he⟩)
theorem wA {st s:St} {a:Act} (h:Bk X π st a w) (hh:s.heap=st.heap) (hl:s.tmps.length=st.tmps.length) (hg: ∀t,s.get t=st.get t\/s.get t= .undef):Bk X π s a w:=by
 refine ⟨by rw [hh];exact h.1,⟨by rw [hl];exact h.2.size,h.2.defers,λt=>?_⟩⟩
 rw [hh]
 rcases hg t with e|e
 ·rw [e];exact h.2.tmps t
 ·rw [e];exact Afm
theorem MY {st s:St} {o:Oper} (hh:s.heap=st.heap) (hg: ∀t,t∈o.looksAt ops->s.get t=st.get t):Yb T Γ ops s o=Yb T Γ ops st o:=by
 obtain ⟨ts,H⟩:=s
 obtain ⟨ts',H'⟩:=st
 simp only at hh
 subst hh
 exact AT hg
theorem ss (hT:Ed P T) (Ph:Kk P Γ) {st:St} {a:Act} (h:Bk X π st a w) {i:Nat} {o:Oper} (ho:ops[i]?=some o) (hp:l9 ops i=true) {v:AV} (hv:Yb T Γ ops st o=some v):
  ∃u,(∀(Q:Exit->Act->World->Prop) (K:Act->World->Prop),K (a.put o.dst u) w->wpOp P ops Q i K a w)/\Bs X w π st.heap v u:=by
 unfold l9 at hp
 rw [ho] at hp
 simp only at hp
 have hgd:o.guard=none:=by
  obtain ⟨dst,op,ty,pos,af,gd⟩:=o
  cases gd with
  |none=>rfl
  |some g=>split at hp<;>first|rfl|(rename_i h4;cases h4)|cases hp
 have hb:Ye T Γ st o=some v:=by
  unfold Yb at hv
  rw [hgd] at hv
  exact hv
 have hw:Region.wanted o (yielded ops a.tmps)=true:=by simp [Region.wanted,hgd]
 have fin: ∀s:Sem Value,execOp a.eval o=(do pure (.value (<-s)))->Fl T Γ st o=some v-> ∃u,(∀(Q:Exit->Act->World->Prop) (K:Act->World->Prop),K (a.put o.dst u) w->wpOp P ops Q i K a w)/\Bs X w π st.heap v u:=by
  intro s he hq
  have hg:=jr hT Ph h o v hq
  rw [he,Sem.run_bind] at hg
  cases hr:s.run P w with
  |ok u w'=>
   rw [hr] at hg
   obtain ⟨e,hu⟩:=(show w'=w/\Bs X w π st.heap v u from hg)
   subst e
   refine ⟨u,λQ K hK=>?_,hu⟩
   unfold wpOp
   simp only [ho]
   rw [Ab hw]
   refine .inl ?_
   unfold Oper.wp
   rw [he,Sem.run_bind,hr]
   exact hK
  |halt x w'=>rw [hr] at hg;exact hg.elim
 obtain ⟨dst,op,ty,pos,af,gd⟩:=o
 simp only at hgd
 subst hgd
 split at hp
 ·rename_i x h3 h4
  simp only at h3;subst h3
  exact fin (pure (a.eval x)) (by simp [execOp]) hb
 ·rename_i x h3 h4
  simp only at h3;subst h3
  exact fin _ rfl hb
 ·rename_i x h3 h4
  simp only at h3;subst h3
  exact fin _ rfl hb
 ·rename_i x h3 h4
  simp only at h3;subst h3
  exact fin _ rfl hb
 ·cases hp
theorem Aax {j:Nat} {oi oj:Oper} {v:Value} (hj:ops[j]?=some oj) (hap:oi.apart ops oj=true) (hsj: ∀cs b,oj.op≠ .select cs b)
  {Q:Exit->Act->World->Prop} (hQ: ∀c a w,¬Q (.panic c) a w) {K:Act->World->Prop} {a:Act} {w:World} (h:wpOp P ops Q j K (a.put oi.dst v) w):
  wpOp P ops Q j (λa' w'=>K (a'.put oi.dst v) w') a w:=by
 obtain ⟨h1,h2,h3⟩:=Oper.apart_spec hap
 unfold wpOp at*
 simp only [hj] at*
 rw [wanted_put oj a oi.dst v h1] at h
 split
 ·rename_i hw
  simp only [hw,Pv] at h
  rcases h with h|⟨Ajn,Aqb⟩
  case inr=>exact .inr ⟨by unfold Oper.asks at*;rw [execOp_put oj hsj a oi.dst v h1] at Ajn;exact Ajn,Aqb⟩
  refine .inl ?_
  unfold Oper.wp at*
  rw [execOp_put oj hsj a oi.dst v h1] at h
  generalize (execOp a.eval oj).run P w=r at*
  cases r with
  |ok n w'=>
   cases n<;>simp only [Oper.upon] at h⊢
   case value u=>rw [<-Act.put_comm a v u h2];exact h
   case skip=>rw [<-Act.put_comm a v undef h2];exact h
   case defer d=>
    rw [<-Act.put_comm _ v undef h2,<-Act.put_defers]
    exact h
   case enter f args=>
    refine Calls.mono h λe sM he=>?_
    cases e with
    |returned u=>show K ((a.put oj.dst u).put oi.dst v) sM;rw [<-Act.put_comm a v u h2];exact he
    |panicked c=>exact absurd he (hQ _ _ _)
    |outgrown=>exact he
   case row row args=>exact Rows.mono h λu sM he=>by rw [<-Act.put_comm a v u h2];exact he
  |halt x w'=>
   cases x<;>simp only [Oper.upon] at h⊢
   case panic u=>exact absurd h (hQ _ _ _)
 ·rename_i hw
  simp only [hw] at h
  rw [<-Act.put_comm a v undef h2];exact h
theorem zY: ∀ {Q:List Nat} {a a':Act},WT ops Q a a'->a'.defers=a.defers/\a'.tmps.size=a.tmps.size/\ ∀t,t∉lU ops Q->a'.tmps.getD t undef=a.tmps.getD t undef
 | [],a,a',h=>by cases h;exact ⟨rfl,rfl,λ_ _=>rfl⟩
 |r::Q,a,a',⟨u,h⟩=>by
  obtain ⟨h1,h2,h3⟩:=zY h
  have hp:(a.put (dZ ops r) u).defers=a.defers/\(a.put (dZ ops r) u).tmps.size=a.tmps.size:=by cases dZ ops r<;>simp [Act.put]
  refine ⟨h1.trans hp.1,h2.trans hp.2,λt ht=>?_⟩
  have hn:dZ ops r≠some t:= λe=>ht (Lt.2 ⟨r,Jc ..,e⟩)
  rw [h3 t λhm=>ht (by obtain ⟨q,hq,he⟩:=Lt.1 hm;exact Lt.2 ⟨q,Ar _ hq,he⟩)]
  cases hd:dZ ops r with
  |none=>rfl
  |some d=>
   have Ih:d≠t:= λe=>hn (by rw [hd,e])
   simp [Act.put,Array.getElem?_setIfInBounds_ne Ih]
theorem Aem {Q:List Nat} {st:St} {a a':Act} (hp:WT ops Q a a') (h:Bk X π st a' w):Bk X π (So ops Q st) a w:=by
 obtain ⟨h1,h2,h3⟩:=zY hp
 refine ⟨by rw [Rd];exact h.1,⟨by rw [Xg,<-h2];exact h.2.size,by rw [<-h1];exact h.2.defers,λt=>?_⟩⟩
 rw [Rd]
 by_cases ht:t∈lU ops Q
 ·rw [(Sp Q st t).1 ht];exact Afm
 ·rw [(Sp Q st t).2 ht,<-h3 t ht];exact h.2.tmps t
theorem AX {j:Nat} {oj:Oper} (hj:ops[j]?=some oj) (hsj: ∀cs b,oj.op≠ .select cs b) {Q:Exit->Act->World->Prop} (hQ: ∀c a w,¬Q (.panic c) a w) {K:Act->World->Prop} :
  ∀(L:List Nat) (a a':Act) (w:World),(∀r∈L,∃o,ops[r]?=some o/\o.apart ops oj=true)->WT ops L a a'->wpOp P ops Q j K a' w->wpOp P ops Q j (λa2 w2=> ∃a3,WT ops L a2 a3/\K a3 w2) a w
 | [],a,a',w,_,hp,h=>by cases hp;exact wpOp_mono (λa2 w2 hk=>⟨a2,rfl,hk⟩) h
 |r::L,a,a',w,hap,⟨u,hp⟩,h=>by
  obtain ⟨o,ho,ha⟩:=hap r (Jc ..)
  have hd:dZ ops r=o.dst:=by unfold dZ;rw [ho];rfl
  rw [hd] at hp
  have ih:=AX hj hsj hQ L _ a' w (λq hq=>hap q (Ar _ hq)) hp h
  exact wpOp_mono (λa2 w2 ⟨a3,h1,h2⟩=>⟨a3,⟨u,by rw [hd];exact h1⟩,h2⟩) (Aax hj ha hsj hQ ih)
def OG (ops:Array Oper):List Nat->Prop
 | []=>True
 |r::L=>(∀q∈r::L,∀o d,ops[r]?=some o->dZ ops q=some d->d∉o.looksAt ops)/\(∀q∈L,∀d,dZ ops r=some d->dZ ops q≠some d)/\OG ops L
def zb (ops:Array Oper):List Nat->Prop
 | []=>True
 |r::L=>(∀q∈L,Region.waitsFor .any ops q r=true\/ ∀o d,ops[q]?=some o->dZ ops r=some d->d∉o.looksAt ops)/\zb ops L
theorem OG.filter {p:Nat->Bool} : ∀ {L:List Nat},OG ops L->OG ops (L.filter p)
 | [],_=>trivial
 |r::L,⟨h1,h2,h3⟩=>by
  rw [List.filter_cons]
  split
  ·exact ⟨λq hq=>h1 q (by rcases Be.1 hq with rfl|hq;exact Jc ..;exact Ar _ (Ch.1 hq).1),λq hq=>h2 q (Ch.1 hq).1,h3.filter⟩
  ·exact h3.filter
theorem zb.filter {p:Nat->Bool} : ∀ {L:List Nat},zb ops L->zb ops (L.filter p)
 | [],_=>trivial
 |r::L,⟨h1,h3⟩=>by
  rw [List.filter_cons]
  split
  ·exact ⟨λq hq=>h1 q (Ch.1 hq).1,h3.filter⟩
  ·exact h3.filter
theorem aP {i j:Nat} {p:Oper->Oper->Bool} (h:rC ops i j p=true): ∃x y,ops[i]?=some x/\ops[j]?=some y/\p x y=true:=by
 unfold rC at h
 split at h
 ·rename_i x y h1 h2;exact ⟨x,y,h1,h2,h⟩
 ·cases h
theorem gV {x y:Oper} (h:pR ops x y=true): ∀d,x.dst=some d->d∉y.looksAt ops:= λd hd=>by
 unfold pR at h
 rw [hd] at h
 simpa using h
theorem HQ {x y:Oper} (h:PI x y=true): ∀d,x.dst=some d->y.dst≠some d:= λd hd=>by
 unfold PI at h
 rw [hd] at h
 simpa using h
theorem dq {r:Nat} {o:Oper} (h:ops[r]?=some o):dZ ops r=o.dst:=by unfold dZ;rw [h];rfl
theorem sm: ∀ {E:List Nat},DX ops E=true->OG ops E/\zb ops E
 | [],_=>⟨trivial,trivial⟩
 |r::E,h=>by
  simp only [DX,Af,Bc] at h
  obtain ⟨⟨h1,h2⟩,h3⟩:=h
  obtain ⟨g1,g2⟩:=sm h3
  refine ⟨⟨λq hq o d ho hd=>?_,λq hq d hd=>?_,g1⟩,λq hq=>?_,g2⟩
  ·rcases Be.1 hq with rfl|hq
   ·obtain ⟨x,y,hx,hy,hp⟩:=aP h1
    rw [ho] at hx hy;cases hx;cases hy
    rw [dq ho] at hd
    exact gV hp d hd
   ·obtain ⟨x,y,hx,hy,hp⟩:=aP (h2 q hq).1
    rw [ho] at hx;cases hx
    rw [dq hy] at hd
    exact gV (Dz.1 hp).2 d hd
  ·obtain ⟨x,y,hx,hy,hp⟩:=aP (h2 q hq).1
   rw [dq hx] at hd
   rw [dq hy]
   exact HQ (Dz.1 hp).1 d hd
  ·have h4:=(h2 q hq).2
   rw [Kj] at h4
   rcases h4 with h4|h4
   ·exact .inl h4
   ·refine .inr λo d ho hd=>?_
    obtain ⟨x,y,hx,hy,hp⟩:=aP h4
    rw [ho] at hy;cases hy
    rw [dq hx] at hd
    exact gV hp d hd
theorem Ajb (hT:Ed P T) (Ph:Kk P Γ) {st:St} : ∀(L:List Nat) (a:Act),(∀r∈L,l9 ops r=true/\ ∃o v,ops[r]?=some o/\Yb T Γ ops st o=some v/\ ∀d,o.dst=some d->st.get d=v)->OG ops L->
  Bk X π (So ops L st) a w-> ∃a',WT ops L a a'/\Bk X π st a' w
 | [],a,_,_,h=>⟨a,rfl,h⟩
 |r::L,a,hs,⟨f1,f2,f3⟩,h=>by
  obtain ⟨hr,o,v,ho,hv,hd⟩:=hs r (Jc ..)
  have hdo:=dq ho
  have xS:Yb T Γ ops (So ops (r::L) st) o=some v:=by
   rw [MY (st:=st) (Rd _ _) λt ht=>(Sp _ _ _).2 λhm=>by
    obtain ⟨q,hq,he⟩:=Lt.1 hm
    exact f1 q hq o t ho he ht]
   exact hv
  obtain ⟨u,_,hu⟩:=ss hT Ph h ho hr xS
  have h2:=h.put o.dst hu
  have h3:Bk X π (So ops L st) (a.put o.dst u) w:=by
   refine wA h2 ?_ ?_ λt=>?_
   ·rw [lj,Rd,Rd]
   ·rw [pa,Xg,Xg]
   ·obtain ⟨g1,g2⟩:=jA (So ops (r::L) st) o.dst v t
    by_cases he:o.dst=some t
    ·have VG:t∉lU ops L:= λhm=>by
      obtain ⟨q,hq,hqe⟩:=Lt.1 hm
      exact f2 q hq t (by rw [hdo];exact he) hqe
     rw [(Sp L st t).2 VG,hd t he]
     rcases g1 he with g|g
     ·exact .inl g.symm
     ·by_cases hl:t<st.tmps.length
      ·refine .inl ?_
       rw [he]
       show v=((Tj (So ops (r::L) st).tmps t v).getD t .undef)
       rw [Rh,Ab ⟨rfl,by rw [Xg];exact hl⟩]
      ·refine .inr ?_
       rw [<-hd t he]
       unfold St.get
       rw [Aj,Ec (by omega)]
       rfl
    ·rw [g2 he]
     have:(So ops (r::L) st).get t=(So ops L st).get t:=(jA (So ops L st) (dZ ops r) .undef t).2 (by rw [hdo];exact he)
     exact .inl this.symm
  obtain ⟨a',hp,aD⟩:=Ajb hT Ph L _ (λq hq=>hs q (Ar _ hq)) f3 h3
  exact ⟨a',⟨u,by rw [hdo];exact hp⟩,aD⟩
theorem Ac2: ∀ {L:List Nat},OG ops L->zb ops L-> ∀ {i:Nat} {o:Oper},i∈L->ops[i]?=some o->(∀q∈L,Region.waitsFor .any ops i q=true->False)-> ∀q∈L,∀d,dZ ops q=some d->d∉o.looksAt ops
 | [],_,_,i,_,hi,_,_=>by cases hi
 |r::L,⟨f1,f2,f3⟩,⟨b1,b2⟩,i,o,hi,ho,hw=> λq hq d hd=>by
  by_cases hir:i=r
  ·subst hir
   exact f1 q hq o d ho hd
  ·have oD:=(Be.1 hi).resolve_left hir
   rcases Be.1 hq with rfl|lI
   ·rcases b1 i oD with h|h
    ·exact (hw q hq h).elim
    ·exact h o d ho hd
   ·exact Ac2 f3 b2 oD ho (λq hq=>hw q (Ar _ hq)) q lI d hd
theorem rP {Ah:Array Bool} (bm:Ah.size=ops.size): ∀ {E:List Nat} {L:Array Bool} {r:Nat} {Q:List Nat},kc ops E L=true->(∀j,L.getD j false=true->Ah.getD j false=true)->Mh E Ah=r::Q->r∈Region.ready .any ops Ah
 | [],_,_,_,_,_,h=>by simp [Mh] at h
 |e::E,L,r,Q,hr,hl,hp=>by
  simp only [kc,Af,Jq] at hr
  unfold Mh at hp
  rw [List.filter_cons] at hp
  by_cases he:Ah.getD e false=true
  ·rw [Ag (by rw [he];simp)] at hp
   refine rP bm hr.2 (λj hj=>?_) hp
   by_cases hej:e=j
   ·subst hej;exact he
   ·rw [getD_set_ne false hej] at hj;exact hl j hj
  ·have he:Ah.getD e false=false:=by simpa using he
   rw [Ab (by rw [he];rfl)] at hp
   injection hp with zA VJ
   subst zA
   obtain ⟨_,o,ho,Js⟩:=mem_ready.1 hr.1
   have Iz:e<Ah.size:=by rw [bm];exact (Nj.1 ho).1
   exact mem_ready.2 ⟨getD_in Iz he,o,ho,λx hx hb=>hl _ (Js x hx hb)⟩
theorem fm {Ah:Array Bool} {j:Nat} (h:Ah.getD j true=false):j<Ah.size:=by
 rcases Nat.lt_or_ge j Ah.size with h'|h'
 ·exact h'
 ·simp [Array.getElem?_eq_none h'] at h
theorem za (hT:Ed P T) (Ph:Kk P Γ) {Q:Exit->Act->World->Prop} (hQ: ∀c a w,¬Q (.panic c) a w) {K:St->Prop} (hK: ∀st a w,K st->Rel X st a w->Q .normal a w) (cE:Region.noSelect ops=true)
  {E:List Nat} {L0:Array Bool} (hE:dF ops E L0=true): ∀(n f:Nat) (Ah LA:Array Bool) (st:St) (a:Act) (w:World),n=f+(Mh E Ah).length->Ah.size=ops.size->LA.size=ops.size->
   (∀j,LA.getD j false=(Ah.getD j false||E.contains j))->Uw ops Ah->(∀j,L0.getD j false=true->Ah.getD j false=true)->sQ T Γ ops E K f LA st->Rel X (So ops (Mh E Ah) st) a w->wpAny P .any ops Q n Ah a w:=by
 simp only [dF,Af,Bc] at hE
 obtain ⟨⟨hre,hry⟩,hpr,hap⟩:=hE
 obtain ⟨Aq3,rU⟩:=sm hpr
 have key: ∀(n f:Nat) (Ah LA:Array Bool) (st:St) (a:Act) (w:World),n=f+(Mh E Ah).length->Ah.size=ops.size->LA.size=ops.size->
   (∀j,LA.getD j false=(Ah.getD j false||E.contains j))->Uw ops Ah->(∀j,L0.getD j false=true->Ah.getD j false=true)->sQ T Γ ops E K f LA st->Rel X (So ops (Mh E Ah) st) a w->
   (∀j,j∈Region.ready .any ops Ah->j∉E->j∈Region.ready .any ops LA)/\(Region.ready .any ops Ah= []->Q .normal a w/\f=0/\Mh E Ah= []):=by
  intro n f Ah LA st a w hn eY lJ hLA Ox hL0 vr hrel
  have h1: ∀j,j∈Region.ready .any ops Ah->j∉E->j∈Region.ready .any ops LA:= λj hj hjE=>by
   obtain ⟨mc,o,ho,Js⟩:=mem_ready.1 hj
   have Iz:=fm mc
   refine mem_ready.2 ⟨getD_in (by omega) ?_,o,ho,λe he hb=>by rw [hLA,Js e he hb];rfl⟩
   rw [hLA,getD_both mc]
   simpa using hjE
  refine ⟨h1,λh0=>?_⟩
  cases hpe:Mh E Ah with
  |cons r L=>
   have:=rP eY hry hL0 hpe
   rw [h0] at this
   cases this
  |nil=>
   have Js: ∀r,r∈E->Ah.getD r false=true:= λr hr=>by
    have:r∉Mh E Ah:=by rw [hpe];simp
    unfold Mh at this
    rw [Ch] at this
    by_cases hl:Ah.getD r false=true
    ·exact hl
    ·exact absurd ⟨hr,by simpa using hl⟩ this
   have hb: ∀j,j∈Region.ready .any ops LA->j∈Region.ready .any ops Ah:= λj hj=>by
    obtain ⟨mc,o,ho,hw⟩:=mem_ready.1 hj
    have Iz:=fm mc
    have he: ∀k,LA.getD k false=Ah.getD k false:= λk=>by
     rw [hLA]
     by_cases hk:k∈E
     ·rw [Js k hk];rfl
     ·rw [show E.contains k=false by simpa using hk,iT]
    exact mem_ready.2 ⟨getD_in (by omega) (by rw [<-he];exact getD_both mc),o,ho,λe hx hbd=>by rw [<-he];exact hw e hx hbd⟩
   cases f with
   |zero=>
    obtain ⟨_,_,hk⟩:=vr
    rw [hpe] at hrel
    exact ⟨hK _ _ _ hk hrel,rfl,rfl⟩
   |succ f=>
    obtain ⟨_,Ih,_⟩:=vr
    obtain ⟨j,hj⟩:=List.exists_mem_of_ne_nil _ Ih
    have:=hb j hj
    rw [h0] at this
    cases this
 intro n
 induction n with
 |zero=>
  intro f Ah LA st a w hn eY lJ hLA Ox hL0 vr hrel
  obtain ⟨k1,k2⟩:=key 0 f Ah LA st a w hn eY lJ hLA Ox hL0 vr hrel
  have hf:f=0:=by omega
  have hp:Mh E Ah= []:=List.length_eq_zero_iff.1 (by omega)
  subst hf
  obtain ⟨_,hr,_⟩:=vr
  have h0:Region.ready .any ops Ah= []:=List.eq_nil_iff_forall_not_mem.2 λj hj=>by
   by_cases hjE:j∈E
   ·have mc:=getD_both (mem_ready.1 hj).1
    have:j∈Mh E Ah:=Ch.2 ⟨hjE,by rw [mc];rfl⟩
    rw [hp] at this
    cases this
   ·have:=k1 j hj hjE
    rw [hr] at this
    cases this
  exact ⟨h0,(k2 h0).1⟩
 |succ n ih=>
  intro f Ah LA st a w hn eY lJ hLA Ox hL0 vr hrel
  obtain ⟨k1,k2⟩:=key (n+1) f Ah LA st a w hn eY lJ hLA Ox hL0 vr hrel
  have Uk:Aeu T Γ ops E LA st:=by cases f<;>exact vr.1
  have Acr: ∀r∈Mh E Ah,r∈E/\Ah.getD r false=false:= λr hr=>by
   obtain ⟨h1,h2⟩:=Ch.1 hr
   exact ⟨h1,by simpa using h2⟩
  have Akd: ∀r∈Mh E Ah,l9 ops r=true/\ ∃o v,ops[r]?=some o/\Yb T Γ ops st o=some v/\ ∀d,o.dst=some d->st.get d=v:= λr hr=>by
   obtain ⟨h1,h2⟩:=Acr r hr
   refine ⟨hre r h1,(Uk r h1).resolve_left λhw=>?_⟩
   unfold uh at hw
   obtain ⟨j,_,hj⟩:=Hq.1 hw
   simp only [Af,Ei] at hj
   obtain ⟨hj1,hj2,hj3⟩:=hj
   rw [hLA,hj1,iT] at hj2
   have:=Ox j r hj2 hj3
   rw [h2] at this
   cases this
  refine ⟨λh0=>(k2 h0).1,λi hi=>?_⟩
  obtain ⟨π,hrel⟩:=hrel
  have hiw: ∀q∈Mh E Ah,Region.waitsFor .any ops i q=true->False:= λq hq hw=>by
   have:=dG hi hw
   rw [(Acr q hq).2] at this
   cases this
  obtain ⟨mc,oi,hoi,_⟩:=mem_ready.1 hi
  have Iz:=fm mc
  by_cases hiE:i∈E
  ·have hip:i∈Mh E Ah:=Ch.2 ⟨hiE,by rw [getD_both mc];rfl⟩
   obtain ⟨hrd,o,v,ho,hv,hd⟩:=Akd i hip
   have hnl:=Ac2 (Aq3.filter (p:= λr=>!Ah.getD r false)) (rU.filter (p:= λr=>!Ah.getD r false)) hip ho hiw
   have xS:Yb T Γ ops (So ops (Mh E Ah) st) o=some v:=by
    rw [MY (st:=st) (Rd _ _) λt ht=>(Sp _ _ _).2 λhm=>by
     obtain ⟨q,hq,he⟩:=Lt.1 hm
     exact hnl q hq t he ht]
    exact hv
   obtain ⟨u,hy,hu⟩:=ss hT Ph hrel ho hrd xS
   refine hy Q _ ?_
   have hpe: ∀q,q∈Mh E (Ah.setIfInBounds i true)↔q∈Mh E Ah/\q≠i:= λq=>by
    unfold Mh
    rw [Ch,Ch]
    by_cases hqi:q=i
    ·subst hqi
     simp [Iz]
    ·rw [getD_set_ne false (Gl hqi)]
     exact ⟨λh=>⟨h,hqi⟩,λh=>h.1⟩
   have hlen:(Mh E Ah).length=(Mh E (Ah.setIfInBounds i true)).length+1:=by
    have VG: ∀(E:List Nat) (L:Array Bool),kc ops E L=true->E.Nodup/\ ∀r∈E,L.getD r true=false:=by
     intro E
     induction E with
     |nil=>exact λL _=>⟨Nl,λr hr=>by cases hr⟩
     |cons e E ihE=>
      intro L h
      simp only [kc,Af,Jq] at h
      obtain ⟨g1,g2⟩:=ihE _ h.2
      have he:=(mem_ready.1 h.1).1
      have m9:=fm he
      refine ⟨Cd.2 ⟨λhm=>?_,g1⟩,λr hr=>?_⟩
      ·have:=g2 e hm
       simp [m9] at this
      ·rcases Be.1 hr with rfl|hr
       ·exact he
       ·have Ih:e≠r:= λe'=>by subst e';have:=g2 e hr;simp [m9] at this
        have:=g2 r hr
        rw [getD_set_ne true Ih] at this
        exact this
    have hEn:=(VG E L0 hry).1
    have QQ: ∀L:List Nat,L.Nodup->i∈L->(L.filter λr=>!Ah.getD r false).length=(L.filter λr=>!(Ah.setIfInBounds i true).getD r false).length+1:=by
     intro L
     induction L with
     |nil=>exact λ_ h=>by cases h
     |cons x L ihL=>
      intro hn hm
      obtain ⟨hx,hn⟩:=Cd.1 hn
      rw [List.filter_cons,List.filter_cons]
      by_cases hxi:x=i
      ·subst hxi
       rw [Ab (by rw [getD_both mc];rfl),Ag (by simp [Iz])]
       have:L.filter (λr=>!Ah.getD r false)=L.filter (λr=>!(Ah.setIfInBounds x true).getD r false):=List.filter_congr λq hq=>by
        rw [getD_set_ne false (λe=>hx (by rw [e];exact hq))]
       rw [Aw,this]
      ·have hm:=(Be.1 hm).resolve_left (Gl hxi)
       rw [getD_set_ne false (Gl hxi)]
       split
       ·rw [Aw,Aw,ihL hn hm]
       ·exact ihL hn hm
    exact QQ E hEn hiE
   refine ih f (Ah.setIfInBounds i true) LA st _ w (by omega) (by simp [eY]) lJ (λj=>?_) (Ox.set hi) (λj hj=>getD_set_true (hL0 j hj)) vr ⟨π,?_⟩
   ·rw [hLA]
    by_cases jC:i=j
    ·subst jC
     rw [show E.contains i=true by simpa using hiE,Bool.or_true,Bool.or_true]
    ·rw [getD_set_ne false jC]
   ·have h2:=hrel.put o.dst hu
    refine wA h2 ?_ ?_ λt=>?_
    ·rw [lj,Rd,Rd]
    ·rw [pa,Xg,Xg]
    ·have hdo:=dq ho
     by_cases hm:t∈lU ops (Mh E (Ah.setIfInBounds i true))
     ·exact .inr ((Sp _ _ _).1 hm)
     ·rw [(Sp _ _ _).2 hm]
      obtain ⟨g1,g2⟩:=jA (So ops (Mh E Ah) st) o.dst v t
      by_cases he:o.dst=some t
      ·rw [hd t he]
       rcases g1 he with g|g
       ·exact .inl g.symm
       ·by_cases hl:t<st.tmps.length
        ·refine .inl ?_
         rw [he]
         show v=((Tj (So ops (Mh E Ah) st).tmps t v).getD t .undef)
         rw [Rh,Ab ⟨rfl,by rw [Xg];exact hl⟩]
        ·refine .inr ?_
         rw [<-hd t he]
         unfold St.get
         rw [Aj,Ec (by omega)]
         rfl
      ·rw [g2 he]
       refine .inl ((Sp _ _ _).2 λhm2=>?_).symm
       obtain ⟨q,hq,hqe⟩:=Lt.1 hm2
       by_cases hqi:q=i
       ·subst hqi
        rw [hdo] at hqe
        exact he hqe
       ·exact hm (Lt.2 ⟨q,(hpe q).2 ⟨hq,hqi⟩,hqe⟩)
  ·cases f with
   |zero=>
    obtain ⟨_,hr,_⟩:=vr
    have:=k1 i hi hiE
    rw [hr] at this
    cases this
   |succ f=>
    obtain ⟨_,_,Aqg⟩:=vr
    obtain ⟨o,st',ho,he,ir⟩:=Aqg i (k1 i hi hiE)
    obtain ⟨a',Acw,aA⟩:=Ajb hT Ph (Mh E Ah) a Akd Aq3.filter hrel
    have ma:wpOp P ops Q i (λa2 w2=>Rel X st' a2 w2) a' w:=by
     unfold wpOp
     simp only [ho]
     exact Wu hT Ph aA o he λa2 w2 h2=>h2
    have IN:=AX (Q:=Q) ho (λcs b=>Region.noSelect_spec cE i o cs b ho) hQ (Mh E Ah) a a' w (λr hr=>?_) Acw ma
    ·refine wpOp_mono (λa2 w2 hk=>?_) IN
     obtain ⟨a3,hp3,π3,hr3⟩:=hk
     have hpe:Mh E (Ah.setIfInBounds i true)=Mh E Ah:=by
      unfold Mh
      refine List.filter_congr λq hq=>?_
      rw [getD_set_ne false (λe=>hiE (by rw [e];exact hq))]
     refine ih f (Ah.setIfInBounds i true) (LA.setIfInBounds i true) st' a2 w2 (by rw [hpe];omega) (by simp [eY]) (by simp [lJ]) (λj=>?_) (Ox.set hi) (λj hj=>getD_set_true (hL0 j hj)) ir ⟨π3,by rw [hpe];exact Aem hp3 hr3⟩
     by_cases jC:i=j
     ·subst jC
      simp [Iz,eY▸Iz,lJ]
     ·rw [getD_set_ne false jC,getD_set_ne false jC,hLA]
    ·obtain ⟨hrE,hrl⟩:=Acr r hr
     have h3:=Bc.1 (Bc.1 hap r hrE) i (Eo.2 (by omega))
     simp only [Kj] at h3
     rcases h3 with ((h3|h3)|h3)|h3
     ·exact absurd (by simpa using h3) hiE
     ·have:=hL0 i h3
      rw [getD_both mc] at this
      cases this
     ·exact (hiw r hr h3).elim
     ·obtain ⟨x,y,hx,hy,hp⟩:=aP h3
      rw [ho] at hy;cases hy
      exact ⟨x,hx,hp⟩
theorem oh: ∀(E:List Nat) (s0 s1:St),Gh T Γ ops E s0=some s1->s1.heap=s0.heap/\s1.tmps.length=s0.tmps.length/\ ∀t,t∉lU ops E->s1.get t=s0.get t
 | [],s0,s1,h=>by
  simp only [Gh,Aa] at h
  subst h
  exact ⟨rfl,rfl,λ_ _=>rfl⟩
 |r::E,s0,s1,h=>by
  simp only [Gh] at h
  split at h
  ·cases h
  rename_i o ho
  split at h
  rotate_left
  ·cases h
  rename_i v hv
  obtain ⟨h1,h2,h3⟩:=oh E _ _ h
  refine ⟨by rw [h1,lj],by rw [h2,pa],λt ht=>?_⟩
  rw [h3 t λhm=>ht (by obtain ⟨q,hq,he⟩:=Lt.1 hm;exact Lt.2 ⟨q,Ar _ hq,he⟩)]
  exact (jA s0 o.dst v t).2 λe=>ht (Lt.2 ⟨r,Jc ..,by rw [dq ho];exact e⟩)
theorem zT: ∀ {E:List Nat} {L0:Array Bool},kc ops E L0=true-> ∀r∈E,L0.getD r true=false
 | [],_,_,_,hr=>by cases hr
 |e::E,L0,h,r,hr=>by
  simp only [kc,Af,Jq] at h
  have he:=(mem_ready.1 h.1).1
  rcases Be.1 hr with rfl|hr
  ·exact he
  ·have h2:=zT h.2 r hr
   have Ih:e≠r:= λe'=>by subst e';simp [fm he] at h2
   rw [getD_set_ne true Ih] at h2
   exact h2
theorem z9 (hT:Ed P T) (Ph:Kk P Γ) {Q:Exit->Act->World->Prop} (hQ: ∀c a w,¬Q (.panic c) a w) {K:St->Prop} (hK: ∀st a w,K st->Rel X st a w->Q .normal a w) (cE:Region.noSelect ops=true)
  {E:List Nat} {L0:Array Bool} (hE:dF ops E L0=true) {n:Nat} (hn:E.length<=n) {cZ st1:St} (h1:Gh T Γ ops E cZ=some st1) (h2:sQ T Γ ops E K (n-E.length) (Ej E L0) st1)
  (bm:L0.size=ops.size) (Ox:Uw ops L0) {a:Act} {w:World} (hr:Rel X cZ a w):wpAny P .any ops Q n L0 a w:=by
 have hE':=hE
 simp only [dF,Af] at hE'
 have mc:=zT hE'.1.2
 have hp:Mh E L0=E:=List.filter_eq_self.2 λr hr=>by rw [getD_both (mc r hr)];rfl
 refine za hT Ph hQ hK cE hE n (n-E.length) L0 (Ej E L0) st1 a w (by rw [hp];omega) bm (by rw [Xb];exact bm) (λj=>?_) Ox (λj hj=>hj) h2 ?_
 ·by_cases hj:j∈E
  ·rw [gk E L0 j hj (fm (mc j hj)),show E.contains j=true by simpa using hj,Bool.or_true]
  ·rw [eg E L0 j hj,show E.contains j=false by simpa using hj,iT]
 ·obtain ⟨π,hr⟩:=hr
  obtain ⟨g1,g2,g3⟩:=oh E _ _ h1
  refine ⟨π,wA hr (by rw [Rd,g1]) (by rw [Xg,g2]) λt=>?_⟩
  rw [hp]
  by_cases ht:t∈lU ops E
  ·exact .inr ((Sp _ _ _).1 ht)
  ·exact .inl (((Sp _ _ _).2 ht).trans (g3 t ht))
theorem Yn (live:List Nat): ∀(i:Nat) (l:List AV),(Iq live i l).length=l.length
 |_,[]=>rfl
 |i,v::r=>by simp [Iq,Yn live (i+1) r]
theorem ct (live:List Nat): ∀(i:Nat) (l:List AV) (t:Nat),(Iq live i l).getD t .undef= .undef\/(Iq live i l).getD t .undef=l.getD t .undef
 |_,[],t=> .inr rfl
 |i,v::r,0=>by
  simp only [Iq,Yj]
  split
  ·exact .inr rfl
  ·exact .inl rfl
 |i,v::r,t+1=>by
  simp only [Iq,Nu]
  exact ct live (i+1) r t
theorem ec: ∀(l:List Nat) (st:St) (a:Act) (w:World),Rel X st a w->Rel X (bT l st) a w
 | [],_,_,_,h=>h
 |k::r,_,a,w,⟨_,h⟩=>ec r _ a w ⟨_,h.forget k⟩
theorem Aa8 (dead:List Nat) {st:St} {a:Act} {w:World} (h:Rel X st a w):Rel X (st.Qz dead) a w:=by
 obtain ⟨π,h⟩:=h
 unfold St.Qz
 refine ec _ _ a w ⟨π,h.1,⟨by simp [Yn,h.2.size],h.2.defers,λt=>?_⟩⟩
 show Bs X w π st.heap ((Iq _ 0 st.tmps).getD t .undef) _
 rcases ct ((List.range st.tmps.length).filter λt=>!dead.contains t) 0 st.tmps t with e|e
 ·rw [e];trivial
 ·rw [e];exact h.2.tmps t
theorem su (hT:Ed P T) (Ph:Kk P Γ) (hm:P.follows .mixedOrders=true) {Q:Exit->Act->World->Prop} {id:Nat} {draw:Bool} {st:St} {K:St->Prop} {a:Act} (h:Rel X st a w)
  (he:lP T Γ ops draw st K) (hQ: ∀st' a' w',K st'->Rel X st' a' w'->Q .normal a' w'):(Code.region id ops draw).wp P Q a w:=by
 rcases he with ⟨st',h1,h2⟩|⟨rfl,cE,cZ,h1,h2⟩
 ·exact qk hT Ph hm h h1 λa' w' h'=>hQ st' a' w' h2 h'
 ·refine wp_mono (Q:= λe a w=>e= .normal/\Q .normal a w) ?_ λe a w h=>h.1▸h.2
  refine wp_region_any hm ?_
  have hrel:Rel X st a {w with drawn:=w.drawn+1} :=by
   obtain ⟨π,h⟩:=h
   exact ⟨π,h.quiet ⟨rfl,rfl,rfl,Ao _,λ_ _=>rfl⟩⟩
  have hlen:(Ks ops).length<=ops.size:=by
   have:=ej (ops:=ops) (!kV false ops) (List.range ops.size) (Array.replicate ops.size false)
   rw [List.length_range] at this
   exact this
  have Acp:(Array.replicate ops.size false).size=ops.size:=by simp
  have hmv:(Ej (Ks ops) (Array.replicate ops.size false)).size=ops.size:=by rw [Xb,Acp]
  have:=cX hT (!kV false ops) (X:=X) (P:=P) (T:=T) (Γ:=Γ) (Q:= λe a w=>e= .normal/\Q .normal a w) (n:=ops.size-(Ks ops).length) (st1:=cZ) (λc a w hq=>by cases hq.1) cE (List.range ops.size) (Array.replicate ops.size false) st a _ h1 hrel λa' w' h'=>by
   rcases h2 with h2|⟨E,st1,hE,hEn,hE1,hE2⟩
   ·exact mJ hT Ph (λst' a' w' hk hr=>⟨rfl,hQ st' a' w' hk hr⟩) _ _ _ _ _ h2 h'
   ·exact z9 hT Ph (λc a w hq=>by cases hq.1) (λst' a' w' hk hr=>⟨rfl,hQ st' a' w' hk hr⟩) cE hE hEn hE1 hE2 hmv (bw _ _ _ rK) h'
  have e:(Jn (!kV false ops) ops (List.range ops.size) (Array.replicate ops.size false)).length+(ops.size-(Ks ops).length)=ops.size:=by
   have e2:(Jn (!kV false ops) ops (List.range ops.size) (Array.replicate ops.size false)).length=(Ks ops).length:=rfl
   omega
  rw [e] at this
  exact this
theorem SF (hT:Ed P T) (Ph:Kk P Γ) (hm:P.follows .mixedOrders=true) {Q:Exit->Act->World->Prop} {id:Nat} {draw:Bool} {st:St} {K:St->Prop} {a:Act} (h:Rel X st a w)
  (he:BE T Γ ops draw st K) (hQ: ∀st' a' w',K st'->Rel X st' a' w'->Q .normal a' w'):(Code.region id ops draw).wp P Q a w:=by
 rcases he with he|⟨dead,_,he⟩
 ·exact su hT Ph hm h he hQ
 ·exact su hT Ph hm h he λst' a' w' hk hr=>hQ _ a' w' hk (Aa8 dead hr)
end
end Go.Proofs.YtfgfigkbgecfnaaGreat
