/-
  Part 25 of the proof that the statement FnExactSolveByMethod holds.
-/
import Derived.Test.YtjbdmibbbpdnnaaCSolveByMethod23
namespace Go.Proofs.Ytjbdmibbbpdnnaa
open Go.RowKit
section
variable {P:Program} {T:Tab} {Γ:Env} {X:Ctx} {w w':World} {π:Pi} {ops:Array Oper} {hd tl:List Nat}
structure Rx (ops:Array Oper) (tl fl:List Nat) (Ad:Array Bool):Prop where
 size:Ad.size=ops.size
 done: ∀i,i∈fl->Ad.getD i false=true
 closed: ∀j oj,ops[j]?=some oj->Ad.getD j false=true-> ∀e∈oj.after,Region.binds .any e=true->Ad.getD e.on false=true
 tail: ∀t,t∈tl->Ad.getD t true=false
theorem Rx.set {fl:List Nat} {i:Nat} {Ad:Array Bool} (inv:Rx ops tl fl Ad) (hi:i∈Region.ready .any ops Ad) (Ns:i∉tl):Rx ops tl fl (Ad.setIfInBounds i true):=by
 obtain ⟨_,oi,hoi,Ib⟩:=mem_ready.1 hi
 refine ⟨by simp [inv.size],λk hk=>getD_set_true (inv.done k hk),λj oj hj hl e he hb=>?_,λt ht=>by
  have Ep:i≠t:= λe=>Ns (by rw [e];exact ht)
  rw [getD_set_ne true Ep];exact inv.tail t ht⟩
 by_cases jF:i=j
 ·subst jF
  have:oj=oi:=Option.some.inj (hj.symm.trans hoi)
  subst this
  exact getD_set_true (Ib e he hb)
 ·rw [getD_set_ne false jF] at hl
  exact getD_set_true (inv.closed j oj hj hl e he hb)
theorem yK (k:Nat) (r:List Nat) (h:(r.all λt=>(k::r).any λk=>Region.waitsFor .any ops t k)=true): ∀t,t∈r-> ∃k',(k'=k\/k'∈r)/\Region.waitsFor .any ops t k'=true:= λt ht=>by
 obtain ⟨k',h1,h2⟩:=List.any_eq_true.1 (List.all_eq_true.1 h t ht)
 exact ⟨k',List.mem_cons.1 h1,h2⟩
theorem xQ {fl:List Nat} {Ad:Array Bool} (hs:oe ops hd tl=true) (inv:Rx ops tl fl Ad) (Ws: ∀i,i∈hd->i<ops.size):
  ∀(d i:Nat),ops.size-i=d->i∈hd->Ad.getD i true=false-> ∀t,t∈tl->t∉Region.ready .any ops Ad:=by
 cases tl with
 |nil=>intro d i _ _ _ t ht;cases ht
 |cons f r=>
  simp only [oe,Bool.and_eq_true] at hs
  obtain ⟨ma,CS⟩:=hs
  intro d
  induction d using Nat.strongRecOn with
  |_ d ih=>
   intro i hd' hi IT t ht hr
   obtain ⟨_,ot,hot,Ib⟩:=mem_ready.1 hr
   rcases List.mem_cons.1 ht with rfl|iv
   ·have h1:=List.all_eq_true.1 ma i hi
    obtain ⟨j,hj,hj2⟩:=List.any_eq_true.1 h1
    simp only [Bool.and_eq_true,decide_eq_true_eq] at hj2
    obtain ⟨oj,UJ,e,he,hb,hon⟩:=Region.waitsFor_spec hj2.2
    rcases List.mem_cons.1 hj with rfl|QL
    ·have:oj=ot:=Option.some.inj (UJ.symm.trans hot)
     subst this
     have h2:=Ib e he hb
     rw [hon,getD_both IT] at h2
     cases h2
    ·cases hl:Ad.getD j false with
     |true=>
      have h2:=inv.closed j oj UJ hl e he hb
      rw [hon,getD_both IT] at h2
      cases h2
     |false=>
      have hjs:j<Ad.size:=by rw [inv.size];exact Ws j QL
      have:=Ws j QL
      exact ih (ops.size-j) (by omega) j rfl QL (getD_in hjs hl) t (by simp) hr
   ·obtain ⟨k',h1,h2⟩:=yK f r CS t iv
    obtain ⟨o',ho',e,he,hb,hon⟩:=Region.waitsFor_spec h2
    have:o'=ot:=Option.some.inj (ho'.symm.trans hot)
    subst this
    have h3:=Ib e he hb
    have hk:k'∈f::r:=by rcases h1 with rfl|h1<;>simp [*]
    rw [hon,getD_both (inv.tail k' hk)] at h3
    cases h3
def IV (T:Tab) (Γ:Env) (ops:Array Oper) (hd:List Nat) (L:Array Bool->St->Prop):Nat->Array Bool->St->Prop
 |0,Ad,st=>L Ad st
 |f+1,Ad,st=>
  Region.ready .any ops Ad≠ []/\ ∀i∈Region.ready .any ops Ad,i∈hd/\ ∃o v,ops[i]?=some o/\bV T Γ ops st o=some v/\IV T Γ ops hd L f (Ad.setIfInBounds i true) (st.put o.dst v)
theorem uW (hT:Cf P T) (Mk:Hf P Γ) {Q:Exit->Act->World->Prop} {K:Act->World->Prop} {st:St} {a:Act} (h:Rel X st a w) {i:Nat} {o:Oper} {v:AV} (ho:ops[i]?=some o) (hv:bV T Γ ops st o=some v)
  (hK: ∀a' w',Rel X (st.put o.dst v) a' w'->K a' w'):wpOp P ops Q i K a w:=by
 obtain ⟨π,h⟩:=h
 have run:Sa T Γ st o=some v->o.wp P a w K Q:= λhe=>lA (X:=X) (st':=st) (av:=v) (vT hT Mk h o v he) hK
 have skip:v= .at .skip->K (a.put o.dst undef) w:= λe=>by subst e;exact hK _ _ ⟨π,h.put o.dst xB⟩
 unfold wpOp
 simp only [ho]
 unfold bV at hv
 split at hv
 ·rename_i hg
  rw [if_pos (by simp [Region.wanted,hg])]
  exact .inl (run hv)
 ·rename_i j want hg
  split at hv
  ·rename_i b hb
   have hy:=(a9 h j).1 b hb
   split at hv
   ·rename_i yY
    rw [if_pos (by simp only [Region.wanted,hg,hy];simpa using yY)]
    exact .inl (run hv)
   ·rename_i yY
    rw [if_neg (by simp only [Region.wanted,hg,hy];simpa using yY)]
    simp only [Option.some.injEq] at hv
    exact skip hv.symm
  ·rename_i hb
   have hy:=(a9 h j).2 hb
   rw [if_neg (by simp [Region.wanted,hg,hy])]
   simp only [Option.some.injEq] at hv
   exact skip hv.symm
  ·cases hv
theorem fz (hT:Cf P T) (Mk:Hf P Γ) {g:Nat} {L:Array Bool->St->Prop} {Q:Exit->Act->World->Prop} (hL: ∀Ad st a w,L Ad st->Rel X st a w->wpAny P .any ops Q g Ad a w):
  ∀(f:Nat) (Ad:Array Bool) (st:St) (a:Act) (w:World),IV T Γ ops hd L f Ad st->Rel X st a w->wpAny P .any ops Q (f+g) Ad a w
 |0,Ad,st,a,w,h,hr=>by rw [Nat.zero_add];exact hL _ _ _ _ h hr
 |f+1,Ad,st,a,w,h,hr=>by
  rw [show f+1+g=(f+g)+1 by omega]
  refine ⟨λh0=>absurd h0 h.1,λi hi=>?_⟩
  obtain ⟨_,o,v,ho,hv,eY⟩:=h.2 i hi
  exact uW hT Mk hr ho hv λa' w' h'=>fz hT Mk hL f _ _ _ _ eY h'
theorem yp {fl:List Nat} {i:Nat} {oi:Oper} {v:AV} {L:Array Bool->St->Prop} (hi:ops[i]?=some oi) (hs:oe ops hd tl=true) (Ws: ∀i,i∈hd->i<ops.size) (Ns:i∈hd)
  (Ib: ∀j,j<ops.size->j∈fl\/j∈hd\/j∈tl) (wi: ∀j,j∈hd->j∉tl) (Ab6: ∀Ad st,L Ad st-> ∀j∈Region.ready .any ops Ad,j∈tl):
  ∀(f:Nat) (Ad:Array Bool) (st:St),Rx ops tl fl Ad->
   (∀j oj,ops[j]?=some oj->j≠i->Ad.getD j true=false->(∀e∈oj.after,Region.binds .any e=true->e.on≠i)->oi.apart ops oj=true)->
   i∈Region.ready .any ops Ad->bV T Γ ops st oi=some v->
   IV T Γ ops hd L f (Ad.setIfInBounds i true) (st.put oi.dst v)->IV T Γ ops hd L (f+1) Ad st:=by
 intro f
 have Ack: ∀Ad,Rx ops tl fl Ad->i∈Region.ready .any ops Ad-> ∀j,j∈Region.ready .any ops Ad->j∈hd:=by
  intro Ad inv hr j hj
  obtain ⟨IT,oj,UJ,_⟩:=mem_ready.1 hj
  rcases Ib j (Array.getElem?_eq_some_iff.1 UJ).1 with h|h|h
  ·have h1:=inv.done j h
   rw [getD_both IT] at h1;cases h1
  ·exact h
  ·exact absurd hj (xQ hs inv Ws _ i rfl Ns (mem_ready.1 hr).1 j h)
 induction f with
 |zero=>
  intro Ad st inv _ hr hv Hh
  refine ⟨λh=>(by rw [h] at hr;cases hr),λj hj=>?_⟩
  have QL:=Ack Ad inv hr j hj
  refine ⟨QL,?_⟩
  by_cases py:j=i
  ·subst py;exact ⟨oi,v,hi,hv,Hh⟩
  ·exact absurd (Ab6 _ _ Hh j (ready_mono hj py)) (wi j QL)
 |succ f ih=>
  intro Ad st inv iu hr hv Hh
  have IT:=(mem_ready.1 hr).1
  refine ⟨λh=>(by rw [h] at hr;cases hr),λj hj=>?_⟩
  have QL:=Ack Ad inv hr j hj
  refine ⟨QL,?_⟩
  by_cases py:j=i
  ·subst py;exact ⟨oi,v,hi,hv,Hh⟩
  ·obtain ⟨_,oj,vj,UJ,hvj,eY⟩:=Hh.2 j (ready_mono hj py)
   obtain ⟨Abb,oj',Ahh,Aay⟩:=mem_ready.1 hj
   have:oj'=oj:=Option.some.inj (Ahh.symm.trans UJ)
   subst this
   have np: ∀e∈oj'.after,Region.binds .any e=true->e.on≠i:= λe he hb heq=>by
    have h1:=Aay e he hb
    rw [heq,getD_both IT] at h1
    cases h1
   obtain ⟨p1,p2,p3⟩:=Oper.apart_spec (iu j oj' UJ py Abb np)
   rw [xT p1] at hvj
   refine ⟨oj',vj,UJ,hvj,?_⟩
   have WA: ∀k ok,ops[k]?=some ok->k≠i->(Ad.setIfInBounds j true).getD k true=false->
     (∀e∈ok.after,Region.binds .any e=true->e.on≠i)->oi.apart ops ok=true:= λk ok hk hki Ac5 hno=>by
    refine iu k ok hk hki ?_ hno
    by_cases hjk:j=k
    ·subst hjk;exact Abb
    ·rw [getD_set_ne true hjk] at Ac5;exact Ac5
   refine ih (Ad.setIfInBounds j true) (st.put oj'.dst vj) (inv.set hj (wi j QL)) WA (ready_mono hr (Ne.symm py)) (by rw [xT p3];exact hv) ?_
   rw [Array.setIfInBounds_comm _ _ py,<-St.put_comm st v vj p2]
   exact eY
theorem lk: ∀(l:List Nat) (Ad:Array Bool),iX ops l Ad=true-> ∀j∈Region.ready .any ops Ad,j∈l
 | [],Ad,h,j,hj=>by simp only [iX,List.isEmpty_iff] at h;rw [h] at hj;cases hj
 |k::r,Ad,h,j,hj=>by
  simp only [iX,Bool.and_eq_true,Bool.or_eq_true,decide_eq_true_eq] at h
  rcases h.1 with h1|h1
  ·rw [h1] at hj
   simp at hj
   simp [hj]
  ·by_cases e:j=k
   ·simp [e]
   ·exact List.mem_cons_of_mem _ (lk r _ h.2 j (ready_mono hj e))
theorem ve {fl:List Nat} (bS:Region.noSelect ops=true) (hs:oe ops hd tl=true) (Ws: ∀i,i∈hd->i<ops.size) (Ib: ∀j,j<ops.size->j∈fl\/j∈hd\/j∈tl) (wi: ∀j,j∈hd->j∉tl) (st':St):
  ∀(l:List Nat) (Ad:Array Bool) (st:St),(∀i,i∈l->i∈hd)->Rx ops tl fl Ad->jE ops tl l Ad=true->Ef T Γ ops l st=some st'->
  IV T Γ ops hd (λtt s=>iX ops tl tt=true/\s=st') l.length Ad st
 | [],Ad,st,_,_,hB,he=>by
  simp only [Ef,Option.some.injEq] at he
  exact ⟨by simpa [jE] using hB,he⟩
 |k::l,Ad,st,hl,inv,hB,he=>by
  simp only [jE,Bool.and_eq_true] at hB
  obtain ⟨⟨hr,hf⟩,hB'⟩:=hB
  have hkh:=hl k (by simp)
  have gg:k∈Region.ready .any ops Ad:=by simpa using hr
  simp only [Ef] at he
  split at he
  ·cases he
  ·rename_i o ho
   split at he
   ·rename_i v hv
    exact yp ho hs Ws hkh Ib wi (λtt s hL=>lk tl tt hL.1) l.length Ad st inv (Region.free_spec ho hf) gg hv
     (ve bS hs Ws Ib wi st' l _ _ (λi hi=>hl i (by simp [hi])) (inv.set gg (wi k hkh)) hB' he)
   ·cases he
theorem sI {Q:Exit->Act->World->Prop} (hQ: ∀e a w,Q e a w->e= .normal) {k i:Nat} {x:Operand} {o:Oper} (ho:ops[k]?=some o) (m9:o.op= .extract x i) (hg:o.guard=none) {K:Act->World->Prop} {a:Act} {w:World}
  (h:wpOp P ops Q k K a w): ∃v,Yields P ops o v a/\K (a.put o.dst v) w:=by
 unfold wpOp at h
 simp only [ho] at h
 have hw:Region.wanted o (yielded ops a.tmps)=true:=by simp [Region.wanted,hg]
 rw [if_pos hw] at h
 rcases h with h|⟨_,a',w',h⟩
 ·unfold Oper.wp at h
  have hr: ∀w,(execOp a.eval o).run P w=(do pure (Next.value (<-Instr.extract (a.eval x) i))).run P w:= λw=>by unfold execOp;rw [m9]
  rw [hr] at h
  unfold Instr.extract at h hr
  split at h
  ·rename_i vs hx
   split at h
   ·rename_i v hv
    rw [hx] at hr
    simp only [hv] at hr
    exact ⟨v, .inl ⟨hw,λw=>(hr w).trans rfl⟩,h⟩
   ·exact h.elim
  ·exact h.elim
 ·cases hQ _ _ _ h
theorem Yf {Q:Exit->Act->World->Prop} (hQ: ∀e a w,Q e a w->e= .normal) (bS:Region.noSelect ops=true): ∀(l:List Nat) (Ad:Array Bool) (a:Act) (w:World),iX ops l Ad=true->wpOps P ops Q l a w->wpAny P .any ops Q l.length Ad a w
 | [],Ad,a,w,hB,h=>⟨by simpa [iX] using hB,h⟩
 |k::r,Ad,a,w,hB,h=>by
  simp only [iX,Bool.and_eq_true,Bool.or_eq_true,decide_eq_true_eq] at hB
  rw [wpOps_cons] at h
  rcases hB.1 with h0|⟨h1,h2,h3⟩
  ·refine ⟨λh1=>(by rw [h0] at h1;cases h1),λi hi=>?_⟩
   rw [h0] at hi
   have hik:i=k:=by simpa using hi
   subst hik
   exact wpOp_mono (λa' w' h'=>Yf hQ bS r _ a' w' hB.2 h') h
  ·unfold LF at h1
   split at h1
   ·rename_i o ho
    split at h1
    ·rename_i x i m9 hg
     obtain ⟨v,hy,hk⟩:=sI hQ ho m9 hg h
     exact wpAny_take ho bS h3 h2 (λc a w hq=>by cases hQ _ _ _ hq) hy (Yf hQ bS r _ _ w hB.2 hk)
    ·cases h1
   ·cases h1
theorem ik {P:Program} {o:Oper} {t:Tmp} {a:Act} (h:o.op= .move (.tmp t)) (hg:o.guard=none):Yields P ops o (a.tmps.getD t undef) a:=by
 refine .inl ⟨by simp [Region.wanted,hg],λw=>?_⟩
 unfold execOp
 rw [h]
 rfl
theorem tb {hd tl:List Nat} {i:Nat} (h:iw ops hd tl i=true): ∃o t,ops[i]?=some o/\o.op= .move (.tmp t)/\o.guard=none:=by
 unfold iw at h
 split at h
 ·rename_i o ho
  simp only [Bool.and_eq_true] at h
  have h1:=h.1
  split at h1
  ·rename_i t h2 h3
   exact ⟨o,t,ho,h2,h3⟩
  ·cases h1
 ·cases h
theorem bO {q:Bool} {hd:List Nat} {Q:Exit->Act->World->Prop} (hQ: ∀c a w,¬Q (.panic c) a w) (bS:Region.noSelect ops=true) {n:Nat} {st1:St}
  (eY: ∀Ad st a w,(∀j oj,ops[j]?=some oj->Ad.getD j false=true-> ∀e∈oj.after,Region.binds .any e=true->Ad.getD e.on false=true)->Ad.size=ops.size->jE ops tl hd Ad=true->st=st1->Rel X st a w->
   (∀j,Ad.getD j false=true↔j∈Pb q Γ ops)->wpAny P .any ops Q n Ad a w):
  ∀(l dn:List Nat) (Ad:Array Bool) (st:St) (a:Act) (w:World),(∀j,j∈Pb q Γ ops↔j∈dn\/j∈l)->(∀i,i∈l-> ∃o t,ops[i]?=some o/\o.op= .move (.tmp t)/\o.guard=none)->
   (∀j oj,ops[j]?=some oj->Ad.getD j false=true-> ∀e∈oj.after,Region.binds .any e=true->Ad.getD e.on false=true)->Ad.size=ops.size->(∀j,Ad.getD j false=true↔j∈dn)->
   ij ops tl hd l Ad=true->Ef T Γ ops l st=some st1->Rel X st a w->wpAny P .any ops Q (l.length+n) Ad a w
 | [],dn,Ad,st,a,w,hm,_,hc,Ws,QF,hf,he,hr=>by
  simp only [Ef,Option.some.injEq] at he
  rw [List.length_nil,Nat.zero_add]
  exact eY Ad st a w hc Ws (by simpa [ij] using hf) he hr λj=>by rw [QF j,hm j];simp
 |k::l,dn,Ad,st,a,w,hm,hl,hc,Ws,QF,hf,he,hr=>by
  simp only [ij,Bool.and_eq_true] at hf
  obtain ⟨⟨h1,h2⟩,h3⟩:=hf
  obtain ⟨o,t,ho,m9,hg⟩:=hl k (by simp)
  have pB:k∈Region.ready .any ops Ad:=by simpa using h1
  obtain ⟨_,o',ho',Ib⟩:=mem_ready.1 pB
  have ho2:o'=o:=Option.some.inj (ho'.symm.trans ho)
  subst ho2
  have hks:k<Ad.size:=by rw [Ws];exact (Array.getElem?_eq_some_iff.1 ho).1
  simp only [Ef,ho] at he
  have hv:bV T Γ ops st o'=some (st.get t):=by simp only [bV,hg,Sa,Cn,m9];rfl
  rw [hv] at he
  rw [List.length_cons,show l.length+1+n=(l.length+n)+1 by omega]
  refine wpAny_take ho bS h2 h1 (λc a w hq=>absurd hq (hQ c _ w)) (ik m9 hg) ?_
  obtain ⟨π,hr⟩:=hr
  refine bO hQ bS eY l (k::dn) _ _ _ _ (λj=>by rw [hm j,List.mem_cons,List.mem_cons];exact ⟨λh=>h.elim (λh=> .inl (.inr h)) (λh=>h.elim (λh=> .inl (.inl h)) .inr),λh=>h.elim (λh=>h.elim (λh=> .inr (.inl h)) .inl) (λh=> .inr (.inr h))⟩) (λi hi=>hl i (by simp [hi])) ?_ (by simp [Ws]) (λj=>?_) h3 he ⟨π,hr.put o'.dst (hr.2.tmps t)⟩
  ·intro j oj hj ZW e hem hb
   by_cases IN:k=j
   ·subst IN
    have:oj=o':=Option.some.inj (hj.symm.trans ho)
    subst this
    exact getD_set_true (Ib e hem hb)
   ·rw [getD_set_ne false IN] at ZW
    exact getD_set_true (hc j oj hj ZW e hem hb)
  ·by_cases IN:k=j
   ·subst IN
    refine ⟨λ_=>by simp,λ_=>?_⟩
    simp [hks]
   ·rw [getD_set_ne false IN,QF j]
    simp [Ne.symm IN]
theorem bo {ops:Array Oper} : ∀(a b:List Nat) (st st':St),Ef T Γ ops (a++b) st=some st'-> ∃s,Ef T Γ ops a st=some s/\Ef T Γ ops b s=some st'
 | [],b,st,st',h=>⟨st,rfl,h⟩
 |i::a,b,st,st',h=>by
  simp only [List.cons_append,Ef] at h⊢
  split at h
  ·cases h
  ·split at h
   ·exact bo a b _ st' h
   ·cases h
theorem jt (hT:Cf P T) (Mk:Hf P Γ) (hm:P.follows .mixedOrders=true) {Q:Exit->Act->World->Prop} {id:Nat} {draw:Bool} {st st':St} {a:Act} (h:Rel X st a w)
  (he:Ln T Γ ops draw st=some st') (hQ: ∀a' w',Rel X st' a' w'->Q .normal a' w'):(Code.region id ops draw).wp P Q a w:=by
 unfold Ln at he
 cases draw with
 |false=>
  rw [if_neg (by simp)] at he
  exact wp_region_list (eP hT Mk ops.toList st st' a w h he hQ)
 |true=>
  rw [if_pos rfl] at he
  have go: ∀(q:Bool),ef q Γ ops=true->(match Ef T Γ ops (dX q Γ ops) st with
    |some st'=>Jl T Γ ops (Fl q Γ ops) st'
    |none=>none)=some st'->(Code.region id ops true).wp P Q a w:=by
   intro q Yz he
   split at he
   ·rename_i st1 h1
    simp only [ef,Bool.and_eq_true,beq_iff_eq] at Yz
    obtain ⟨⟨⟨bS,hlen⟩,VY⟩,Ac2⟩:=Yz
    refine wp_mono (Q:= λe a w=>e= .normal/\Q .normal a w) ?_ λe a w h=>h.1▸h.2
    refine wp_region_any hm ?_
    have KN:Rel X st a {w with drawn:=w.drawn+1} :=by
     obtain ⟨π,h⟩:=h
     exact ⟨π,h.quiet ⟨rfl,rfl,rfl,Nat.le_refl _,λ_ _=>rfl⟩⟩
    obtain ⟨s0,h0,h1⟩:=bo _ _ _ _ h1
    have Ns: ∀i,i∈Wr q Γ ops->i<ops.size:= λi hi=>List.mem_range.1 (List.mem_filter.1 hi).1
    have Ws: ∀i,i∈Pe q Γ ops->i<ops.size:= λi hi=>Ns i (List.mem_filter.1 hi).1
    have Ib: ∀j,j<ops.size->j∈Pb q Γ ops\/j∈Pe q Γ ops\/j∈Fl q Γ ops:= λj hj=>by
     by_cases ht:j∈Fl q Γ ops
     ·exact .inr (.inr ht)
     ·have hh:j∈Wr q Γ ops:=List.mem_filter.2 ⟨List.mem_range.2 hj,by simpa using ht⟩
      cases OO:iw ops (Wr q Γ ops) (Fl q Γ ops) j with
      |true=>exact .inl (List.mem_filter.2 ⟨hh,OO⟩)
      |false=>exact .inr (.inl (List.mem_filter.2 ⟨hh,by rw [OO];rfl⟩))
    have TX: ∀j,j∈Wr q Γ ops->j∉Fl q Γ ops:= λj hj=>by
     have:=(List.mem_filter.1 hj).2
     simpa using this
    have wi: ∀j,j∈Pe q Γ ops->j∉Fl q Γ ops:= λj hj=>TX j (List.mem_filter.1 hj).1
    have Ab5: ∀j,j∈Pb q Γ ops->j∉Fl q Γ ops:= λj hj=>TX j (List.mem_filter.1 hj).1
    have htl: ∀t,t∈Fl q Γ ops->t<ops.size:=by
     intro t ht
     unfold Fl at ht
     have: ∀(l:List Nat) (acc:List Nat),(∀i,i∈acc->i<ops.size)->(∀i,i∈l->i<ops.size)-> ∀i,i∈l.foldl (init:=acc) (λacc i=>match ops[i]? with
       |some o=>if LN q Γ o||o.after.any (λe=>Region.binds .any e&&acc.contains e.on) then acc++ [i] else acc
       |none=>acc)->i<ops.size:=by
      intro l
      induction l with
      |nil=>intro acc h1 _ i hi;exact h1 i hi
      |cons x l ih=>
       intro acc h1 h2 i hi
       simp only [List.foldl_cons] at hi
       refine ih _ ?_ (λi hi=>h2 i (by simp [hi])) i hi
       intro k hk
       split at hk
       ·split at hk
        ·rcases List.mem_append.1 hk with hk|hk
         ·exact h1 k hk
         ·simp at hk;rw [hk];exact h2 x (by simp)
        ·exact h1 k hk
       ·exact h1 k hk
     exact this (List.range ops.size) [] (by simp) (λi hi=>List.mem_range.1 hi) t ht
    rw [<-hlen]
    refine bO (q:=q) (X:=X) (T:=T) (Γ:=Γ) (tl:=Fl q Γ ops) (hd:=Pe q Γ ops) (st1:=s0) (λc a w hq=>by cases hq.1) bS ?_ (Pb q Γ ops) [] _ st a _ (λj=>by simp)
     (λi hi=>tb (List.mem_filter.1 hi).2) (λj oj _ hl=>(by rw [hlen,getD_replicate_false] at hl;cases hl)) (by simp [hlen]) (λj=>by rw [hlen,getD_replicate_false];simp) (by rw [hlen];exact VY) h0 KN
    intro Ad s a' w' hc kT Ab9 hs hr OO
    subst hs
    have Aic:Rx ops (Fl q Γ ops) (Pb q Γ ops) Ad:=
     ⟨kT,λi hi=>(OO i).2 hi,hc,λt ht=>getD_in (by rw [kT];exact htl t ht) (by
      cases hg:Ad.getD t false with
      |false=>rfl
      |true=>exact absurd ht (Ab5 t ((OO t).1 hg)))⟩
    have HA:=ve (T:=T) (Γ:=Γ) bS Ac2 Ws Ib wi st1 (Pe q Γ ops) _ s (λi hi=>hi) Aic Ab9 h1
    exact fz (X:=X) (P:=P) (Q:= λe a w=>e= .normal/\Q .normal a w) (g:=(Fl q Γ ops).length) hT Mk (λAd s a' w' hL hr=>by
     obtain ⟨Ahu,rfl⟩:=hL
     exact Yf (λe a w h=>h.1) bS (Fl q Γ ops) Ad a' w' Ahu (eL hT Mk _ _ st' a' w' hr he λa w h=>⟨rfl,hQ a w h⟩)) _ _ _ _ _ HA hr
   ·cases he
  split at he
  ·rename_i Yz;exact go false Yz he
  ·split at he
   ·rename_i Yz;exact go true Yz he
   ·cases he
theorem Xy (q:Bool): ∀(l:List Nat) (Ad:Array Bool),(Fh q ops l Ad).length<=l.length
 | [],_=>Nat.le_refl _
 |i::r,Ad=>by
  simp only [Fh]
  split
  ·simp only [List.length_cons];have:=Xy q r (Ad.setIfInBounds i true);omega
  ·simp only [List.length_cons];have:=Xy q r Ad;omega
theorem xr (hT:Cf P T) {st:St} {a:Act} (h:Ai X π st a w) {i:Nat} {o:Oper} (ho:ops[i]?=some o) (hp:ec ops i=true) {v:AV} (hv:bV T Γ ops st o=some v):
  ∃u,Yields P ops o u a/\Ao X w π st.heap v u:=by
 unfold ec at hp
 rw [ho] at hp
 simp only at hp
 obtain ⟨dst,op,ty,pos,af,gd⟩:=o
 split at hp
 ·rename_i t h3 h4
  simp only at h3 h4;subst h3;subst h4
  refine ⟨a.tmps.getD t undef,ik rfl rfl,?_⟩
  simp only [bV,Sa,Cn,Option.some.injEq] at hv
  subst hv
  exact h.2.tmps t
 ·rename_i x h3 h4
  simp only at h3 h4;subst h3;subst h4
  have e:=Bs h.2 x
  have fin:(∃ad,a.eval x= .pointer (some ad))->Yields P ops ⟨dst, .nilCheck x,ty,pos,af,none⟩ (a.eval x) a:= λ⟨ad,hx⟩=>
   .inl ⟨by simp [Region.wanted],λw=>by simp [execOp,hx]⟩
  simp only [bV,Sa,Cn] at hv
  split at hv
  ·rename_i fr τ y hx
   simp only [Option.some.injEq] at hv;subst hv
   rw [hx] at e
   have e':=e
   obtain ⟨cs,hc,hv⟩:=e
   simp only [Cells] at hc
   obtain ⟨g,o,rfl,_⟩:=hc
   simp only [As,Ty.Ac,Bool.false_eq_true,if_false,List.headD_cons] at hv
   exact ⟨_,fin ⟨_,hv⟩,e'⟩
  ·rename_i fr τ y hx
   simp only [Option.some.injEq] at hv;subst hv
   rw [hx] at e
   obtain ⟨cs,hc,hv⟩:=e
   simp only [Cells] at hc
   rcases hc with ⟨h0,_⟩|⟨y',g,o,h0,rfl,hr⟩
   ·cases h0
   simp only [Option.some.injEq] at h0;subst h0
   simp only [As,Ty.Ac,Bool.false_eq_true,if_false,List.headD_cons] at hv
   exact ⟨_,fin ⟨_,hv⟩,[_],⟨g,o,rfl,hr⟩,by rw [hv];simp [As,Ty.Ac]⟩
  ·rename_i l i hx
   simp only [Option.some.injEq] at hv;subst hv
   rw [hx] at e
   have e':=e
   obtain ⟨r,tid,vs,_,_,hv⟩:=e
   exact ⟨_,fin ⟨_,hv⟩,e'⟩
  ·rename_i l i hx
   simp only [Option.some.injEq] at hv;subst hv
   rw [hx] at e
   have e':=e
   obtain ⟨r,b,sz,n,_,_,_,_,hv⟩:=e
   exact ⟨_,fin ⟨_,hv⟩,e'⟩
  ·cases hv
 ·rename_i s x f h3 h4
  simp only at h3 h4;subst h3;subst h4
  simp only [bV,Sa,Cn] at hv
  obtain ⟨u,h1,h2⟩:=Wm hT (st:=st) _ _ _ _ v (Bs h.2 x) hv
  refine ⟨u, .inl ⟨by simp [Region.wanted],λw=>?_⟩,h2⟩
  have:=h1 w
  simp only [execOp,Sem.run_bind]
  first
   |(rw [this];rfl)
   |simp [this]
 ·cases hp
theorem tW {i:Nat} (h:td ops i=true):ec ops i=true:=by
 unfold td at h
 unfold ec
 split at h
 ·rename_i o ho
  split at h
  ·rename_i h1 h2
   simp only [h1,h2]
  ·cases h
 ·cases h
theorem We (hT:Cf P T) (q:Bool) {Q:Exit->Act->World->Prop} (hQ: ∀c a w,¬Q (.panic c) a w) (bS:Region.noSelect ops=true) {n:Nat} {st1:St} :
  ∀(l:List Nat) (Ad:Array Bool) (st:St) (a:Act) (w:World),Ef T Γ ops (Fh q ops l Ad) st=some st1->Rel X st a w->
   (∀a w,Rel X st1 a w->wpAny P .any ops Q n (Ej (Fh q ops l Ad) Ad) a w)->wpAny P .any ops Q ((Fh q ops l Ad).length+n) Ad a w
 | [],Ad,st,a,w,he,hr,hK=>by
  simp only [Fh,Ef,Option.some.injEq] at he
  subst he
  simp only [Fh,List.length_nil,Nat.zero_add]
  exact hK a w hr
 |k::l,Ad,st,a,w,he,hr,hK=>by
  simp only [Fh] at he hK⊢
  split
  ·rename_i hc
   rw [if_pos hc] at he hK
   simp only [Bool.and_eq_true] at hc
   obtain ⟨h0,h1,h2⟩:=hc
   have hp:ec ops k=true:=by
    cases q with
    |true=>exact h0
    |false=>exact tW h0
   simp only [Ef] at he
   split at he
   ·cases he
   rename_i o ho
   split at he
   rotate_left
   ·cases he
   rename_i v hv
   obtain ⟨π,hr⟩:=hr
   obtain ⟨u,hy,hu⟩:=xr (Γ:=Γ) hT hr ho hp hv
   rw [List.length_cons,show (Fh q ops l (Ad.setIfInBounds k true)).length+1+n=((Fh q ops l (Ad.setIfInBounds k true)).length+n)+1 by omega]
   refine wpAny_take ho bS h2 h1 (λc a w hq=>absurd hq (hQ c _ w)) hy ?_
   exact We hT q hQ bS l _ _ _ _ he ⟨π,hr.put o.dst hu⟩ hK
  ·rename_i hc
   rw [if_neg hc] at he hK
   exact We hT q hQ bS l Ad st a w he hr hK
theorem fC (hT:Cf P T) (Mk:Hf P Γ) {Q:Exit->Act->World->Prop} {K:St->Prop} (hK: ∀st a w,K st->Rel X st a w->Q .normal a w):
  ∀(f:Nat) (Ad:Array Bool) (st:St) (a:Act) (w:World),anyS T Γ ops K f Ad st->Rel X st a w->wpAny P .any ops Q f Ad a w
 |0,Ad,st,a,w,h,hr=>⟨h.1,hK _ _ _ h.2 hr⟩
 |f+1,Ad,st,a,w,h,hr=>by
  refine ⟨λh0=>absurd h0 h.1,λi hi=>?_⟩
  obtain ⟨o,st',ho,he,eY⟩:=h.2 i hi
  obtain ⟨π,hr⟩:=hr
  unfold wpOp
  simp only [ho]
  exact Ve hT Mk hr o he λa' w' h'=>fC hT Mk hK f _ _ _ _ eY h'
theorem zU (hT:Cf P T) (Mk:Hf P Γ) (hm:P.follows .mixedOrders=true) {Q:Exit->Act->World->Prop} {id:Nat} {draw:Bool} {st:St} {K:St->Prop} {a:Act} (h:Rel X st a w)
  (he:sj T Γ ops draw st K) (hQ: ∀st' a' w',K st'->Rel X st' a' w'->Q .normal a' w'):(Code.region id ops draw).wp P Q a w:=by
 rcases he with ⟨st',h1,h2⟩|⟨rfl,bS,bH,h1,h2⟩
 ·exact jt hT Mk hm h h1 λa' w' h'=>hQ st' a' w' h2 h'
 ·refine wp_mono (Q:= λe a w=>e= .normal/\Q .normal a w) ?_ λe a w h=>h.1▸h.2
  refine wp_region_any hm ?_
  have KN:Rel X st a {w with drawn:=w.drawn+1} :=by
   obtain ⟨π,h⟩:=h
   exact ⟨π,h.quiet ⟨rfl,rfl,rfl,Nat.le_refl _,λ_ _=>rfl⟩⟩
  have hlen:(Kh ops).length<=ops.size:=by
   have:=Xy (ops:=ops) (!dT false ops) (List.range ops.size) (Array.replicate ops.size false)
   rw [List.length_range] at this
   exact this
  have:=We hT (!dT false ops) (X:=X) (P:=P) (T:=T) (Γ:=Γ) (Q:= λe a w=>e= .normal/\Q .normal a w) (n:=ops.size-(Kh ops).length) (st1:=bH) (λc a w hq=>by cases hq.1) bS (List.range ops.size) (Array.replicate ops.size false) st a _ h1 KN λa' w' h'=>
   fC hT Mk (λst' a' w' hk hr=>⟨rfl,hQ st' a' w' hk hr⟩) _ _ _ _ _ h2 h'
  have e:(Fh (!dT false ops) ops (List.range ops.size) (Array.replicate ops.size false)).length+(ops.size-(Kh ops).length)=ops.size:=by
   have e2:(Fh (!dT false ops) ops (List.range ops.size) (Array.replicate ops.size false)).length=(Kh ops).length:=rfl
   omega
  rw [e] at this
  exact this
end
end Go.Proofs.Ytjbdmibbbpdnnaa
