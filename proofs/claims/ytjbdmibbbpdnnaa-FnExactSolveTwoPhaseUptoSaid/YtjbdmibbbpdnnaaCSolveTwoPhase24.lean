/-
  Part 25 of the proof that the statement FnExactSolveTwoPhase holds.
-/
import Derived.Test.YtjbdmibbbpdnnaaCSolveTwoPhase23
namespace Go.Proofs.Ytjbdmibbbpdnnaa
open Go.RowKit
section
variable {P:Program} {T:Tab} {Γ:Env} {X:Ctx} {w w':World} {π:Pi} {ops:Array Oper} {hd tl:List Nat}
structure Sz (ops:Array Oper) (tl fl:List Nat) (Ad:Array Bool):Prop where
 size:Ad.size=ops.size
 done: ∀i,i∈fl->Ad.getD i false=true
 closed: ∀j oj,ops[j]?=some oj->Ad.getD j false=true-> ∀e∈oj.after,Region.binds .any e=true->Ad.getD e.on false=true
 tail: ∀t,t∈tl->Ad.getD t true=false
theorem Sz.set {fl:List Nat} {i:Nat} {Ad:Array Bool} (inv:Sz ops tl fl Ad) (hi:i∈Region.ready .any ops Ad) (Iv:i∉tl):Sz ops tl fl (Ad.setIfInBounds i true):=by
 obtain ⟨_,oi,hoi,Ir⟩:=mem_ready.1 hi
 refine ⟨by simp [inv.size],λk hk=>getD_set_true (inv.done k hk),λj oj hj hl e he hb=>?_,λt ht=>by
  have Et:i≠t:= λe=>Iv (by rw [e];exact ht)
  rw [getD_set_ne true Et];exact inv.tail t ht⟩
 by_cases fv:i=j
 ·subst fv
  have:oj=oi:=Option.some.inj (hj.symm.trans hoi)
  subst this
  exact getD_set_true (Ir e he hb)
 ·rw [getD_set_ne false fv] at hl
  exact getD_set_true (inv.closed j oj hj hl e he hb)
theorem zr (k:Nat) (r:List Nat) (h:(r.all λt=>(k::r).any λk=>Region.waitsFor .any ops t k)=true): ∀t,t∈r-> ∃k',(k'=k\/k'∈r)/\Region.waitsFor .any ops t k'=true:= λt ht=>by
 obtain ⟨k',h1,h2⟩:=List.any_eq_true.1 (List.all_eq_true.1 h t ht)
 exact ⟨k',List.mem_cons.1 h1,h2⟩
theorem yy {fl:List Nat} {Ad:Array Bool} (hs:oV ops hd tl=true) (inv:Sz ops tl fl Ad) (Pr: ∀i,i∈hd->i<ops.size):
  ∀(d i:Nat),ops.size-i=d->i∈hd->Ad.getD i true=false-> ∀t,t∈tl->t∉Region.ready .any ops Ad:=by
 cases tl with
 |nil=>intro d i _ _ _ t ht;cases ht
 |cons f r=>
  simp only [oV,Bool.and_eq_true] at hs
  obtain ⟨mO,EL⟩:=hs
  intro d
  induction d using Nat.strongRecOn with
  |_ d ih=>
   intro i hd' hi KC t ht hr
   obtain ⟨_,ot,hot,Ir⟩:=mem_ready.1 hr
   rcases List.mem_cons.1 ht with rfl|iV
   ·have h1:=List.all_eq_true.1 mO i hi
    obtain ⟨j,hj,hj2⟩:=List.any_eq_true.1 h1
    simp only [Bool.and_eq_true,decide_eq_true_eq] at hj2
    obtain ⟨oj,VO,e,he,hb,YH⟩:=Region.waitsFor_spec hj2.2
    rcases List.mem_cons.1 hj with rfl|SA
    ·have:oj=ot:=Option.some.inj (VO.symm.trans hot)
     subst this
     have h2:=Ir e he hb
     rw [YH,getD_both KC] at h2
     cases h2
    ·cases hl:Ad.getD j false with
     |true=>
      have h2:=inv.closed j oj VO hl e he hb
      rw [YH,getD_both KC] at h2
      cases h2
     |false=>
      have hjs:j<Ad.size:=by rw [inv.size];exact Pr j SA
      have:=Pr j SA
      exact ih (ops.size-j) (by omega) j rfl SA (getD_in hjs hl) t (by simp) hr
   ·obtain ⟨k',h1,h2⟩:=zr f r EL t iV
    obtain ⟨o',ho',e,he,hb,YH⟩:=Region.waitsFor_spec h2
    have:o'=ot:=Option.some.inj (ho'.symm.trans hot)
    subst this
    have h3:=Ir e he hb
    have hk:k'∈f::r:=by rcases h1 with rfl|h1<;>simp [*]
    rw [YH,getD_both (inv.tail k' hk)] at h3
    cases h3
def KD (T:Tab) (Γ:Env) (ops:Array Oper) (hd:List Nat) (L:Array Bool->St->Prop):Nat->Array Bool->St->Prop
 |0,Ad,st=>L Ad st
 |f+1,Ad,st=>
  Region.ready .any ops Ad≠ []/\ ∀i∈Region.ready .any ops Ad,i∈hd/\ ∃o v,ops[i]?=some o/\cm T Γ ops st o=some v/\KD T Γ ops hd L f (Ad.setIfInBounds i true) (st.put o.dst v)
theorem vK (hT:Ch P T) (Nb:Hr P Γ) {Q:Exit->Act->World->Prop} {K:Act->World->Prop} {st:St} {a:Act} (h:Rel X st a w) {i:Nat} {o:Oper} {v:AV} (ho:ops[i]?=some o) (hv:cm T Γ ops st o=some v)
  (hK: ∀a' w',Rel X (st.put o.dst v) a' w'->K a' w'):wpOp P ops Q i K a w:=by
 obtain ⟨π,h⟩:=h
 have run:Tc T Γ st o=some v->o.wp P a w K Q:= λhe=>m9 (X:=X) (st':=st) (av:=v) (wC hT Nb h o v he) hK
 have skip:v= .at .skip->K (a.put o.dst undef) w:= λe=>by subst e;exact hK _ _ ⟨π,h.put o.dst yf⟩
 unfold wpOp
 simp only [ho]
 unfold cm at hv
 split at hv
 ·rename_i hg
  rw [if_pos (by simp [Region.wanted,hg])]
  exact .inl (run hv)
 ·rename_i j want hg
  split at hv
  ·rename_i b hb
   have hy:=(aD h j).1 b hb
   split at hv
   ·rename_i zG
    rw [if_pos (by simp only [Region.wanted,hg,hy];simpa using zG)]
    exact .inl (run hv)
   ·rename_i zG
    rw [if_neg (by simp only [Region.wanted,hg,hy];simpa using zG)]
    simp only [Option.some.injEq] at hv
    exact skip hv.symm
  ·rename_i hb
   have hy:=(aD h j).2 hb
   rw [if_neg (by simp [Region.wanted,hg,hy])]
   simp only [Option.some.injEq] at hv
   exact skip hv.symm
  ·cases hv
theorem fX (hT:Ch P T) (Nb:Hr P Γ) {g:Nat} {L:Array Bool->St->Prop} {Q:Exit->Act->World->Prop} (hL: ∀Ad st a w,L Ad st->Rel X st a w->wpAny P .any ops Q g Ad a w):
  ∀(f:Nat) (Ad:Array Bool) (st:St) (a:Act) (w:World),KD T Γ ops hd L f Ad st->Rel X st a w->wpAny P .any ops Q (f+g) Ad a w
 |0,Ad,st,a,w,h,hr=>by rw [Nat.zero_add];exact hL _ _ _ _ h hr
 |f+1,Ad,st,a,w,h,hr=>by
  rw [show f+1+g=(f+g)+1 by omega]
  refine ⟨λh0=>absurd h0 h.1,λi hi=>?_⟩
  obtain ⟨_,o,v,ho,hv,Zt⟩:=h.2 i hi
  exact vK hT Nb hr ho hv λa' w' h'=>fX hT Nb hL f _ _ _ _ Zt h'
theorem z8 {fl:List Nat} {i:Nat} {oi:Oper} {v:AV} {L:Array Bool->St->Prop} (hi:ops[i]?=some oi) (hs:oV ops hd tl=true) (Pr: ∀i,i∈hd->i<ops.size) (Iv:i∈hd)
  (Ir: ∀j,j<ops.size->j∈fl\/j∈hd\/j∈tl) (wT: ∀j,j∈hd->j∉tl) (Acm: ∀Ad st,L Ad st-> ∀j∈Region.ready .any ops Ad,j∈tl):
  ∀(f:Nat) (Ad:Array Bool) (st:St),Sz ops tl fl Ad->
   (∀j oj,ops[j]?=some oj->j≠i->Ad.getD j true=false->(∀e∈oj.after,Region.binds .any e=true->e.on≠i)->oi.apart ops oj=true)->
   i∈Region.ready .any ops Ad->cm T Γ ops st oi=some v->
   KD T Γ ops hd L f (Ad.setIfInBounds i true) (st.put oi.dst v)->KD T Γ ops hd L (f+1) Ad st:=by
 intro f
 have Ae3: ∀Ad,Sz ops tl fl Ad->i∈Region.ready .any ops Ad-> ∀j,j∈Region.ready .any ops Ad->j∈hd:=by
  intro Ad inv hr j hj
  obtain ⟨KC,oj,VO,_⟩:=mem_ready.1 hj
  rcases Ir j (Array.getElem?_eq_some_iff.1 VO).1 with h|h|h
  ·have h1:=inv.done j h
   rw [getD_both KC] at h1;cases h1
  ·exact h
  ·exact absurd hj (yy hs inv Pr _ i rfl Iv (mem_ready.1 hr).1 j h)
 induction f with
 |zero=>
  intro Ad st inv _ hr hv Hh
  refine ⟨λh=>(by rw [h] at hr;cases hr),λj hj=>?_⟩
  have SA:=Ae3 Ad inv hr j hj
  refine ⟨SA,?_⟩
  by_cases ig:j=i
  ·subst ig;exact ⟨oi,v,hi,hv,Hh⟩
  ·exact absurd (Acm _ _ Hh j (ready_mono hj ig)) (wT j SA)
 |succ f ih=>
  intro Ad st inv iT hr hv Hh
  have KC:=(mem_ready.1 hr).1
  refine ⟨λh=>(by rw [h] at hr;cases hr),λj hj=>?_⟩
  have SA:=Ae3 Ad inv hr j hj
  refine ⟨SA,?_⟩
  by_cases ig:j=i
  ·subst ig;exact ⟨oi,v,hi,hv,Hh⟩
  ·obtain ⟨_,oj,vj,VO,hvj,Zt⟩:=Hh.2 j (ready_mono hj ig)
   obtain ⟨Acv,oj',Aiq,Ace⟩:=mem_ready.1 hj
   have:oj'=oj:=Option.some.inj (Aiq.symm.trans VO)
   subst this
   have o0: ∀e∈oj'.after,Region.binds .any e=true->e.on≠i:= λe he hb heq=>by
    have h1:=Ace e he hb
    rw [heq,getD_both KC] at h1
    cases h1
   obtain ⟨p1,p2,p3⟩:=Oper.apart_spec (iT j oj' VO ig Acv o0)
   rw [yC p1] at hvj
   refine ⟨oj',vj,VO,hvj,?_⟩
   have XN: ∀k ok,ops[k]?=some ok->k≠i->(Ad.setIfInBounds j true).getD k true=false->
     (∀e∈ok.after,Region.binds .any e=true->e.on≠i)->oi.apart ops ok=true:= λk ok hk hki Adq hno=>by
    refine iT k ok hk hki ?_ hno
    by_cases hjk:j=k
    ·subst hjk;exact Acv
    ·rw [getD_set_ne true hjk] at Adq;exact Adq
   refine ih (Ad.setIfInBounds j true) (st.put oj'.dst vj) (inv.set hj (wT j SA)) XN (ready_mono hr (Ne.symm ig)) (by rw [yC p3];exact hv) ?_
   rw [Array.setIfInBounds_comm _ _ ig,<-St.put_comm st v vj p2]
   exact Zt
theorem lS: ∀(l:List Nat) (Ad:Array Bool),jr ops l Ad=true-> ∀j∈Region.ready .any ops Ad,j∈l
 | [],Ad,h,j,hj=>by simp only [jr,List.isEmpty_iff] at h;rw [h] at hj;cases hj
 |k::r,Ad,h,j,hj=>by
  simp only [jr,Bool.and_eq_true,Bool.or_eq_true,decide_eq_true_eq] at h
  rcases h.1 with h1|h1
  ·rw [h1] at hj
   simp at hj
   simp [hj]
  ·by_cases e:j=k
   ·simp [e]
   ·exact List.mem_cons_of_mem _ (lS r _ h.2 j (ready_mono hj e))
theorem vT {fl:List Nat} (cf:Region.noSelect ops=true) (hs:oV ops hd tl=true) (Pr: ∀i,i∈hd->i<ops.size) (Ir: ∀j,j<ops.size->j∈fl\/j∈hd\/j∈tl) (wT: ∀j,j∈hd->j∉tl) (st':St):
  ∀(l:List Nat) (Ad:Array Bool) (st:St),(∀i,i∈l->i∈hd)->Sz ops tl fl Ad->kf ops tl l Ad=true->Ef T Γ ops l st=some st'->
  KD T Γ ops hd (λtS s=>jr ops tl tS=true/\s=st') l.length Ad st
 | [],Ad,st,_,_,hB,he=>by
  simp only [Ef,Option.some.injEq] at he
  exact ⟨by simpa [kf] using hB,he⟩
 |k::l,Ad,st,hl,inv,hB,he=>by
  simp only [kf,Bool.and_eq_true] at hB
  obtain ⟨⟨hr,hf⟩,hB'⟩:=hB
  have hkh:=hl k (by simp)
  have gE:k∈Region.ready .any ops Ad:=by simpa using hr
  simp only [Ef] at he
  split at he
  ·cases he
  ·rename_i o ho
   split at he
   ·rename_i v hv
    exact z8 ho hs Pr hkh Ir wT (λtS s hL=>lS tl tS hL.1) l.length Ad st inv (Region.free_spec ho hf) gE hv
     (vT cf hs Pr Ir wT st' l _ _ (λi hi=>hl i (by simp [hi])) (inv.set gE (wT k hkh)) hB' he)
   ·cases he
theorem tf {Q:Exit->Act->World->Prop} (hQ: ∀e a w,Q e a w->e= .normal) {k i:Nat} {x:Operand} {o:Oper} (ho:ops[k]?=some o) (lz:o.op= .extract x i) (hg:o.guard=none) {K:Act->World->Prop} {a:Act} {w:World}
  (h:wpOp P ops Q k K a w): ∃v,Yields P ops o v a/\K (a.put o.dst v) w:=by
 unfold wpOp at h
 simp only [ho] at h
 have hw:Region.wanted o (yielded ops a.tmps)=true:=by simp [Region.wanted,hg]
 rw [if_pos hw] at h
 rcases h with h|⟨_,a',w',h⟩
 ·unfold Oper.wp at h
  have hr: ∀w,(execOp a.eval o).run P w=(do pure (Next.value (<-Instr.extract (a.eval x) i))).run P w:= λw=>by unfold execOp;rw [lz]
  rw [hr] at h
  unfold Instr.extract at h hr
  split at h
  ·rename_i vs hx
   split at h
   ·rename_i v hv
    rw [hx] at hr
    simp only [hv] at hr
    exact ⟨v, .inl ⟨hw,λw=>(hr w).trans rfl⟩,h⟩
   ·exact h.elim
  ·exact h.elim
 ·cases hQ _ _ _ h
theorem Yx {Q:Exit->Act->World->Prop} (hQ: ∀e a w,Q e a w->e= .normal) (cf:Region.noSelect ops=true): ∀(l:List Nat) (Ad:Array Bool) (a:Act) (w:World),jr ops l Ad=true->wpOps P ops Q l a w->wpAny P .any ops Q l.length Ad a w
 | [],Ad,a,w,hB,h=>⟨by simpa [jr] using hB,h⟩
 |k::r,Ad,a,w,hB,h=>by
  simp only [jr,Bool.and_eq_true,Bool.or_eq_true,decide_eq_true_eq] at hB
  rw [wpOps_cons] at h
  rcases hB.1 with h0|⟨h1,h2,h3⟩
  ·refine ⟨λh1=>(by rw [h0] at h1;cases h1),λi hi=>?_⟩
   rw [h0] at hi
   have hik:i=k:=by simpa using hi
   subst hik
   exact wpOp_mono (λa' w' h'=>Yx hQ cf r _ a' w' hB.2 h') h
  ·unfold MS at h1
   split at h1
   ·rename_i o ho
    split at h1
    ·rename_i x i lz hg
     obtain ⟨v,hy,hk⟩:=tf hQ ho lz hg h
     exact wpAny_take ho cf h3 h2 (λc a w hq=>by cases hQ _ _ _ hq) hy (Yx hQ cf r _ _ w hB.2 hk)
    ·cases h1
   ·cases h1
theorem iO {P:Program} {o:Oper} {t:Tmp} {a:Act} (h:o.op= .move (.tmp t)) (hg:o.guard=none):Yields P ops o (a.tmps.getD t undef) a:=by
 refine .inl ⟨by simp [Region.wanted,hg],λw=>?_⟩
 unfold execOp
 rw [h]
 rfl
theorem tG {hd tl:List Nat} {i:Nat} (h:iW ops hd tl i=true): ∃o t,ops[i]?=some o/\o.op= .move (.tmp t)/\o.guard=none:=by
 unfold iW at h
 split at h
 ·rename_i o ho
  simp only [Bool.and_eq_true] at h
  have h1:=h.1
  split at h1
  ·rename_i t h2 h3
   exact ⟨o,t,ho,h2,h3⟩
  ·cases h1
 ·cases h
theorem c9 {q:Bool} {hd:List Nat} {Q:Exit->Act->World->Prop} (hQ: ∀c a w,¬Q (.panic c) a w) (cf:Region.noSelect ops=true) {n:Nat} {st1:St}
  (Zt: ∀Ad st a w,(∀j oj,ops[j]?=some oj->Ad.getD j false=true-> ∀e∈oj.after,Region.binds .any e=true->Ad.getD e.on false=true)->Ad.size=ops.size->kf ops tl hd Ad=true->st=st1->Rel X st a w->
   (∀j,Ad.getD j false=true↔j∈Px q Γ ops)->wpAny P .any ops Q n Ad a w):
  ∀(l dn:List Nat) (Ad:Array Bool) (st:St) (a:Act) (w:World),(∀j,j∈Px q Γ ops↔j∈dn\/j∈l)->(∀i,i∈l-> ∃o t,ops[i]?=some o/\o.op= .move (.tmp t)/\o.guard=none)->
   (∀j oj,ops[j]?=some oj->Ad.getD j false=true-> ∀e∈oj.after,Region.binds .any e=true->Ad.getD e.on false=true)->Ad.size=ops.size->(∀j,Ad.getD j false=true↔j∈dn)->
   iN ops tl hd l Ad=true->Ef T Γ ops l st=some st1->Rel X st a w->wpAny P .any ops Q (l.length+n) Ad a w
 | [],dn,Ad,st,a,w,hm,_,hc,Pr,QI,hf,he,hr=>by
  simp only [Ef,Option.some.injEq] at he
  rw [List.length_nil,Nat.zero_add]
  exact Zt Ad st a w hc Pr (by simpa [iN] using hf) he hr λj=>by rw [QI j,hm j];simp
 |k::l,dn,Ad,st,a,w,hm,hl,hc,Pr,QI,hf,he,hr=>by
  simp only [iN,Bool.and_eq_true] at hf
  obtain ⟨⟨h1,h2⟩,h3⟩:=hf
  obtain ⟨o,t,ho,lz,hg⟩:=hl k (by simp)
  have q7:k∈Region.ready .any ops Ad:=by simpa using h1
  obtain ⟨_,o',ho',Ir⟩:=mem_ready.1 q7
  have ho2:o'=o:=Option.some.inj (ho'.symm.trans ho)
  subst ho2
  have hks:k<Ad.size:=by rw [Pr];exact (Array.getElem?_eq_some_iff.1 ho).1
  simp only [Ef,ho] at he
  have hv:cm T Γ ops st o'=some (st.get t):=by simp only [cm,hg,Tc,Cp,lz];rfl
  rw [hv] at he
  rw [List.length_cons,show l.length+1+n=(l.length+n)+1 by omega]
  refine wpAny_take ho cf h2 h1 (λc a w hq=>absurd hq (hQ c _ w)) (iO lz hg) ?_
  obtain ⟨π,hr⟩:=hr
  refine c9 hQ cf Zt l (k::dn) _ _ _ _ (λj=>by rw [hm j,List.mem_cons,List.mem_cons];exact ⟨λh=>h.elim (λh=> .inl (.inr h)) (λh=>h.elim (λh=> .inl (.inl h)) .inr),λh=>h.elim (λh=>h.elim (λh=> .inr (.inl h)) .inl) (λh=> .inr (.inr h))⟩) (λi hi=>hl i (by simp [hi])) ?_ (by simp [Pr]) (λj=>?_) h3 he ⟨π,hr.put o'.dst (hr.2.tmps t)⟩
  ·intro j oj hj hlj e hem hb
   by_cases nX:k=j
   ·subst nX
    have:oj=o':=Option.some.inj (hj.symm.trans ho)
    subst this
    exact getD_set_true (Ir e hem hb)
   ·rw [getD_set_ne false nX] at hlj
    exact getD_set_true (hc j oj hj hlj e hem hb)
  ·by_cases nX:k=j
   ·subst nX
    refine ⟨λ_=>by simp,λ_=>?_⟩
    simp [hks]
   ·rw [getD_set_ne false nX,QI j]
    simp [Ne.symm nX]
theorem bJ {ops:Array Oper} : ∀(a b:List Nat) (st st':St),Ef T Γ ops (a++b) st=some st'-> ∃s,Ef T Γ ops a st=some s/\Ef T Γ ops b s=some st'
 | [],b,st,st',h=>⟨st,rfl,h⟩
 |i::a,b,st,st',h=>by
  simp only [List.cons_append,Ef] at h⊢
  split at h
  ·cases h
  ·split at h
   ·exact bJ a b _ st' h
   ·cases h
theorem jV (hT:Ch P T) (Nb:Hr P Γ) (hm:P.follows .mixedOrders=true) {Q:Exit->Act->World->Prop} {id:Nat} {draw:Bool} {st st':St} {a:Act} (h:Rel X st a w)
  (he:Mb T Γ ops draw st=some st') (hQ: ∀a' w',Rel X st' a' w'->Q .normal a' w'):(Code.region id ops draw).wp P Q a w:=by
 unfold Mb at he
 cases draw with
 |false=>
  rw [if_neg (by simp)] at he
  exact wp_region_list (fi hT Nb ops.toList st st' a w h he hQ)
 |true=>
  rw [if_pos rfl] at he
  have go: ∀(q:Bool),eJ q Γ ops=true->(match Ef T Γ ops (eB q Γ ops) st with
    |some st'=>Jw T Γ ops (Ft q Γ ops) st'
    |none=>none)=some st'->(Code.region id ops true).wp P Q a w:=by
   intro q bL he
   split at he
   ·rename_i st1 h1
    simp only [eJ,Bool.and_eq_true,beq_iff_eq] at bL
    obtain ⟨⟨⟨cf,hlen⟩,XL⟩,Adn⟩:=bL
    refine wp_mono (Q:= λe a w=>e= .normal/\Q .normal a w) ?_ λe a w h=>h.1▸h.2
    refine wp_region_any hm ?_
    have MD:Rel X st a {w with drawn:=w.drawn+1} :=by
     obtain ⟨π,h⟩:=h
     exact ⟨π,h.quiet ⟨rfl,rfl,rfl,Nat.le_refl _,λ_ _=>rfl⟩⟩
    obtain ⟨s0,h0,h1⟩:=bJ _ _ _ _ h1
    have Iv: ∀i,i∈Xm q Γ ops->i<ops.size:= λi hi=>List.mem_range.1 (List.mem_filter.1 hi).1
    have Pr: ∀i,i∈Qa q Γ ops->i<ops.size:= λi hi=>Iv i (List.mem_filter.1 hi).1
    have Ir: ∀j,j<ops.size->j∈Px q Γ ops\/j∈Qa q Γ ops\/j∈Ft q Γ ops:= λj hj=>by
     by_cases ht:j∈Ft q Γ ops
     ·exact .inr (.inr ht)
     ·have hh:j∈Xm q Γ ops:=List.mem_filter.2 ⟨List.mem_range.2 hj,by simpa using ht⟩
      cases QJ:iW ops (Xm q Γ ops) (Ft q Γ ops) j with
      |true=>exact .inl (List.mem_filter.2 ⟨hh,QJ⟩)
      |false=>exact .inr (.inl (List.mem_filter.2 ⟨hh,by rw [QJ];rfl⟩))
    have VB: ∀j,j∈Xm q Γ ops->j∉Ft q Γ ops:= λj hj=>by
     have:=(List.mem_filter.1 hj).2
     simpa using this
    have wT: ∀j,j∈Qa q Γ ops->j∉Ft q Γ ops:= λj hj=>VB j (List.mem_filter.1 hj).1
    have Ack: ∀j,j∈Px q Γ ops->j∉Ft q Γ ops:= λj hj=>VB j (List.mem_filter.1 hj).1
    have YS: ∀t,t∈Ft q Γ ops->t<ops.size:=by
     intro t ht
     unfold Ft at ht
     have: ∀(l:List Nat) (acc:List Nat),(∀i,i∈acc->i<ops.size)->(∀i,i∈l->i<ops.size)-> ∀i,i∈l.foldl (init:=acc) (λacc i=>match ops[i]? with
       |some o=>if NA q Γ o||o.after.any (λe=>Region.binds .any e&&acc.contains e.on) then acc++ [i] else acc
       |none=>acc)->i<ops.size:=by
      intro l
      induction l with
      |nil=>intro acc h1 _ i hi;exact h1 i hi
      |cons x l ih=>
       intro acc h1 h2 i hi
       simp only [List.foldl_cons] at hi
       refine ih _ ?_ (λi hi=>h2 i (by simp [hi])) i hi
       intro k hk
       split at hk
       ·split at hk
        ·rcases List.mem_append.1 hk with hk|hk
         ·exact h1 k hk
         ·simp at hk;rw [hk];exact h2 x (by simp)
        ·exact h1 k hk
       ·exact h1 k hk
     exact this (List.range ops.size) [] (by simp) (λi hi=>List.mem_range.1 hi) t ht
    rw [<-hlen]
    refine c9 (q:=q) (X:=X) (T:=T) (Γ:=Γ) (tl:=Ft q Γ ops) (hd:=Qa q Γ ops) (st1:=s0) (λc a w hq=>by cases hq.1) cf ?_ (Px q Γ ops) [] _ st a _ (λj=>by simp)
     (λi hi=>tG (List.mem_filter.1 hi).2) (λj oj _ hl=>(by rw [hlen,getD_replicate_false] at hl;cases hl)) (by simp [hlen]) (λj=>by rw [hlen,getD_replicate_false];simp) (by rw [hlen];exact XL) h0 MD
    intro Ad s a' w' hc Yj Acr hs hr QJ
    subst hs
    have Ajs:Sz ops (Ft q Γ ops) (Px q Γ ops) Ad:=
     ⟨Yj,λi hi=>(QJ i).2 hi,hc,λt ht=>getD_in (by rw [Yj];exact YS t ht) (by
      cases hg:Ad.getD t false with
      |false=>rfl
      |true=>exact absurd ht (Ack t ((QJ t).1 hg)))⟩
    have HA:=vT (T:=T) (Γ:=Γ) cf Adn Pr Ir wT st1 (Qa q Γ ops) _ s (λi hi=>hi) Ajs Acr h1
    exact fX (X:=X) (P:=P) (Q:= λe a w=>e= .normal/\Q .normal a w) (g:=(Ft q Γ ops).length) hT Nb (λAd s a' w' hL hr=>by
     obtain ⟨Aj3,rfl⟩:=hL
     exact Yx (λe a w h=>h.1) cf (Ft q Γ ops) Ad a' w' Aj3 (fe hT Nb _ _ st' a' w' hr he λa w h=>⟨rfl,hQ a w h⟩)) _ _ _ _ _ HA hr
   ·cases he
  split at he
  ·rename_i bL;exact go false bL he
  ·split at he
   ·rename_i bL;exact go true bL he
   ·cases he
theorem Yq (q:Bool): ∀(l:List Nat) (Ad:Array Bool),(Fp q ops l Ad).length<=l.length
 | [],_=>Nat.le_refl _
 |i::r,Ad=>by
  simp only [Fp]
  split
  ·simp only [List.length_cons];have:=Yq q r (Ad.setIfInBounds i true);omega
  ·simp only [List.length_cons];have:=Yq q r Ad;omega
theorem xY (hT:Ch P T) {st:St} {a:Act} (h:Al X π st a w) {i:Nat} {o:Oper} (ho:ops[i]?=some o) (hp:eG ops i=true) {v:AV} (hv:cm T Γ ops st o=some v):
  ∃u,Yields P ops o u a/\Ar X w π st.heap v u:=by
 unfold eG at hp
 rw [ho] at hp
 simp only at hp
 obtain ⟨dst,op,ty,pos,af,gd⟩:=o
 split at hp
 ·rename_i t h3 h4
  simp only at h3 h4;subst h3;subst h4
  refine ⟨a.tmps.getD t undef,iO rfl rfl,?_⟩
  simp only [cm,Tc,Cp,Option.some.injEq] at hv
  subst hv
  exact h.2.tmps t
 ·rename_i x h3 h4
  simp only at h3 h4;subst h3;subst h4
  have e:=Bx h.2 x
  have fin:(∃ad,a.eval x= .pointer (some ad))->Yields P ops ⟨dst, .nilCheck x,ty,pos,af,none⟩ (a.eval x) a:= λ⟨ad,hx⟩=>
   .inl ⟨by simp [Region.wanted],λw=>by simp [execOp,hx]⟩
  simp only [cm,Tc,Cp] at hv
  split at hv
  ·rename_i fr τ y hx
   simp only [Option.some.injEq] at hv;subst hv
   rw [hx] at e
   have e':=e
   obtain ⟨cs,hc,hv⟩:=e
   simp only [Cells] at hc
   obtain ⟨g,o,rfl,_⟩:=hc
   simp only [Av,Ty.Ac,Bool.false_eq_true,if_false,List.headD_cons] at hv
   exact ⟨_,fin ⟨_,hv⟩,e'⟩
  ·rename_i fr τ y hx
   simp only [Option.some.injEq] at hv;subst hv
   rw [hx] at e
   obtain ⟨cs,hc,hv⟩:=e
   simp only [Cells] at hc
   rcases hc with ⟨h0,_⟩|⟨y',g,o,h0,rfl,hr⟩
   ·cases h0
   simp only [Option.some.injEq] at h0;subst h0
   simp only [Av,Ty.Ac,Bool.false_eq_true,if_false,List.headD_cons] at hv
   exact ⟨_,fin ⟨_,hv⟩,[_],⟨g,o,rfl,hr⟩,by rw [hv];simp [Av,Ty.Ac]⟩
  ·rename_i l i hx
   simp only [Option.some.injEq] at hv;subst hv
   rw [hx] at e
   have e':=e
   obtain ⟨r,tid,vs,_,_,hv⟩:=e
   exact ⟨_,fin ⟨_,hv⟩,e'⟩
  ·rename_i l i hx
   simp only [Option.some.injEq] at hv;subst hv
   rw [hx] at e
   have e':=e
   obtain ⟨r,b,sz,n,_,_,_,_,hv⟩:=e
   exact ⟨_,fin ⟨_,hv⟩,e'⟩
  ·cases hv
 ·rename_i s x f h3 h4
  simp only at h3 h4;subst h3;subst h4
  simp only [cm,Tc,Cp] at hv
  obtain ⟨u,h1,h2⟩:=Xh hT (st:=st) _ _ _ _ v (Bx h.2 x) hv
  refine ⟨u, .inl ⟨by simp [Region.wanted],λw=>?_⟩,h2⟩
  have:=h1 w
  simp only [execOp,Sem.run_bind]
  first
   |(rw [this];rfl)
   |simp [this]
 ·cases hp
theorem uq {i:Nat} (h:tH ops i=true):eG ops i=true:=by
 unfold tH at h
 unfold eG
 split at h
 ·rename_i o ho
  split at h
  ·rename_i h1 h2
   simp only [h1,h2]
  ·cases h
 ·cases h
theorem Wx (hT:Ch P T) (q:Bool) {Q:Exit->Act->World->Prop} (hQ: ∀c a w,¬Q (.panic c) a w) (cf:Region.noSelect ops=true) {n:Nat} {st1:St} :
  ∀(l:List Nat) (Ad:Array Bool) (st:St) (a:Act) (w:World),Ef T Γ ops (Fp q ops l Ad) st=some st1->Rel X st a w->
   (∀a w,Rel X st1 a w->wpAny P .any ops Q n (Ek (Fp q ops l Ad) Ad) a w)->wpAny P .any ops Q ((Fp q ops l Ad).length+n) Ad a w
 | [],Ad,st,a,w,he,hr,hK=>by
  simp only [Fp,Ef,Option.some.injEq] at he
  subst he
  simp only [Fp,List.length_nil,Nat.zero_add]
  exact hK a w hr
 |k::l,Ad,st,a,w,he,hr,hK=>by
  simp only [Fp] at he hK⊢
  split
  ·rename_i hc
   rw [if_pos hc] at he hK
   simp only [Bool.and_eq_true] at hc
   obtain ⟨h0,h1,h2⟩:=hc
   have hp:eG ops k=true:=by
    cases q with
    |true=>exact h0
    |false=>exact uq h0
   simp only [Ef] at he
   split at he
   ·cases he
   rename_i o ho
   split at he
   rotate_left
   ·cases he
   rename_i v hv
   obtain ⟨π,hr⟩:=hr
   obtain ⟨u,hy,hu⟩:=xY (Γ:=Γ) hT hr ho hp hv
   rw [List.length_cons,show (Fp q ops l (Ad.setIfInBounds k true)).length+1+n=((Fp q ops l (Ad.setIfInBounds k true)).length+n)+1 by omega]
   refine wpAny_take ho cf h2 h1 (λc a w hq=>absurd hq (hQ c _ w)) hy ?_
   exact Wx hT q hQ cf l _ _ _ _ he ⟨π,hr.put o.dst hu⟩ hK
  ·rename_i hc
   rw [if_neg hc] at he hK
   exact Wx hT q hQ cf l Ad st a w he hr hK
theorem fY (hT:Ch P T) (Nb:Hr P Γ) {Q:Exit->Act->World->Prop} {K:St->Prop} (hK: ∀st a w,K st->Rel X st a w->Q .normal a w):
  ∀(f:Nat) (Ad:Array Bool) (st:St) (a:Act) (w:World),anyS T Γ ops K f Ad st->Rel X st a w->wpAny P .any ops Q f Ad a w
 |0,Ad,st,a,w,h,hr=>⟨h.1,hK _ _ _ h.2 hr⟩
 |f+1,Ad,st,a,w,h,hr=>by
  refine ⟨λh0=>absurd h0 h.1,λi hi=>?_⟩
  obtain ⟨o,st',ho,he,Zt⟩:=h.2 i hi
  obtain ⟨π,hr⟩:=hr
  unfold wpOp
  simp only [ho]
  exact Vy hT Nb hr o he λa' w' h'=>fY hT Nb hK f _ _ _ _ Zt h'
theorem BF (hT:Ch P T) (Nb:Hr P Γ) (hm:P.follows .mixedOrders=true) {Q:Exit->Act->World->Prop} {id:Nat} {draw:Bool} {st:St} {K:St->Prop} {a:Act} (h:Rel X st a w)
  (he:sF T Γ ops draw st K) (hQ: ∀st' a' w',K st'->Rel X st' a' w'->Q .normal a' w'):(Code.region id ops draw).wp P Q a w:=by
 rcases he with ⟨st',h1,h2⟩|⟨rfl,cf,bY,h1,h2⟩
 ·exact jV hT Nb hm h h1 λa' w' h'=>hQ st' a' w' h2 h'
 ·refine wp_mono (Q:= λe a w=>e= .normal/\Q .normal a w) ?_ λe a w h=>h.1▸h.2
  refine wp_region_any hm ?_
  have MD:Rel X st a {w with drawn:=w.drawn+1} :=by
   obtain ⟨π,h⟩:=h
   exact ⟨π,h.quiet ⟨rfl,rfl,rfl,Nat.le_refl _,λ_ _=>rfl⟩⟩
  have hlen:(Kp ops).length<=ops.size:=by
   have:=Yq (ops:=ops) (!eu false ops) (List.range ops.size) (Array.replicate ops.size false)
   rw [List.length_range] at this
   exact this
  have:=Wx hT (!eu false ops) (X:=X) (P:=P) (T:=T) (Γ:=Γ) (Q:= λe a w=>e= .normal/\Q .normal a w) (n:=ops.size-(Kp ops).length) (st1:=bY) (λc a w hq=>by cases hq.1) cf (List.range ops.size) (Array.replicate ops.size false) st a _ h1 MD λa' w' h'=>
   fY hT Nb (λst' a' w' hk hr=>⟨rfl,hQ st' a' w' hk hr⟩) _ _ _ _ _ h2 h'
  have e:(Fp (!eu false ops) ops (List.range ops.size) (Array.replicate ops.size false)).length+(ops.size-(Kp ops).length)=ops.size:=by
   have e2:(Fp (!eu false ops) ops (List.range ops.size) (Array.replicate ops.size false)).length=(Kp ops).length:=rfl
   omega
  rw [e] at this
  exact this
end
end Go.Proofs.Ytjbdmibbbpdnnaa
