/-
  Part 25 of the proof that the statement FnExactPhaseOneWord holds.
-/
import Derived.Test.YtjbdmibbbpdnnaaCPhaseOneWord23
namespace Go.Proofs.Ytjbdmibbbpdnnaa
open Go.RowKit
section
variable {P:Program} {T:Tab} {Γ:Env} {X:Ctx} {w w':World} {π:Pi} {ops:Array Oper} {hd tl:List Nat}
structure Rt (ops:Array Oper) (tl fl:List Nat) (Ad:Array Bool):Prop where
 size:Ad.size=ops.size
 done: ∀i,i∈fl->Ad.getD i false=true
 closed: ∀j oj,ops[j]?=some oj->Ad.getD j false=true-> ∀e∈oj.after,Region.binds .any e=true->Ad.getD e.on false=true
 tail: ∀t,t∈tl->Ad.getD t true=false
theorem Rt.set {fl:List Nat} {i:Nat} {Ad:Array Bool} (inv:Rt ops tl fl Ad) (hi:i∈Region.ready .any ops Ad) (Ke:i∉tl):Rt ops tl fl (Ad.setIfInBounds i true):=by
 obtain ⟨_,oi,hoi,Hz⟩:=mem_ready.1 hi
 refine ⟨by simp [inv.size],λk hk=>getD_set_true (inv.done k hk),λj oj hj hl e he hb=>?_,λt ht=>by
  have El:i≠t:= λe=>Ke (by rw [e];exact ht)
  rw [getD_set_ne true El];exact inv.tail t ht⟩
 by_cases ei:i=j
 ·subst ei
  have:oj=oi:=Option.some.inj (hj.symm.trans hoi)
  subst this
  exact getD_set_true (Hz e he hb)
 ·rw [getD_set_ne false ei] at hl
  exact getD_set_true (inv.closed j oj hj hl e he hb)
theorem xX (k:Nat) (r:List Nat) (h:(r.all λt=>(k::r).any λk=>Region.waitsFor .any ops t k)=true): ∀t,t∈r-> ∃k',(k'=k\/k'∈r)/\Region.waitsFor .any ops t k'=true:= λt ht=>by
 obtain ⟨k',h1,h2⟩:=List.any_eq_true.1 (List.all_eq_true.1 h t ht)
 exact ⟨k',List.mem_cons.1 h1,h2⟩
theorem xc {fl:List Nat} {Ad:Array Bool} (hs:nL ops hd tl=true) (inv:Rt ops tl fl Ad) (Ps: ∀i,i∈hd->i<ops.size):
  ∀(d i:Nat),ops.size-i=d->i∈hd->Ad.getD i true=false-> ∀t,t∈tl->t∉Region.ready .any ops Ad:=by
 cases tl with
 |nil=>intro d i _ _ _ t ht;cases ht
 |cons f r=>
  simp only [nL,Bool.and_eq_true] at hs
  obtain ⟨lI,BD⟩:=hs
  intro d
  induction d using Nat.strongRecOn with
  |_ d ih=>
   intro i ZI hi GP t ht hr
   obtain ⟨_,ot,hot,Hz⟩:=mem_ready.1 hr
   rcases List.mem_cons.1 ht with rfl|gT
   ·have h1:=List.all_eq_true.1 lI i hi
    obtain ⟨j,hj,hj2⟩:=List.any_eq_true.1 h1
    simp only [Bool.and_eq_true,decide_eq_true_eq] at hj2
    obtain ⟨oj,RR,e,he,hb,UF⟩:=Region.waitsFor_spec hj2.2
    rcases List.mem_cons.1 hj with rfl|OD
    ·have:oj=ot:=Option.some.inj (RR.symm.trans hot)
     subst this
     have h2:=Hz e he hb
     rw [UF,getD_both GP] at h2
     cases h2
    ·cases hl:Ad.getD j false with
     |true=>
      have h2:=inv.closed j oj RR hl e he hb
      rw [UF,getD_both GP] at h2
      cases h2
     |false=>
      have hjs:j<Ad.size:=by rw [inv.size];exact Ps j OD
      have:=Ps j OD
      exact ih (ops.size-j) (by omega) j rfl OD (getD_in hjs hl) t (by simp) hr
   ·obtain ⟨k',h1,h2⟩:=xX f r BD t gT
    obtain ⟨o',XS,e,he,hb,UF⟩:=Region.waitsFor_spec h2
    have:o'=ot:=Option.some.inj (XS.symm.trans hot)
    subst this
    have h3:=Hz e he hb
    have hk:k'∈f::r:=by rcases h1 with rfl|h1<;>simp [*]
    rw [UF,getD_both (inv.tail k' hk)] at h3
    cases h3
def GR (T:Tab) (Γ:Env) (ops:Array Oper) (hd:List Nat) (L:Array Bool->St->Prop):Nat->Array Bool->St->Prop
 |0,Ad,st=>L Ad st
 |f+1,Ad,st=>
  Region.ready .any ops Ad≠ []/\ ∀i∈Region.ready .any ops Ad,i∈hd/\ ∃o v,ops[i]?=some o/\bt T Γ ops st o=some v/\GR T Γ ops hd L f (Ad.setIfInBounds i true) (st.put o.dst v)
theorem ug (hT:Ca P T) (Mb:Hb P Γ) {Q:Exit->Act->World->Prop} {K:Act->World->Prop} {st:St} {a:Act} (h:Rel X st a w) {i:Nat} {o:Oper} {v:AV} (ho:ops[i]?=some o) (hv:bt T Γ ops st o=some v)
  (hK: ∀a' w',Rel X (st.put o.dst v) a' w'->K a' w'):wpOp P ops Q i K a w:=by
 obtain ⟨π,h⟩:=h
 have run:Rw T Γ st o=some v->o.wp P a w K Q:= λhe=>l4 (X:=X) (st':=st) (av:=v) (va hT Mb h o v he) hK
 have skip:v= .at .skip->K (a.put o.dst undef) w:= λe=>by subst e;exact hK _ _ ⟨π,h.put o.dst wS⟩
 unfold wpOp
 simp only [ho]
 unfold bt at hv
 split at hv
 ·rename_i hg
  rw [if_pos (by simp [Region.wanted,hg])]
  exact .inl (run hv)
 ·rename_i j want hg
  split at hv
  ·rename_i b hb
   have hy:=(Zm h j).1 b hb
   split at hv
   ·rename_i yk
    rw [if_pos (by simp only [Region.wanted,hg,hy];simpa using yk)]
    exact .inl (run hv)
   ·rename_i yk
    rw [if_neg (by simp only [Region.wanted,hg,hy];simpa using yk)]
    simp only [Option.some.injEq] at hv
    exact skip hv.symm
  ·rename_i hb
   have hy:=(Zm h j).2 hb
   rw [if_neg (by simp [Region.wanted,hg,hy])]
   simp only [Option.some.injEq] at hv
   exact skip hv.symm
  ·cases hv
theorem eT (hT:Ca P T) (Mb:Hb P Γ) {g:Nat} {L:Array Bool->St->Prop} {Q:Exit->Act->World->Prop} (hL: ∀Ad st a w,L Ad st->Rel X st a w->wpAny P .any ops Q g Ad a w):
  ∀(f:Nat) (Ad:Array Bool) (st:St) (a:Act) (w:World),GR T Γ ops hd L f Ad st->Rel X st a w->wpAny P .any ops Q (f+g) Ad a w
 |0,Ad,st,a,w,h,hr=>by rw [Nat.zero_add];exact hL _ _ _ _ h hr
 |f+1,Ad,st,a,w,h,hr=>by
  rw [show f+1+g=(f+g)+1 by omega]
  refine ⟨λh0=>absurd h0 h.1,λi hi=>?_⟩
  obtain ⟨_,o,v,ho,hv,eo⟩:=h.2 i hi
  exact ug hT Mb hr ho hv λa' w' h'=>eT hT Mb hL f _ _ _ _ eo h'
theorem xH {fl:List Nat} {i:Nat} {oi:Oper} {v:AV} {L:Array Bool->St->Prop} (hi:ops[i]?=some oi) (hs:nL ops hd tl=true) (Ps: ∀i,i∈hd->i<ops.size) (Ke:i∈hd)
  (Hz: ∀j,j<ops.size->j∈fl\/j∈hd\/j∈tl) (vF: ∀j,j∈hd->j∉tl) (ZL: ∀Ad st,L Ad st-> ∀j∈Region.ready .any ops Ad,j∈tl):
  ∀(f:Nat) (Ad:Array Bool) (st:St),Rt ops tl fl Ad->
   (∀j oj,ops[j]?=some oj->j≠i->Ad.getD j true=false->(∀e∈oj.after,Region.binds .any e=true->e.on≠i)->oi.apart ops oj=true)->
   i∈Region.ready .any ops Ad->bt T Γ ops st oi=some v->
   GR T Γ ops hd L f (Ad.setIfInBounds i true) (st.put oi.dst v)->GR T Γ ops hd L (f+1) Ad st:=by
 intro f
 have Aaz: ∀Ad,Rt ops tl fl Ad->i∈Region.ready .any ops Ad-> ∀j,j∈Region.ready .any ops Ad->j∈hd:=by
  intro Ad inv hr j hj
  obtain ⟨GP,oj,RR,_⟩:=mem_ready.1 hj
  rcases Hz j (Array.getElem?_eq_some_iff.1 RR).1 with h|h|h
  ·have h1:=inv.done j h
   rw [getD_both GP] at h1;cases h1
  ·exact h
  ·exact absurd hj (xc hs inv Ps _ i rfl Ke (mem_ready.1 hr).1 j h)
 induction f with
 |zero=>
  intro Ad st inv _ hr hv Hh
  refine ⟨λh=>(by rw [h] at hr;cases hr),λj hj=>?_⟩
  have OD:=Aaz Ad inv hr j hj
  refine ⟨OD,?_⟩
  by_cases oO:j=i
  ·subst oO;exact ⟨oi,v,hi,hv,Hh⟩
  ·exact absurd (ZL _ _ Hh j (ready_mono hj oO)) (vF j OD)
 |succ f ih=>
  intro Ad st inv gS hr hv Hh
  have GP:=(mem_ready.1 hr).1
  refine ⟨λh=>(by rw [h] at hr;cases hr),λj hj=>?_⟩
  have OD:=Aaz Ad inv hr j hj
  refine ⟨OD,?_⟩
  by_cases oO:j=i
  ·subst oO;exact ⟨oi,v,hi,hv,Hh⟩
  ·obtain ⟨_,oj,vj,RR,hvj,eo⟩:=Hh.2 j (ready_mono hj oO)
   obtain ⟨ZS,oj',Afs,ZE⟩:=mem_ready.1 hj
   have:oj'=oj:=Option.some.inj (Afs.symm.trans RR)
   subst this
   have mM: ∀e∈oj'.after,Region.binds .any e=true->e.on≠i:= λe he hb heq=>by
    have h1:=ZE e he hb
    rw [heq,getD_both GP] at h1
    cases h1
   obtain ⟨p1,p2,p3⟩:=Oper.apart_spec (gS j oj' RR oO ZS mM)
   rw [xg p1] at hvj
   refine ⟨oj',vj,RR,hvj,?_⟩
   have TN: ∀k ok,ops[k]?=some ok->k≠i->(Ad.setIfInBounds j true).getD k true=false->
     (∀e∈ok.after,Region.binds .any e=true->e.on≠i)->oi.apart ops ok=true:= λk ok hk hki Aal XR=>by
    refine gS k ok hk hki ?_ XR
    by_cases hjk:j=k
    ·subst hjk;exact ZS
    ·rw [getD_set_ne true hjk] at Aal;exact Aal
   refine ih (Ad.setIfInBounds j true) (st.put oj'.dst vj) (inv.set hj (vF j OD)) TN (ready_mono hr (Ne.symm oO)) (by rw [xg p3];exact hv) ?_
   rw [Array.setIfInBounds_comm _ _ oO,<-St.put_comm st v vj p2]
   exact eo
theorem kQ: ∀(l:List Nat) (Ad:Array Bool),iA ops l Ad=true-> ∀j∈Region.ready .any ops Ad,j∈l
 | [],Ad,h,j,hj=>by simp only [iA,List.isEmpty_iff] at h;rw [h] at hj;cases hj
 |k::r,Ad,h,j,hj=>by
  simp only [iA,Bool.and_eq_true,Bool.or_eq_true,decide_eq_true_eq] at h
  rcases h.1 with h1|h1
  ·rw [h1] at hj
   simp at hj
   simp [hj]
  ·by_cases e:j=k
   ·simp [e]
   ·exact List.mem_cons_of_mem _ (kQ r _ h.2 j (ready_mono hj e))
theorem uv {fl:List Nat} (bo:Region.noSelect ops=true) (hs:nL ops hd tl=true) (Ps: ∀i,i∈hd->i<ops.size) (Hz: ∀j,j<ops.size->j∈fl\/j∈hd\/j∈tl) (vF: ∀j,j∈hd->j∉tl) (st':St):
  ∀(l:List Nat) (Ad:Array Bool) (st:St),(∀i,i∈l->i∈hd)->Rt ops tl fl Ad->jg ops tl l Ad=true->Ea T Γ ops l st=some st'->
  GR T Γ ops hd (λsx s=>iA ops tl sx=true/\s=st') l.length Ad st
 | [],Ad,st,_,_,hB,he=>by
  simp only [Ea,Option.some.injEq] at he
  exact ⟨by simpa [jg] using hB,he⟩
 |k::l,Ad,st,hl,inv,hB,he=>by
  simp only [jg,Bool.and_eq_true] at hB
  obtain ⟨⟨hr,hf⟩,hB'⟩:=hB
  have hkh:=hl k (by simp)
  have fD:k∈Region.ready .any ops Ad:=by simpa using hr
  simp only [Ea] at he
  split at he
  ·cases he
  ·rename_i o ho
   split at he
   ·rename_i v hv
    exact xH ho hs Ps hkh Hz vF (λsx s hL=>kQ tl sx hL.1) l.length Ad st inv (Region.free_spec ho hf) fD hv
     (uv bo hs Ps Hz vF st' l _ _ (λi hi=>hl i (by simp [hi])) (inv.set fD (vF k hkh)) hB' he)
   ·cases he
theorem rV {Q:Exit->Act->World->Prop} (hQ: ∀e a w,Q e a w->e= .normal) {k i:Nat} {x:Operand} {o:Oper} (ho:ops[k]?=some o) (lH:o.op= .extract x i) (hg:o.guard=none) {K:Act->World->Prop} {a:Act} {w:World}
  (h:wpOp P ops Q k K a w): ∃v,Yields P ops o v a/\K (a.put o.dst v) w:=by
 unfold wpOp at h
 simp only [ho] at h
 have hw:Region.wanted o (yielded ops a.tmps)=true:=by simp [Region.wanted,hg]
 rw [if_pos hw] at h
 rcases h with h|⟨_,a',w',h⟩
 ·unfold Oper.wp at h
  have hr: ∀w,(execOp a.eval o).run P w=(do pure (Next.value (<-Instr.extract (a.eval x) i))).run P w:= λw=>by unfold execOp;rw [lH]
  rw [hr] at h
  unfold Instr.extract at h hr
  split at h
  ·rename_i vs hx
   split at h
   ·rename_i v hv
    rw [hx] at hr
    simp only [hv] at hr
    exact ⟨v, .inl ⟨hw,λw=>(hr w).trans rfl⟩,h⟩
   ·exact h.elim
  ·exact h.elim
 ·cases hQ _ _ _ h
theorem Xk {Q:Exit->Act->World->Prop} (hQ: ∀e a w,Q e a w->e= .normal) (bo:Region.noSelect ops=true): ∀(l:List Nat) (Ad:Array Bool) (a:Act) (w:World),iA ops l Ad=true->wpOps P ops Q l a w->wpAny P .any ops Q l.length Ad a w
 | [],Ad,a,w,hB,h=>⟨by simpa [iA] using hB,h⟩
 |k::r,Ad,a,w,hB,h=>by
  simp only [iA,Bool.and_eq_true,Bool.or_eq_true,decide_eq_true_eq] at hB
  rw [wpOps_cons] at h
  rcases hB.1 with h0|⟨h1,h2,h3⟩
  ·refine ⟨λh1=>(by rw [h0] at h1;cases h1),λi hi=>?_⟩
   rw [h0] at hi
   have hik:i=k:=by simpa using hi
   subst hik
   exact wpOp_mono (λa' w' h'=>Xk hQ bo r _ a' w' hB.2 h') h
  ·unfold JD at h1
   split at h1
   ·rename_i o ho
    split at h1
    ·rename_i x i lH hg
     obtain ⟨v,hy,hk⟩:=rV hQ ho lH hg h
     exact wpAny_take ho bo h3 h2 (λc a w hq=>by cases hQ _ _ _ hq) hy (Xk hQ bo r _ _ w hB.2 hk)
    ·cases h1
   ·cases h1
theorem gN {P:Program} {o:Oper} {t:Tmp} {a:Act} (h:o.op= .move (.tmp t)) (hg:o.guard=none):Yields P ops o (a.tmps.getD t undef) a:=by
 refine .inl ⟨by simp [Region.wanted,hg],λw=>?_⟩
 unfold execOp
 rw [h]
 rfl
theorem sm {hd tl:List Nat} {i:Nat} (h:gU ops hd tl i=true): ∃o t,ops[i]?=some o/\o.op= .move (.tmp t)/\o.guard=none:=by
 unfold gU at h
 split at h
 ·rename_i o ho
  simp only [Bool.and_eq_true] at h
  have h1:=h.1
  split at h1
  ·rename_i t h2 h3
   exact ⟨o,t,ho,h2,h3⟩
  ·cases h1
 ·cases h
theorem bk {q:Bool} {hd:List Nat} {Q:Exit->Act->World->Prop} (hQ: ∀c a w,¬Q (.panic c) a w) (bo:Region.noSelect ops=true) {n:Nat} {st1:St}
  (eo: ∀Ad st a w,(∀j oj,ops[j]?=some oj->Ad.getD j false=true-> ∀e∈oj.after,Region.binds .any e=true->Ad.getD e.on false=true)->Ad.size=ops.size->jg ops tl hd Ad=true->st=st1->Rel X st a w->
   (∀j,Ad.getD j false=true↔j∈Om q Γ ops)->wpAny P .any ops Q n Ad a w):
  ∀(l dn:List Nat) (Ad:Array Bool) (st:St) (a:Act) (w:World),(∀j,j∈Om q Γ ops↔j∈dn\/j∈l)->(∀i,i∈l-> ∃o t,ops[i]?=some o/\o.op= .move (.tmp t)/\o.guard=none)->
   (∀j oj,ops[j]?=some oj->Ad.getD j false=true-> ∀e∈oj.after,Region.binds .any e=true->Ad.getD e.on false=true)->Ad.size=ops.size->(∀j,Ad.getD j false=true↔j∈dn)->
   gM ops tl hd l Ad=true->Ea T Γ ops l st=some st1->Rel X st a w->wpAny P .any ops Q (l.length+n) Ad a w
 | [],dn,Ad,st,a,w,hm,_,hc,Ps,ML,hf,he,hr=>by
  simp only [Ea,Option.some.injEq] at he
  rw [List.length_nil,Nat.zero_add]
  exact eo Ad st a w hc Ps (by simpa [gM] using hf) he hr λj=>by rw [ML j,hm j];simp
 |k::l,dn,Ad,st,a,w,hm,hl,hc,Ps,ML,hf,he,hr=>by
  simp only [gM,Bool.and_eq_true] at hf
  obtain ⟨⟨h1,h2⟩,h3⟩:=hf
  obtain ⟨o,t,ho,lH,hg⟩:=hl k (by simp)
  have oR:k∈Region.ready .any ops Ad:=by simpa using h1
  obtain ⟨_,o',XS,Hz⟩:=mem_ready.1 oR
  have ho2:o'=o:=Option.some.inj (XS.symm.trans ho)
  subst ho2
  have hks:k<Ad.size:=by rw [Ps];exact (Array.getElem?_eq_some_iff.1 ho).1
  simp only [Ea,ho] at he
  have hv:bt T Γ ops st o'=some (st.get t):=by simp only [bt,hg,Rw,Cg,lH];rfl
  rw [hv] at he
  rw [List.length_cons,show l.length+1+n=(l.length+n)+1 by omega]
  refine wpAny_take ho bo h2 h1 (λc a w hq=>absurd hq (hQ c _ w)) (gN lH hg) ?_
  obtain ⟨π,hr⟩:=hr
  refine bk hQ bo eo l (k::dn) _ _ _ _ (λj=>by rw [hm j,List.mem_cons,List.mem_cons];exact ⟨λh=>h.elim (λh=> .inl (.inr h)) (λh=>h.elim (λh=> .inl (.inl h)) .inr),λh=>h.elim (λh=>h.elim (λh=> .inr (.inl h)) .inl) (λh=> .inr (.inr h))⟩) (λi hi=>hl i (by simp [hi])) ?_ (by simp [Ps]) (λj=>?_) h3 he ⟨π,hr.put o'.dst (hr.2.tmps t)⟩
  ·intro j oj hj XM e hem hb
   by_cases mJ:k=j
   ·subst mJ
    have:oj=o':=Option.some.inj (hj.symm.trans ho)
    subst this
    exact getD_set_true (Hz e hem hb)
   ·rw [getD_set_ne false mJ] at XM
    exact getD_set_true (hc j oj hj XM e hem hb)
  ·by_cases mJ:k=j
   ·subst mJ
    refine ⟨λ_=>by simp,λ_=>?_⟩
    simp [hks]
   ·rw [getD_set_ne false mJ,ML j]
    simp [Ne.symm mJ]
theorem aP {ops:Array Oper} : ∀(a b:List Nat) (st st':St),Ea T Γ ops (a++b) st=some st'-> ∃s,Ea T Γ ops a st=some s/\Ea T Γ ops b s=some st'
 | [],b,st,st',h=>⟨st,rfl,h⟩
 |i::a,b,st,st',h=>by
  simp only [List.cons_append,Ea] at h⊢
  split at h
  ·cases h
  ·split at h
   ·exact aP a b _ st' h
   ·cases h
theorem j6 (hT:Ca P T) (Mb:Hb P Γ) (hm:P.follows .mixedOrders=true) {Q:Exit->Act->World->Prop} {id:Nat} {draw:Bool} {st st':St} {a:Act} (h:Rel X st a w)
  (he:Lh T Γ ops draw st=some st') (hQ: ∀a' w',Rel X st' a' w'->Q .normal a' w'):(Code.region id ops draw).wp P Q a w:=by
 unfold Lh at he
 cases draw with
 |false=>
  rw [if_neg (by simp)] at he
  exact wp_region_list (e8 hT Mb ops.toList st st' a w h he hQ)
 |true=>
  rw [if_pos rfl] at he
  have go: ∀(q:Bool),dD q Γ ops=true->(match Ea T Γ ops (dw q Γ ops) st with
    |some st'=>Jb T Γ ops (Fe q Γ ops) st'
    |none=>none)=some st'->(Code.region id ops true).wp P Q a w:=by
   intro q iR he
   split at he
   ·rename_i st1 h1
    simp only [dD,Bool.and_eq_true,beq_iff_eq] at iR
    obtain ⟨⟨⟨bo,hlen⟩,TL⟩,Aai⟩:=iR
    refine wp_mono (Q:= λe a w=>e= .normal/\Q .normal a w) ?_ λe a w h=>h.1▸h.2
    refine wp_region_any hm ?_
    have IN:Rel X st a {w with drawn:=w.drawn+1} :=by
     obtain ⟨π,h⟩:=h
     exact ⟨π,h.quiet ⟨rfl,rfl,rfl,Nat.le_refl _,λ_ _=>rfl⟩⟩
    obtain ⟨s0,h0,h1⟩:=aP _ _ _ _ h1
    have Ke: ∀i,i∈Wb q Γ ops->i<ops.size:= λi hi=>List.mem_range.1 (List.mem_filter.1 hi).1
    have Ps: ∀i,i∈Ot q Γ ops->i<ops.size:= λi hi=>Ke i (List.mem_filter.1 hi).1
    have Hz: ∀j,j<ops.size->j∈Om q Γ ops\/j∈Ot q Γ ops\/j∈Fe q Γ ops:= λj hj=>by
     by_cases ht:j∈Fe q Γ ops
     ·exact .inr (.inr ht)
     ·have hh:j∈Wb q Γ ops:=List.mem_filter.2 ⟨List.mem_range.2 hj,by simpa using ht⟩
      cases MM:gU ops (Wb q Γ ops) (Fe q Γ ops) j with
      |true=>exact .inl (List.mem_filter.2 ⟨hh,MM⟩)
      |false=>exact .inr (.inl (List.mem_filter.2 ⟨hh,by rw [MM];rfl⟩))
    have RG: ∀j,j∈Wb q Γ ops->j∉Fe q Γ ops:= λj hj=>by
     have:=(List.mem_filter.1 hj).2
     simpa using this
    have vF: ∀j,j∈Ot q Γ ops->j∉Fe q Γ ops:= λj hj=>RG j (List.mem_filter.1 hj).1
    have ZK: ∀j,j∈Om q Γ ops->j∉Fe q Γ ops:= λj hj=>RG j (List.mem_filter.1 hj).1
    have htl: ∀t,t∈Fe q Γ ops->t<ops.size:=by
     intro t ht
     unfold Fe at ht
     have: ∀(l:List Nat) (acc:List Nat),(∀i,i∈acc->i<ops.size)->(∀i,i∈l->i<ops.size)-> ∀i,i∈l.foldl (init:=acc) (λacc i=>match ops[i]? with
       |some o=>if JL q Γ o||o.after.any (λe=>Region.binds .any e&&acc.contains e.on) then acc++ [i] else acc
       |none=>acc)->i<ops.size:=by
      intro l
      induction l with
      |nil=>intro acc h1 _ i hi;exact h1 i hi
      |cons x l ih=>
       intro acc h1 h2 i hi
       simp only [List.foldl_cons] at hi
       refine ih _ ?_ (λi hi=>h2 i (by simp [hi])) i hi
       intro k hk
       split at hk
       ·split at hk
        ·rcases List.mem_append.1 hk with hk|hk
         ·exact h1 k hk
         ·simp at hk;rw [hk];exact h2 x (by simp)
        ·exact h1 k hk
       ·exact h1 k hk
     exact this (List.range ops.size) [] (by simp) (λi hi=>List.mem_range.1 hi) t ht
    rw [<-hlen]
    refine bk (q:=q) (X:=X) (T:=T) (Γ:=Γ) (tl:=Fe q Γ ops) (hd:=Ot q Γ ops) (st1:=s0) (λc a w hq=>by cases hq.1) bo ?_ (Om q Γ ops) [] _ st a _ (λj=>by simp)
     (λi hi=>sm (List.mem_filter.1 hi).2) (λj oj _ hl=>(by rw [hlen,getD_replicate_false] at hl;cases hl)) (by simp [hlen]) (λj=>by rw [hlen,getD_replicate_false];simp) (by rw [hlen];exact TL) h0 IN
    intro Ad s a' w' hc ej ZQ hs hr MM
    subst hs
    have Agp:Rt ops (Fe q Γ ops) (Om q Γ ops) Ad:=
     ⟨ej,λi hi=>(MM i).2 hi,hc,λt ht=>getD_in (by rw [ej];exact htl t ht) (by
      cases hg:Ad.getD t false with
      |false=>rfl
      |true=>exact absurd ht (ZK t ((MM t).1 hg)))⟩
    have HA:=uv (T:=T) (Γ:=Γ) bo Aai Ps Hz vF st1 (Ot q Γ ops) _ s (λi hi=>hi) Agp ZQ h1
    exact eT (X:=X) (P:=P) (Q:= λe a w=>e= .normal/\Q .normal a w) (g:=(Fe q Γ ops).length) hT Mb (λAd s a' w' hL hr=>by
     obtain ⟨Ag5,rfl⟩:=hL
     exact Xk (λe a w h=>h.1) bo (Fe q Γ ops) Ad a' w' Ag5 (dW hT Mb _ _ st' a' w' hr he λa w h=>⟨rfl,hQ a w h⟩)) _ _ _ _ _ HA hr
   ·cases he
  split at he
  ·rename_i iR;exact go false iR he
  ·split at he
   ·rename_i iR;exact go true iR he
   ·cases he
theorem Xc (q:Bool): ∀(l:List Nat) (Ad:Array Bool),(Fb q ops l Ad).length<=l.length
 | [],_=>Nat.le_refl _
 |i::r,Ad=>by
  simp only [Fb]
  split
  ·simp only [List.length_cons];have:=Xc q r (Ad.setIfInBounds i true);omega
  ·simp only [List.length_cons];have:=Xc q r Ad;omega
theorem wK (hT:Ca P T) {st:St} {a:Act} (h:Ai X π st a w) {i:Nat} {o:Oper} (ho:ops[i]?=some o) (hp:dA ops i=true) {v:AV} (hv:bt T Γ ops st o=some v):
  ∃u,Yields P ops o u a/\Am X w π st.heap v u:=by
 unfold dA at hp
 rw [ho] at hp
 simp only at hp
 obtain ⟨dst,op,ty,pos,af,gd⟩:=o
 split at hp
 ·rename_i t h3 h4
  simp only at h3 h4;subst h3;subst h4
  refine ⟨a.tmps.getD t undef,gN rfl rfl,?_⟩
  simp only [bt,Rw,Cg,Option.some.injEq] at hv
  subst hv
  exact h.2.tmps t
 ·rename_i x h3 h4
  simp only at h3 h4;subst h3;subst h4
  have e:=Bo h.2 x
  have fin:(∃ad,a.eval x= .pointer (some ad))->Yields P ops ⟨dst, .nilCheck x,ty,pos,af,none⟩ (a.eval x) a:= λ⟨ad,hx⟩=>
   .inl ⟨by simp [Region.wanted],λw=>by simp [execOp,hx]⟩
  simp only [bt,Rw,Cg] at hv
  split at hv
  ·rename_i fr τ y hx
   simp only [Option.some.injEq] at hv;subst hv
   rw [hx] at e
   have e':=e
   obtain ⟨cs,hc,hv⟩:=e
   simp only [Cells] at hc
   obtain ⟨g,o,rfl,_⟩:=hc
   simp only [Ar,Ty.Ac,Bool.false_eq_true,if_false,List.headD_cons] at hv
   exact ⟨_,fin ⟨_,hv⟩,e'⟩
  ·rename_i fr τ y hx
   simp only [Option.some.injEq] at hv;subst hv
   rw [hx] at e
   obtain ⟨cs,hc,hv⟩:=e
   simp only [Cells] at hc
   rcases hc with ⟨h0,_⟩|⟨y',g,o,h0,rfl,hr⟩
   ·cases h0
   simp only [Option.some.injEq] at h0;subst h0
   simp only [Ar,Ty.Ac,Bool.false_eq_true,if_false,List.headD_cons] at hv
   exact ⟨_,fin ⟨_,hv⟩,[_],⟨g,o,rfl,hr⟩,by rw [hv];simp [Ar,Ty.Ac]⟩
  ·rename_i l i hx
   simp only [Option.some.injEq] at hv;subst hv
   rw [hx] at e
   have e':=e
   obtain ⟨r,tid,vs,_,_,hv⟩:=e
   exact ⟨_,fin ⟨_,hv⟩,e'⟩
  ·rename_i l i hx
   simp only [Option.some.injEq] at hv;subst hv
   rw [hx] at e
   have e':=e
   obtain ⟨r,b,sz,n,_,_,_,_,hv⟩:=e
   exact ⟨_,fin ⟨_,hv⟩,e'⟩
  ·cases hv
 ·rename_i s x f h3 h4
  simp only at h3 h4;subst h3;subst h4
  simp only [bt,Rw,Cg] at hv
  obtain ⟨u,h1,h2⟩:=Vw hT (st:=st) _ _ _ _ v (Bo h.2 x) hv
  refine ⟨u, .inl ⟨by simp [Region.wanted],λw=>?_⟩,h2⟩
  have:=h1 w
  simp only [execOp,Sem.run_bind]
  first
   |(rw [this];rfl)
   |simp [this]
 ·cases hp
theorem sV {i:Nat} (h:sn ops i=true):dA ops i=true:=by
 unfold sn at h
 unfold dA
 split at h
 ·rename_i o ho
  split at h
  ·rename_i h1 h2
   simp only [h1,h2]
  ·cases h
 ·cases h
theorem Vn (hT:Ca P T) (q:Bool) {Q:Exit->Act->World->Prop} (hQ: ∀c a w,¬Q (.panic c) a w) (bo:Region.noSelect ops=true) {n:Nat} {st1:St} :
  ∀(l:List Nat) (Ad:Array Bool) (st:St) (a:Act) (w:World),Ea T Γ ops (Fb q ops l Ad) st=some st1->Rel X st a w->
   (∀a w,Rel X st1 a w->wpAny P .any ops Q n (Ef (Fb q ops l Ad) Ad) a w)->wpAny P .any ops Q ((Fb q ops l Ad).length+n) Ad a w
 | [],Ad,st,a,w,he,hr,hK=>by
  simp only [Fb,Ea,Option.some.injEq] at he
  subst he
  simp only [Fb,List.length_nil,Nat.zero_add]
  exact hK a w hr
 |k::l,Ad,st,a,w,he,hr,hK=>by
  simp only [Fb] at he hK⊢
  split
  ·rename_i hc
   rw [if_pos hc] at he hK
   simp only [Bool.and_eq_true] at hc
   obtain ⟨h0,h1,h2⟩:=hc
   have hp:dA ops k=true:=by
    cases q with
    |true=>exact h0
    |false=>exact sV h0
   simp only [Ea] at he
   split at he
   ·cases he
   rename_i o ho
   split at he
   rotate_left
   ·cases he
   rename_i v hv
   obtain ⟨π,hr⟩:=hr
   obtain ⟨u,hy,hu⟩:=wK (Γ:=Γ) hT hr ho hp hv
   rw [List.length_cons,show (Fb q ops l (Ad.setIfInBounds k true)).length+1+n=((Fb q ops l (Ad.setIfInBounds k true)).length+n)+1 by omega]
   refine wpAny_take ho bo h2 h1 (λc a w hq=>absurd hq (hQ c _ w)) hy ?_
   exact Vn hT q hQ bo l _ _ _ _ he ⟨π,hr.put o.dst hu⟩ hK
  ·rename_i hc
   rw [if_neg hc] at he hK
   exact Vn hT q hQ bo l Ad st a w he hr hK
theorem eU (hT:Ca P T) (Mb:Hb P Γ) {Q:Exit->Act->World->Prop} {K:St->Prop} (hK: ∀st a w,K st->Rel X st a w->Q .normal a w):
  ∀(f:Nat) (Ad:Array Bool) (st:St) (a:Act) (w:World),anyS T Γ ops K f Ad st->Rel X st a w->wpAny P .any ops Q f Ad a w
 |0,Ad,st,a,w,h,hr=>⟨h.1,hK _ _ _ h.2 hr⟩
 |f+1,Ad,st,a,w,h,hr=>by
  refine ⟨λh0=>absurd h0 h.1,λi hi=>?_⟩
  obtain ⟨o,st',ho,he,eo⟩:=h.2 i hi
  obtain ⟨π,hr⟩:=hr
  unfold wpOp
  simp only [ho]
  exact Ut hT Mb hr o he λa' w' h'=>eU hT Mb hK f _ _ _ _ eo h'
theorem ze (hT:Ca P T) (Mb:Hb P Γ) (hm:P.follows .mixedOrders=true) {Q:Exit->Act->World->Prop} {id:Nat} {draw:Bool} {st:St} {K:St->Prop} {a:Act} (h:Rel X st a w)
  (he:ru T Γ ops draw st K) (hQ: ∀st' a' w',K st'->Rel X st' a' w'->Q .normal a' w'):(Code.region id ops draw).wp P Q a w:=by
 rcases he with ⟨st',h1,h2⟩|⟨rfl,bo,bf,h1,h2⟩
 ·exact j6 hT Mb hm h h1 λa' w' h'=>hQ st' a' w' h2 h'
 ·refine wp_mono (Q:= λe a w=>e= .normal/\Q .normal a w) ?_ λe a w h=>h.1▸h.2
  refine wp_region_any hm ?_
  have IN:Rel X st a {w with drawn:=w.drawn+1} :=by
   obtain ⟨π,h⟩:=h
   exact ⟨π,h.quiet ⟨rfl,rfl,rfl,Nat.le_refl _,λ_ _=>rfl⟩⟩
  have hlen:(Jz ops).length<=ops.size:=by
   have:=Xc (ops:=ops) (!dr false ops) (List.range ops.size) (Array.replicate ops.size false)
   rw [List.length_range] at this
   exact this
  have:=Vn hT (!dr false ops) (X:=X) (P:=P) (T:=T) (Γ:=Γ) (Q:= λe a w=>e= .normal/\Q .normal a w) (n:=ops.size-(Jz ops).length) (st1:=bf) (λc a w hq=>by cases hq.1) bo (List.range ops.size) (Array.replicate ops.size false) st a _ h1 IN λa' w' h'=>
   eU hT Mb (λst' a' w' hk hr=>⟨rfl,hQ st' a' w' hk hr⟩) _ _ _ _ _ h2 h'
  have e:(Fb (!dr false ops) ops (List.range ops.size) (Array.replicate ops.size false)).length+(ops.size-(Jz ops).length)=ops.size:=by
   have e2:(Fb (!dr false ops) ops (List.range ops.size) (Array.replicate ops.size false)).length=(Jz ops).length:=rfl
   omega
  rw [e] at this
  exact this
end
end Go.Proofs.Ytjbdmibbbpdnnaa
