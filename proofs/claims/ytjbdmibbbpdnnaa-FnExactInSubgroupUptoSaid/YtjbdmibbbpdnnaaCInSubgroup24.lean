/-
  Part 25 of the proof that the statement FnExactInSubgroup holds.
-/
import Derived.Test.YtjbdmibbbpdnnaaCInSubgroup23
namespace Go.Proofs.Ytjbdmibbbpdnnaa
open Go.RowKit
section
variable {P:Program} {T:Tab} {Γ:Env} {X:Ctx} {w w':World} {π:Pi} {ops:Array Oper} {hd tl:List Nat}
structure Qg (ops:Array Oper) (tl fl:List Nat) (Aa:Array Bool):Prop where
 size:Aa.size=ops.size
 done: ∀i,i∈fl->Aa.getD i false=true
 closed: ∀j oj,ops[j]?=some oj->Aa.getD j false=true-> ∀e∈oj.after,Region.binds .any e=true->Aa.getD e.on false=true
 tail: ∀t,t∈tl->Aa.getD t true=false
theorem Qg.set {fl:List Nat} {i:Nat} {Aa:Array Bool} (inv:Qg ops tl fl Aa) (hi:i∈Region.ready .any ops Aa) (Ud:i∉tl):Qg ops tl fl (Aa.setIfInBounds i true):=by
 obtain ⟨_,oi,hoi,Hf⟩:=mem_ready.1 hi
 refine ⟨by simp [inv.size],λk hk=>getD_set_true (inv.done k hk),λj oj hj hl e he hb=>?_,λt ht=>by
  have Ev:i≠t:= λe=>Ud (by rw [e];exact ht)
  rw [getD_set_ne true Ev];exact inv.tail t ht⟩
 by_cases dR:i=j
 ·subst dR
  have:oj=oi:=Option.some.inj (hj.symm.trans hoi)
  subst this
  exact getD_set_true (Hf e he hb)
 ·rw [getD_set_ne false dR] at hl
  exact getD_set_true (inv.closed j oj hj hl e he hb)
theorem km: ∀(k:Nat) (r:List Nat),eg.chain ops k r=true-> ∀t,t∈r-> ∃k',(k'=k\/k'∈r)/\Region.waitsFor .any ops t k'=true
 |_,[],_,t,ht=>by cases ht
 |k,t0::r,h,t,ht=>by
  simp only [eg.chain,Bool.and_eq_true] at h
  rcases List.mem_cons.1 ht with rfl|ht
  ·exact ⟨k, .inl rfl,h.1⟩
  ·obtain ⟨k',h1,h2⟩:=km t0 r h.2 t ht
   exact ⟨k', .inr (by rcases h1 with rfl|h1<;>simp [*]),h2⟩
theorem u7 {fl:List Nat} {Aa:Array Bool} (hs:eg ops hd tl=true) (inv:Qg ops tl fl Aa) (Od: ∀i,i∈hd->i<ops.size):
  ∀(d i:Nat),ops.size-i=d->i∈hd->Aa.getD i true=false-> ∀t,t∈tl->t∉Region.ready .any ops Aa:=by
 cases tl with
 |nil=>intro d i _ _ _ t ht;cases ht
 |cons f r=>
  simp only [eg,Bool.and_eq_true] at hs
  obtain ⟨jN,xE⟩:=hs
  intro d
  induction d using Nat.strongRecOn with
  |_ d ih=>
   intro i QB hi zV t ht hr
   obtain ⟨_,ot,hot,Hf⟩:=mem_ready.1 hr
   rcases List.mem_cons.1 ht with rfl|ff
   ·have h1:=List.all_eq_true.1 jN i hi
    obtain ⟨j,hj,US⟩:=List.any_eq_true.1 h1
    simp only [Bool.and_eq_true,decide_eq_true_eq] at US
    obtain ⟨oj,JE,e,he,hb,QW⟩:=Region.waitsFor_spec US.2
    rcases List.mem_cons.1 hj with rfl|GA
    ·have:oj=ot:=Option.some.inj (JE.symm.trans hot)
     subst this
     have h2:=Hf e he hb
     rw [QW,getD_both zV] at h2
     cases h2
    ·cases hl:Aa.getD j false with
     |true=>
      have h2:=inv.closed j oj JE hl e he hb
      rw [QW,getD_both zV] at h2
      cases h2
     |false=>
      have hjs:j<Aa.size:=by rw [inv.size];exact Od j GA
      have:=Od j GA
      exact ih (ops.size-j) (by omega) j rfl GA (getD_in hjs hl) t (by simp) hr
   ·obtain ⟨k',h1,h2⟩:=km f r xE t ff
    obtain ⟨o',ON,e,he,hb,QW⟩:=Region.waitsFor_spec h2
    have:o'=ot:=Option.some.inj (ON.symm.trans hot)
    subst this
    have h3:=Hf e he hb
    have hk:k'∈f::r:=by rcases h1 with rfl|h1<;>simp [*]
    rw [QW,getD_both (inv.tail k' hk)] at h3
    cases h3
def zZ (T:Tab) (Γ:Env) (ops:Array Oper) (hd:List Nat) (L:Array Bool->St->Prop):Nat->Array Bool->St->Prop
 |0,Aa,st=>L Aa st
 |f+1,Aa,st=>
  Region.ready .any ops Aa≠ []/\ ∀i∈Region.ready .any ops Aa,i∈hd/\ ∃o v,ops[i]?=some o/\aj T Γ ops st o=some v/\zZ T Γ ops hd L f (Aa.setIfInBounds i true) (st.put o.dst v)
theorem ri (hT:Bu P T) (Lb:Hc P Γ) {Q:Exit->Act->World->Prop} {K:Act->World->Prop} {st:St} {a:Act} (h:Rel X st a w) {i:Nat} {o:Oper} {v:AV} (ho:ops[i]?=some o) (hv:aj T Γ ops st o=some v)
  (hK: ∀a' w',Rel X (st.put o.dst v) a' w'->K a' w'):wpOp P ops Q i K a w:=by
 obtain ⟨π,h⟩:=h
 have run:Qj T Γ st o=some v->o.wp P a w K Q:= λhe=>jf (X:=X) (st':=st) (av:=v) (s5 hT Lb h o v he) hK
 have skip:v= .at .skip->K (a.put o.dst undef) w:= λe=>by subst e;exact hK _ _ ⟨π,h.put o.dst tQ⟩
 unfold wpOp
 simp only [ho]
 unfold aj at hv
 split at hv
 ·rename_i hg
  rw [if_pos (by simp [Region.wanted,hg])]
  exact .inl (run hv)
 ·rename_i j want hg
  split at hv
  ·rename_i b hb
   have hy:=(Xo h j).1 b hb
   split at hv
   ·rename_i vf
    rw [if_pos (by simp only [Region.wanted,hg,hy];simpa using vf)]
    exact .inl (run hv)
   ·rename_i vf
    rw [if_neg (by simp only [Region.wanted,hg,hy];simpa using vf)]
    simp only [Option.some.injEq] at hv
    exact skip hv.symm
  ·rename_i hb
   have hy:=(Xo h j).2 hb
   rw [if_neg (by simp [Region.wanted,hg,hy])]
   simp only [Option.some.injEq] at hv
   exact skip hv.symm
  ·cases hv
theorem dt (hT:Bu P T) (Lb:Hc P Γ) {g:Nat} {L:Array Bool->St->Prop} {Q:Exit->Act->World->Prop} (hL: ∀Aa st a w,L Aa st->Rel X st a w->wpAny P .any ops Q g Aa a w):
  ∀(f:Nat) (Aa:Array Bool) (st:St) (a:Act) (w:World),zZ T Γ ops hd L f Aa st->Rel X st a w->wpAny P .any ops Q (f+g) Aa a w
 |0,Aa,st,a,w,h,hr=>by rw [Nat.zero_add];exact hL _ _ _ _ h hr
 |f+1,Aa,st,a,w,h,hr=>by
  rw [show f+1+g=(f+g)+1 by omega]
  refine ⟨λh0=>absurd h0 h.1,λi hi=>?_⟩
  obtain ⟨_,o,v,ho,hv,cS⟩:=h.2 i hi
  exact ri hT Lb hr ho hv λa' w' h'=>dt hT Lb hL f _ _ _ _ cS h'
theorem uz {fl:List Nat} {i:Nat} {oi:Oper} {v:AV} {L:Array Bool->St->Prop} (hi:ops[i]?=some oi) (hs:eg ops hd tl=true) (Od: ∀i,i∈hd->i<ops.size) (Ud:i∈hd)
  (Hf: ∀j,j<ops.size->j∈fl\/j∈hd\/j∈tl) (sr: ∀j,j∈hd->j∉tl) (QE: ∀Aa st,L Aa st-> ∀j∈Region.ready .any ops Aa,j∈tl):
  ∀(f:Nat) (Aa:Array Bool) (st:St),Qg ops tl fl Aa->
   (∀j oj,ops[j]?=some oj->j≠i->Aa.getD j true=false->(∀e∈oj.after,Region.binds .any e=true->e.on≠i)->oi.apart ops oj=true)->
   i∈Region.ready .any ops Aa->aj T Γ ops st oi=some v->
   zZ T Γ ops hd L f (Aa.setIfInBounds i true) (st.put oi.dst v)->zZ T Γ ops hd L (f+1) Aa st:=by
 intro f
 have SH: ∀Aa,Qg ops tl fl Aa->i∈Region.ready .any ops Aa-> ∀j,j∈Region.ready .any ops Aa->j∈hd:=by
  intro Aa inv hr j hj
  obtain ⟨zV,oj,JE,_⟩:=mem_ready.1 hj
  rcases Hf j (Array.getElem?_eq_some_iff.1 JE).1 with h|h|h
  ·have h1:=inv.done j h
   rw [getD_both zV] at h1;cases h1
  ·exact h
  ·exact absurd hj (u7 hs inv Od _ i rfl Ud (mem_ready.1 hr).1 j h)
 induction f with
 |zero=>
  intro Aa st inv _ hr hv Hh
  refine ⟨λh=>(by rw [h] at hr;cases hr),λj hj=>?_⟩
  have GA:=SH Aa inv hr j hj
  refine ⟨GA,?_⟩
  by_cases mE:j=i
  ·subst mE;exact ⟨oi,v,hi,hv,Hh⟩
  ·exact absurd (QE _ _ Hh j (ready_mono hj mE)) (sr j GA)
 |succ f ih=>
  intro Aa st inv fc hr hv Hh
  have zV:=(mem_ready.1 hr).1
  refine ⟨λh=>(by rw [h] at hr;cases hr),λj hj=>?_⟩
  have GA:=SH Aa inv hr j hj
  refine ⟨GA,?_⟩
  by_cases mE:j=i
  ·subst mE;exact ⟨oi,v,hi,hv,Hh⟩
  ·obtain ⟨_,oj,vj,JE,hvj,cS⟩:=Hh.2 j (ready_mono hj mE)
   obtain ⟨QK,SP,YN,PX⟩:=mem_ready.1 hj
   have:SP=oj:=Option.some.inj (YN.symm.trans JE)
   subst this
   have kQ: ∀e∈SP.after,Region.binds .any e=true->e.on≠i:= λe he hb heq=>by
    have h1:=PX e he hb
    rw [heq,getD_both zV] at h1
    cases h1
   obtain ⟨p1,p2,p3⟩:=Oper.apart_spec (fc j SP JE mE QK kQ)
   rw [uc p1] at hvj
   refine ⟨SP,vj,JE,hvj,?_⟩
   have KX: ∀k ok,ops[k]?=some ok->k≠i->(Aa.setIfInBounds j true).getD k true=false->
     (∀e∈ok.after,Region.binds .any e=true->e.on≠i)->oi.apart ops ok=true:= λk ok hk hki RS OM=>by
    refine fc k ok hk hki ?_ OM
    by_cases XX:j=k
    ·subst XX;exact QK
    ·rw [getD_set_ne true XX] at RS;exact RS
   refine ih (Aa.setIfInBounds j true) (st.put SP.dst vj) (inv.set hj (sr j GA)) KX (ready_mono hr (Ne.symm mE)) (by rw [uc p3];exact hv) ?_
   rw [Array.setIfInBounds_comm _ _ mE,<-St.put_comm st v vj p2]
   exact cS
theorem tN: ∀(l:List Nat) (Aa:Array Bool),fL ops l Aa=true-> ∀j∈Region.ready .any ops Aa,j∈l
 | [],Aa,h,j,hj=>by simp only [fL,List.isEmpty_iff] at h;rw [h] at hj;cases hj
 |k::r,Aa,h,j,hj=>by
  simp only [fL,Bool.and_eq_true,decide_eq_true_eq] at h
  rw [h.1] at hj
  simp at hj
  simp [hj]
theorem rv {fl:List Nat} (gB:Region.noSelect ops=true) (hs:eg ops hd tl=true) (Od: ∀i,i∈hd->i<ops.size) (Hf: ∀j,j<ops.size->j∈fl\/j∈hd\/j∈tl) (sr: ∀j,j∈hd->j∉tl) (st':St):
  ∀(l:List Nat) (Aa:Array Bool) (st:St),(∀i,i∈l->i∈hd)->Qg ops tl fl Aa->gA ops tl l Aa=true->Dp T Γ ops l st=some st'->
  zZ T Γ ops hd (λpS s=>fL ops tl pS=true/\s=st') l.length Aa st
 | [],Aa,st,_,_,hB,he=>by
  simp only [Dp,Option.some.injEq] at he
  exact ⟨by simpa [gA] using hB,he⟩
 |k::l,Aa,st,hl,inv,hB,he=>by
  simp only [gA,Bool.and_eq_true] at hB
  obtain ⟨⟨hr,hf⟩,hB'⟩:=hB
  have hkh:=hl k (by simp)
  have dT:k∈Region.ready .any ops Aa:=by simpa using hr
  simp only [Dp] at he
  split at he
  ·cases he
  ·rename_i o ho
   split at he
   ·rename_i v hv
    exact uz ho hs Od hkh Hf sr (λpS s hL=>tN tl pS hL.1) l.length Aa st inv (Region.free_spec ho hf) dT hv
     (rv gB hs Od Hf sr st' l _ _ (λi hi=>hl i (by simp [hi])) (inv.set dT (sr k hkh)) hB' he)
   ·cases he
theorem dv {Q:Exit->Act->World->Prop} : ∀(l:List Nat) (Aa:Array Bool) (a:Act) (w:World),fL ops l Aa=true->wpOps P ops Q l a w->wpAny P .any ops Q l.length Aa a w
 | [],Aa,a,w,hB,h=>⟨by simpa [fL] using hB,h⟩
 |k::r,Aa,a,w,hB,h=>by
  simp only [fL,Bool.and_eq_true,decide_eq_true_eq] at hB
  refine ⟨λh1=>(by rw [hB.1] at h1;cases h1),λi hi=>?_⟩
  rw [hB.1] at hi
  have UR:i=k:=by simpa using hi
  subst UR
  rw [wpOps_cons] at h
  exact wpOp_mono (λa' w' h'=>dv r _ a' w' hB.2 h') h
theorem eX {P:Program} {o:Oper} {t:Tmp} {a:Act} (h:o.op= .move (.tmp t)) (hg:o.guard=none):Yields P ops o (a.tmps.getD t undef) a:=by
 refine .inl ⟨by simp [Region.wanted,hg],λw=>?_⟩
 unfold execOp
 rw [h]
 rfl
theorem pJ {hd tl:List Nat} {i:Nat} (h:fg ops hd tl i=true): ∃o t,ops[i]?=some o/\o.op= .move (.tmp t)/\o.guard=none:=by
 unfold fg at h
 split at h
 ·rename_i o ho
  simp only [Bool.and_eq_true] at h
  have h1:=h.1
  split at h1
  ·rename_i t h2 h3
   exact ⟨o,t,ho,h2,h3⟩
  ·cases h1
 ·cases h
theorem ab {q:Bool} {hd:List Nat} {Q:Exit->Act->World->Prop} (hQ: ∀c a w,¬Q (.panic c) a w) (gB:Region.noSelect ops=true) {n:Nat} {st1:St}
  (cS: ∀Aa st a w,(∀j oj,ops[j]?=some oj->Aa.getD j false=true-> ∀e∈oj.after,Region.binds .any e=true->Aa.getD e.on false=true)->Aa.size=ops.size->gA ops tl hd Aa=true->st=st1->Rel X st a w->
   (∀j,Aa.getD j false=true↔j∈Ni q Γ ops)->wpAny P .any ops Q n Aa a w):
  ∀(l dn:List Nat) (Aa:Array Bool) (st:St) (a:Act) (w:World),(∀j,j∈Ni q Γ ops↔j∈dn\/j∈l)->(∀i,i∈l-> ∃o t,ops[i]?=some o/\o.op= .move (.tmp t)/\o.guard=none)->
   (∀j oj,ops[j]?=some oj->Aa.getD j false=true-> ∀e∈oj.after,Region.binds .any e=true->Aa.getD e.on false=true)->Aa.size=ops.size->(∀j,Aa.getD j false=true↔j∈dn)->
   eW ops tl hd l Aa=true->Dp T Γ ops l st=some st1->Rel X st a w->wpAny P .any ops Q (l.length+n) Aa a w
 | [],dn,Aa,st,a,w,hm,_,hc,Od,XG,hf,he,hr=>by
  simp only [Dp,Option.some.injEq] at he
  rw [List.length_nil,Nat.zero_add]
  exact cS Aa st a w hc Od (by simpa [eW] using hf) he hr λj=>by rw [XG j,hm j];simp
 |k::l,dn,Aa,st,a,w,hm,hl,hc,Od,XG,hf,he,hr=>by
  simp only [eW,Bool.and_eq_true] at hf
  obtain ⟨⟨h1,h2⟩,h3⟩:=hf
  obtain ⟨o,t,ho,o1,hg⟩:=hl k (by simp)
  have mI:k∈Region.ready .any ops Aa:=by simpa using h1
  obtain ⟨_,o',ON,Hf⟩:=mem_ready.1 mI
  have YM:o'=o:=Option.some.inj (ON.symm.trans ho)
  subst YM
  have hks:k<Aa.size:=by rw [Od];exact (Array.getElem?_eq_some_iff.1 ho).1
  simp only [Dp,ho] at he
  have hv:aj T Γ ops st o'=some (st.get t):=by simp only [aj,hg,Qj,Ca,o1];rfl
  rw [hv] at he
  rw [List.length_cons,show l.length+1+n=(l.length+n)+1 by omega]
  refine wpAny_take ho gB h2 h1 (λc a w hq=>absurd hq (hQ c _ w)) (eX o1 hg) ?_
  obtain ⟨π,hr⟩:=hr
  refine ab hQ gB cS l (k::dn) _ _ _ _ (λj=>by rw [hm j,List.mem_cons,List.mem_cons];exact ⟨λh=>h.elim (λh=> .inl (.inr h)) (λh=>h.elim (λh=> .inl (.inl h)) .inr),λh=>h.elim (λh=>h.elim (λh=> .inr (.inl h)) .inl) (λh=> .inr (.inr h))⟩) (λi hi=>hl i (by simp [hi])) ?_ (by simp [Od]) (λj=>?_) h3 he ⟨π,hr.put o'.dst (hr.2.tmps t)⟩
  ·intro j oj hj QO e hem hb
   by_cases zR:k=j
   ·subst zR
    have:oj=o':=Option.some.inj (hj.symm.trans ho)
    subst this
    exact getD_set_true (Hf e hem hb)
   ·rw [getD_set_ne false zR] at QO
    exact getD_set_true (hc j oj hj QO e hem hb)
  ·by_cases zR:k=j
   ·subst zR
    refine ⟨λ_=>by simp,λ_=>?_⟩
    simp [hks]
   ·rw [getD_set_ne false zR,XG j]
    simp [Ne.symm zR]
theorem Zn {ops:Array Oper} : ∀(a b:List Nat) (st st':St),Dp T Γ ops (a++b) st=some st'-> ∃s,Dp T Γ ops a st=some s/\Dp T Γ ops b s=some st'
 | [],b,st,st',h=>⟨st,rfl,h⟩
 |i::a,b,st,st',h=>by
  simp only [List.cons_append,Dp] at h⊢
  split at h
  ·cases h
  ·split at h
   ·exact Zn a b _ st' h
   ·cases h
theorem gn (hT:Bu P T) (Lb:Hc P Γ) (hm:P.follows .mixedOrders=true) {Q:Exit->Act->World->Prop} {id:Nat} {draw:Bool} {st st':St} {a:Act} (h:Rel X st a w)
  (he:Ki T Γ ops draw st=some st') (hQ: ∀a' w',Rel X st' a' w'->Q .normal a' w'):(Code.region id ops draw).wp P Q a w:=by
 unfold Ki at he
 cases draw with
 |false=>
  rw [if_neg (by simp)] at he
  exact wp_region_list (cI hT Lb ops.toList st st' a w h he hQ)
 |true=>
  rw [if_pos rfl] at he
  have go: ∀(q:Bool),cm q Γ ops=true->(match Dp T Γ ops (cb q Γ ops) st with
    |some st'=>Ii T Γ ops (Er q Γ ops) st'
    |none=>none)=some st'->(Code.region id ops true).wp P Q a w:=by
   intro q jq he
   split at he
   ·rename_i st1 h1
    simp only [cm,Bool.and_eq_true,beq_iff_eq] at jq
    obtain ⟨⟨⟨gB,hlen⟩,KV⟩,RO⟩:=jq
    refine wp_mono (Q:= λe a w=>e= .normal/\Q .normal a w) ?_ λe a w h=>h.1▸h.2
    refine wp_region_any hm ?_
    have BK:Rel X st a {w with drawn:=w.drawn+1} :=by
     obtain ⟨π,h⟩:=h
     exact ⟨π,h.quiet ⟨rfl,rfl,rfl,Nat.le_refl _,λ_ _=>rfl⟩⟩
    obtain ⟨s0,h0,h1⟩:=Zn _ _ _ _ h1
    have Ud: ∀i,i∈Un q Γ ops->i<ops.size:= λi hi=>List.mem_range.1 (List.mem_filter.1 hi).1
    have Od: ∀i,i∈Nl q Γ ops->i<ops.size:= λi hi=>Ud i (List.mem_filter.1 hi).1
    have Hf: ∀j,j<ops.size->j∈Ni q Γ ops\/j∈Nl q Γ ops\/j∈Er q Γ ops:= λj hj=>by
     by_cases ht:j∈Er q Γ ops
     ·exact .inr (.inr ht)
     ·have hh:j∈Un q Γ ops:=List.mem_filter.2 ⟨List.mem_range.2 hj,by simpa using ht⟩
      cases ET:fg ops (Un q Γ ops) (Er q Γ ops) j with
      |true=>exact .inl (List.mem_filter.2 ⟨hh,ET⟩)
      |false=>exact .inr (.inl (List.mem_filter.2 ⟨hh,by rw [ET];rfl⟩))
    have IT: ∀j,j∈Un q Γ ops->j∉Er q Γ ops:= λj hj=>by
     have:=(List.mem_filter.1 hj).2
     simpa using this
    have sr: ∀j,j∈Nl q Γ ops->j∉Er q Γ ops:= λj hj=>IT j (List.mem_filter.1 hj).1
    have QD: ∀j,j∈Ni q Γ ops->j∉Er q Γ ops:= λj hj=>IT j (List.mem_filter.1 hj).1
    have htl: ∀t,t∈Er q Γ ops->t<ops.size:=by
     intro t ht
     unfold Er at ht
     have: ∀(l:List Nat) (acc:List Nat),(∀i,i∈acc->i<ops.size)->(∀i,i∈l->i<ops.size)-> ∀i,i∈l.foldl (init:=acc) (λacc i=>match ops[i]? with
       |some o=>if CG q Γ o||o.after.any (λe=>Region.binds .any e&&acc.contains e.on) then acc++ [i] else acc
       |none=>acc)->i<ops.size:=by
      intro l
      induction l with
      |nil=>intro acc h1 _ i hi;exact h1 i hi
      |cons x l ih=>
       intro acc h1 h2 i hi
       simp only [List.foldl_cons] at hi
       refine ih _ ?_ (λi hi=>h2 i (by simp [hi])) i hi
       intro k hk
       split at hk
       ·split at hk
        ·rcases List.mem_append.1 hk with hk|hk
         ·exact h1 k hk
         ·simp at hk;rw [hk];exact h2 x (by simp)
        ·exact h1 k hk
       ·exact h1 k hk
     exact this (List.range ops.size) [] (by simp) (λi hi=>List.mem_range.1 hi) t ht
    rw [<-hlen]
    refine ab (q:=q) (X:=X) (T:=T) (Γ:=Γ) (tl:=Er q Γ ops) (hd:=Nl q Γ ops) (st1:=s0) (λc a w hq=>by cases hq.1) gB ?_ (Ni q Γ ops) [] _ st a _ (λj=>by simp)
     (λi hi=>pJ (List.mem_filter.1 hi).2) (λj oj _ hl=>(by rw [hlen,getD_replicate_false] at hl;cases hl)) (by simp [hlen]) (λj=>by rw [hlen,getD_replicate_false];simp) (by rw [hlen];exact KV) h0 BK
    intro Aa s a' w' hc o0 QJ hs hr ET
    subst hs
    have ZP:Qg ops (Er q Γ ops) (Ni q Γ ops) Aa:=
     ⟨o0,λi hi=>(ET i).2 hi,hc,λt ht=>getD_in (by rw [o0];exact htl t ht) (by
      cases hg:Aa.getD t false with
      |false=>rfl
      |true=>exact absurd ht (QD t ((ET t).1 hg)))⟩
    have HA:=rv (T:=T) (Γ:=Γ) gB RO Od Hf sr st1 (Nl q Γ ops) _ s (λi hi=>hi) ZP QJ h1
    exact dt (X:=X) (P:=P) (Q:= λe a w=>e= .normal/\Q .normal a w) (g:=(Er q Γ ops).length) hT Lb (λAa s a' w' hL hr=>by
     obtain ⟨YZ,rfl⟩:=hL
     exact dv (Er q Γ ops) Aa a' w' YZ (cE hT Lb _ _ st' a' w' hr he λa w h=>⟨rfl,hQ a w h⟩)) _ _ _ _ _ HA hr
   ·cases he
  split at he
  ·rename_i jq;exact go false jq he
  ·split at he
   ·rename_i jq;exact go true jq he
   ·cases he
theorem Vk (q:Bool): ∀(l:List Nat) (Aa:Array Bool),(Eo q ops l Aa).length<=l.length
 | [],_=>Nat.le_refl _
 |i::r,Aa=>by
  simp only [Eo]
  split
  ·simp only [List.length_cons];have:=Vk q r (Aa.setIfInBounds i true);omega
  ·simp only [List.length_cons];have:=Vk q r Aa;omega
theorem tE (hT:Bu P T) {st:St} {a:Act} (h:Af X π st a w) {i:Nat} {o:Oper} (ho:ops[i]?=some o) (hp:cg ops i=true) {v:AV} (hv:aj T Γ ops st o=some v):
  ∃u,Yields P ops o u a/\Ak X w π st.heap v u:=by
 unfold cg at hp
 rw [ho] at hp
 simp only at hp
 obtain ⟨dst,op,ty,pos,af,gd⟩:=o
 split at hp
 ·rename_i t h3 h4
  simp only at h3 h4;subst h3;subst h4
  refine ⟨a.tmps.getD t undef,eX rfl rfl,?_⟩
  simp only [aj,Qj,Ca,Option.some.injEq] at hv
  subst hv
  exact h.2.tmps t
 ·rename_i x h3 h4
  simp only at h3 h4;subst h3;subst h4
  have e:=Bj h.2 x
  have fin:(∃ad,a.eval x= .pointer (some ad))->Yields P ops ⟨dst, .nilCheck x,ty,pos,af,none⟩ (a.eval x) a:= λ⟨ad,hx⟩=>
   .inl ⟨by simp [Region.wanted],λw=>by simp [execOp,hx]⟩
  simp only [aj,Qj,Ca] at hv
  split at hv
  ·rename_i fr τ y hx
   simp only [Option.some.injEq] at hv;subst hv
   rw [hx] at e
   have e':=e
   obtain ⟨cs,hc,hv⟩:=e
   simp only [Cells] at hc
   obtain ⟨g,o,rfl,_⟩:=hc
   simp only [Am,Ty.Ab,Bool.false_eq_true,if_false,List.headD_cons] at hv
   exact ⟨_,fin ⟨_,hv⟩,e'⟩
  ·rename_i fr τ y hx
   simp only [Option.some.injEq] at hv;subst hv
   rw [hx] at e
   obtain ⟨cs,hc,hv⟩:=e
   simp only [Cells] at hc
   rcases hc with ⟨h0,_⟩|⟨y',g,o,h0,rfl,hr⟩
   ·cases h0
   simp only [Option.some.injEq] at h0;subst h0
   simp only [Am,Ty.Ab,Bool.false_eq_true,if_false,List.headD_cons] at hv
   exact ⟨_,fin ⟨_,hv⟩,[_],⟨g,o,rfl,hr⟩,by rw [hv];simp [Am,Ty.Ab]⟩
  ·rename_i l i hx
   simp only [Option.some.injEq] at hv;subst hv
   rw [hx] at e
   have e':=e
   obtain ⟨r,tid,vs,_,_,hv⟩:=e
   exact ⟨_,fin ⟨_,hv⟩,e'⟩
  ·rename_i l i hx
   simp only [Option.some.injEq] at hv;subst hv
   rw [hx] at e
   have e':=e
   obtain ⟨r,b,sz,n,_,_,_,_,hv⟩:=e
   exact ⟨_,fin ⟨_,hv⟩,e'⟩
  ·cases hv
 ·rename_i s x f h3 h4
  simp only at h3 h4;subst h3;subst h4
  simp only [aj,Qj,Ca] at hv
  obtain ⟨u,h1,h2⟩:=Ui hT (st:=st) _ _ _ _ v (Bj h.2 x) hv
  refine ⟨u, .inl ⟨by simp [Region.wanted],λw=>?_⟩,h2⟩
  have:=h1 w
  simp only [execOp,Sem.run_bind]
  first
   |(rw [this];rfl)
   |simp [this]
 ·cases hp
theorem qh {i:Nat} (h:pK ops i=true):cg ops i=true:=by
 unfold pK at h
 unfold cg
 split at h
 ·rename_i o ho
  split at h
  ·rename_i h1 h2
   simp only [h1,h2]
  ·cases h
 ·cases h
theorem Ub (hT:Bu P T) (q:Bool) {Q:Exit->Act->World->Prop} (hQ: ∀c a w,¬Q (.panic c) a w) (gB:Region.noSelect ops=true) {n:Nat} {st1:St} :
  ∀(l:List Nat) (Aa:Array Bool) (st:St) (a:Act) (w:World),Dp T Γ ops (Eo q ops l Aa) st=some st1->Rel X st a w->
   (∀a w,Rel X st1 a w->wpAny P .any ops Q n (Dw (Eo q ops l Aa) Aa) a w)->wpAny P .any ops Q ((Eo q ops l Aa).length+n) Aa a w
 | [],Aa,st,a,w,he,hr,hK=>by
  simp only [Eo,Dp,Option.some.injEq] at he
  subst he
  simp only [Eo,List.length_nil,Nat.zero_add]
  exact hK a w hr
 |k::l,Aa,st,a,w,he,hr,hK=>by
  simp only [Eo] at he hK⊢
  split
  ·rename_i hc
   rw [if_pos hc] at he hK
   simp only [Bool.and_eq_true] at hc
   obtain ⟨h0,h1,h2⟩:=hc
   have hp:cg ops k=true:=by
    cases q with
    |true=>exact h0
    |false=>exact qh h0
   simp only [Dp] at he
   split at he
   ·cases he
   rename_i o ho
   split at he
   rotate_left
   ·cases he
   rename_i v hv
   obtain ⟨π,hr⟩:=hr
   obtain ⟨u,hy,hu⟩:=tE (Γ:=Γ) hT hr ho hp hv
   rw [List.length_cons,show (Eo q ops l (Aa.setIfInBounds k true)).length+1+n=((Eo q ops l (Aa.setIfInBounds k true)).length+n)+1 by omega]
   refine wpAny_take ho gB h2 h1 (λc a w hq=>absurd hq (hQ c _ w)) hy ?_
   exact Ub hT q hQ gB l _ _ _ _ he ⟨π,hr.put o.dst hu⟩ hK
  ·rename_i hc
   rw [if_neg hc] at he hK
   exact Ub hT q hQ gB l Aa st a w he hr hK
theorem du (hT:Bu P T) (Lb:Hc P Γ) {Q:Exit->Act->World->Prop} {K:St->Prop} (hK: ∀st a w,K st->Rel X st a w->Q .normal a w):
  ∀(f:Nat) (Aa:Array Bool) (st:St) (a:Act) (w:World),anyS T Γ ops K f Aa st->Rel X st a w->wpAny P .any ops Q f Aa a w
 |0,Aa,st,a,w,h,hr=>⟨h.1,hK _ _ _ h.2 hr⟩
 |f+1,Aa,st,a,w,h,hr=>by
  refine ⟨λh0=>absurd h0 h.1,λi hi=>?_⟩
  obtain ⟨o,st',ho,he,cS⟩:=h.2 i hi
  obtain ⟨π,hr⟩:=hr
  unfold wpOp
  simp only [ho]
  exact Tg hT Lb hr o he λa' w' h'=>du hT Lb hK f _ _ _ _ cS h'
theorem wm (hT:Bu P T) (Lb:Hc P Γ) (hm:P.follows .mixedOrders=true) {Q:Exit->Act->World->Prop} {id:Nat} {draw:Bool} {st:St} {K:St->Prop} {a:Act} (h:Rel X st a w)
  (he:oX T Γ ops draw st K) (hQ: ∀st' a' w',K st'->Rel X st' a' w'->Q .normal a' w'):(Code.region id ops draw).wp P Q a w:=by
 rcases he with ⟨st',h1,h2⟩|⟨rfl,gB,a7,h1,h2⟩
 ·exact gn hT Lb hm h h1 λa' w' h'=>hQ st' a' w' h2 h'
 ·refine wp_mono (Q:= λe a w=>e= .normal/\Q .normal a w) ?_ λe a w h=>h.1▸h.2
  refine wp_region_any hm ?_
  have BK:Rel X st a {w with drawn:=w.drawn+1} :=by
   obtain ⟨π,h⟩:=h
   exact ⟨π,h.quiet ⟨rfl,rfl,rfl,Nat.le_refl _,λ_ _=>rfl⟩⟩
  have hlen:(Jb ops).length<=ops.size:=by
   have:=Vk (ops:=ops) (!c8 false ops) (List.range ops.size) (Array.replicate ops.size false)
   rw [List.length_range] at this
   exact this
  have:=Ub hT (!c8 false ops) (X:=X) (P:=P) (T:=T) (Γ:=Γ) (Q:= λe a w=>e= .normal/\Q .normal a w) (n:=ops.size-(Jb ops).length) (st1:=a7) (λc a w hq=>by cases hq.1) gB (List.range ops.size) (Array.replicate ops.size false) st a _ h1 BK λa' w' h'=>
   du hT Lb (λst' a' w' hk hr=>⟨rfl,hQ st' a' w' hk hr⟩) _ _ _ _ _ h2 h'
  have e:(Eo (!c8 false ops) ops (List.range ops.size) (Array.replicate ops.size false)).length+(ops.size-(Jb ops).length)=ops.size:=by
   have e2:(Eo (!c8 false ops) ops (List.range ops.size) (Array.replicate ops.size false)).length=(Jb ops).length:=rfl
   omega
  rw [e] at this
  exact this
end
end Go.Proofs.Ytjbdmibbbpdnnaa
