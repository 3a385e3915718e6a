/-
  Part 25 of the proof that the statement FnExactStageWord holds.
-/
import Derived.Test.YtjbdmibbbpdnnaaCStageWord23
namespace Go.Proofs.Ytjbdmibbbpdnnaa
open Go.RowKit
section
variable {P:Program} {T:Tab} {Γ:Env} {X:Ctx} {w w':World} {π:Pi} {ops:Array Oper} {hd tl:List Nat}
structure Rn (ops:Array Oper) (tl fl:List Nat) (Ac:Array Bool):Prop where
 size:Ac.size=ops.size
 done: ∀i,i∈fl->Ac.getD i false=true
 closed: ∀j oj,ops[j]?=some oj->Ac.getD j false=true-> ∀e∈oj.after,Region.binds .any e=true->Ac.getD e.on false=true
 tail: ∀t,t∈tl->Ac.getD t true=false
theorem Rn.set {fl:List Nat} {i:Nat} {Ac:Array Bool} (inv:Rn ops tl fl Ac) (hi:i∈Region.ready .any ops Ac) (Qg:i∉tl):Rn ops tl fl (Ac.setIfInBounds i true):=by
 obtain ⟨_,oi,hoi,Hw⟩:=mem_ready.1 hi
 refine ⟨by simp [inv.size],λk hk=>getD_set_true (inv.done k hk),λj oj hj hl e he hb=>?_,λt ht=>by
  have Ek:i≠t:= λe=>Qg (by rw [e];exact ht)
  rw [getD_set_ne true Ek];exact inv.tail t ht⟩
 by_cases iZ:i=j
 ·subst iZ
  have:oj=oi:=Option.some.inj (hj.symm.trans hoi)
  subst this
  exact getD_set_true (Hw e he hb)
 ·rw [getD_set_ne false iZ] at hl
  exact getD_set_true (inv.closed j oj hj hl e he hb)
theorem lY: ∀(k:Nat) (r:List Nat),fH.chain ops k r=true-> ∀t,t∈r-> ∃k',(k'=k\/k'∈r)/\Region.waitsFor .any ops t k'=true
 |_,[],_,t,ht=>by cases ht
 |k,t0::r,h,t,ht=>by
  simp only [fH.chain,Bool.and_eq_true] at h
  rcases List.mem_cons.1 ht with rfl|ht
  ·exact ⟨k, .inl rfl,h.1⟩
  ·obtain ⟨k',h1,h2⟩:=lY t0 r h.2 t ht
   exact ⟨k', .inr (by rcases h1 with rfl|h1<;>simp [*]),h2⟩
theorem wN {fl:List Nat} {Ac:Array Bool} (hs:fH ops hd tl=true) (inv:Rn ops tl fl Ac) (Vx: ∀i,i∈hd->i<ops.size):
  ∀(d i:Nat),ops.size-i=d->i∈hd->Ac.getD i true=false-> ∀t,t∈tl->t∉Region.ready .any ops Ac:=by
 cases tl with
 |nil=>intro d i _ _ _ t ht;cases ht
 |cons f r=>
  simp only [fH,Bool.and_eq_true] at hs
  obtain ⟨lv,AG⟩:=hs
  intro d
  induction d using Nat.strongRecOn with
  |_ d ih=>
   intro i YJ hi GB t ht hr
   obtain ⟨_,ot,hot,Hw⟩:=mem_ready.1 hr
   rcases List.mem_cons.1 ht with rfl|gB
   ·have h1:=List.all_eq_true.1 lv i hi
    obtain ⟨j,hj,hj2⟩:=List.any_eq_true.1 h1
    simp only [Bool.and_eq_true,decide_eq_true_eq] at hj2
    obtain ⟨oj,RI,e,he,hb,ZD⟩:=Region.waitsFor_spec hj2.2
    rcases List.mem_cons.1 hj with rfl|NL
    ·have:oj=ot:=Option.some.inj (RI.symm.trans hot)
     subst this
     have h2:=Hw e he hb
     rw [ZD,getD_both GB] at h2
     cases h2
    ·cases hl:Ac.getD j false with
     |true=>
      have h2:=inv.closed j oj RI hl e he hb
      rw [ZD,getD_both GB] at h2
      cases h2
     |false=>
      have hjs:j<Ac.size:=by rw [inv.size];exact Vx j NL
      have:=Vx j NL
      exact ih (ops.size-j) (by omega) j rfl NL (getD_in hjs hl) t (by simp) hr
   ·obtain ⟨k',h1,h2⟩:=lY f r AG t gB
    obtain ⟨o',WX,e,he,hb,ZD⟩:=Region.waitsFor_spec h2
    have:o'=ot:=Option.some.inj (WX.symm.trans hot)
    subst this
    have h3:=Hw e he hb
    have hk:k'∈f::r:=by rcases h1 with rfl|h1<;>simp [*]
    rw [ZD,getD_both (inv.tail k' hk)] at h3
    cases h3
def GD (T:Tab) (Γ:Env) (ops:Array Oper) (hd:List Nat) (L:Array Bool->St->Prop):Nat->Array Bool->St->Prop
 |0,Ac,st=>L Ac st
 |f+1,Ac,st=>
  Region.ready .any ops Ac≠ []/\ ∀i∈Region.ready .any ops Ac,i∈hd/\ ∃o v,ops[i]?=some o/\bo T Γ ops st o=some v/\GD T Γ ops hd L f (Ac.setIfInBounds i true) (st.put o.dst v)
theorem tQ (hT:Bz P T) (Mb:Gz P Γ) {Q:Exit->Act->World->Prop} {K:Act->World->Prop} {st:St} {a:Act} (h:Rel X st a w) {i:Nat} {o:Oper} {v:AV} (ho:ops[i]?=some o) (hv:bo T Γ ops st o=some v)
  (hK: ∀a' w',Rel X (st.put o.dst v) a' w'->K a' w'):wpOp P ops Q i K a w:=by
 obtain ⟨π,h⟩:=h
 have run:Rq T Γ st o=some v->o.wp P a w K Q:= λhe=>kL (X:=X) (st':=st) (av:=v) (uD hT Mb h o v he) hK
 have skip:v= .at .skip->K (a.put o.dst undef) w:= λe=>by subst e;exact hK _ _ ⟨π,h.put o.dst wz⟩
 unfold wpOp
 simp only [ho]
 unfold bo at hv
 split at hv
 ·rename_i hg
  rw [if_pos (by simp [Region.wanted,hg])]
  exact .inl (run hv)
 ·rename_i j want hg
  split at hv
  ·rename_i b hb
   have hy:=(Zh h j).1 b hb
   split at hv
   ·rename_i xN
    rw [if_pos (by simp only [Region.wanted,hg,hy];simpa using xN)]
    exact .inl (run hv)
   ·rename_i xN
    rw [if_neg (by simp only [Region.wanted,hg,hy];simpa using xN)]
    simp only [Option.some.injEq] at hv
    exact skip hv.symm
  ·rename_i hb
   have hy:=(Zh h j).2 hb
   rw [if_neg (by simp [Region.wanted,hg,hy])]
   simp only [Option.some.injEq] at hv
   exact skip hv.symm
  ·cases hv
theorem eI (hT:Bz P T) (Mb:Gz P Γ) {g:Nat} {L:Array Bool->St->Prop} {Q:Exit->Act->World->Prop} (hL: ∀Ac st a w,L Ac st->Rel X st a w->wpAny P .any ops Q g Ac a w):
  ∀(f:Nat) (Ac:Array Bool) (st:St) (a:Act) (w:World),GD T Γ ops hd L f Ac st->Rel X st a w->wpAny P .any ops Q (f+g) Ac a w
 |0,Ac,st,a,w,h,hr=>by rw [Nat.zero_add];exact hL _ _ _ _ h hr
 |f+1,Ac,st,a,w,h,hr=>by
  rw [show f+1+g=(f+g)+1 by omega]
  refine ⟨λh0=>absurd h0 h.1,λi hi=>?_⟩
  obtain ⟨_,o,v,ho,hv,ec⟩:=h.2 i hi
  exact tQ hT Mb hr ho hv λa' w' h'=>eI hT Mb hL f _ _ _ _ ec h'
theorem xj {fl:List Nat} {i:Nat} {oi:Oper} {v:AV} {L:Array Bool->St->Prop} (hi:ops[i]?=some oi) (hs:fH ops hd tl=true) (Vx: ∀i,i∈hd->i<ops.size) (Qg:i∈hd)
  (Hw: ∀j,j<ops.size->j∈fl\/j∈hd\/j∈tl) (uU: ∀j,j∈hd->j∉tl) (YN: ∀Ac st,L Ac st-> ∀j∈Region.ready .any ops Ac,j∈tl):
  ∀(f:Nat) (Ac:Array Bool) (st:St),Rn ops tl fl Ac->
   (∀j oj,ops[j]?=some oj->j≠i->Ac.getD j true=false->(∀e∈oj.after,Region.binds .any e=true->e.on≠i)->oi.apart ops oj=true)->
   i∈Region.ready .any ops Ac->bo T Γ ops st oi=some v->
   GD T Γ ops hd L f (Ac.setIfInBounds i true) (st.put oi.dst v)->GD T Γ ops hd L (f+1) Ac st:=by
 intro f
 have Aac: ∀Ac,Rn ops tl fl Ac->i∈Region.ready .any ops Ac-> ∀j,j∈Region.ready .any ops Ac->j∈hd:=by
  intro Ac inv hr j hj
  obtain ⟨GB,oj,RI,_⟩:=mem_ready.1 hj
  rcases Hw j (Array.getElem?_eq_some_iff.1 RI).1 with h|h|h
  ·have h1:=inv.done j h
   rw [getD_both GB] at h1;cases h1
  ·exact h
  ·exact absurd hj (wN hs inv Vx _ i rfl Qg (mem_ready.1 hr).1 j h)
 induction f with
 |zero=>
  intro Ac st inv _ hr hv Hh
  refine ⟨λh=>(by rw [h] at hr;cases hr),λj hj=>?_⟩
  have NL:=Aac Ac inv hr j hj
  refine ⟨NL,?_⟩
  by_cases om:j=i
  ·subst om;exact ⟨oi,v,hi,hv,Hh⟩
  ·exact absurd (YN _ _ Hh j (ready_mono hj om)) (uU j NL)
 |succ f ih=>
  intro Ac st inv gA hr hv Hh
  have GB:=(mem_ready.1 hr).1
  refine ⟨λh=>(by rw [h] at hr;cases hr),λj hj=>?_⟩
  have NL:=Aac Ac inv hr j hj
  refine ⟨NL,?_⟩
  by_cases om:j=i
  ·subst om;exact ⟨oi,v,hi,hv,Hh⟩
  ·obtain ⟨_,oj,vj,RI,hvj,ec⟩:=Hh.2 j (ready_mono hj om)
   obtain ⟨YT,oj',Af9,YF⟩:=mem_ready.1 hj
   have:oj'=oj:=Option.some.inj (Af9.symm.trans RI)
   subst this
   have mz: ∀e∈oj'.after,Region.binds .any e=true->e.on≠i:= λe he hb heq=>by
    have h1:=YF e he hb
    rw [heq,getD_both GB] at h1
    cases h1
   obtain ⟨p1,p2,p3⟩:=Oper.apart_spec (gA j oj' RI om YT mz)
   rw [wQ p1] at hvj
   refine ⟨oj',vj,RI,hvj,?_⟩
   have TB: ∀k ok,ops[k]?=some ok->k≠i->(Ac.setIfInBounds j true).getD k true=false->
     (∀e∈ok.after,Region.binds .any e=true->e.on≠i)->oi.apart ops ok=true:= λk ok hk hki ZY WW=>by
    refine gA k ok hk hki ?_ WW
    by_cases hjk:j=k
    ·subst hjk;exact YT
    ·rw [getD_set_ne true hjk] at ZY;exact ZY
   refine ih (Ac.setIfInBounds j true) (st.put oj'.dst vj) (inv.set hj (uU j NL)) TB (ready_mono hr (Ne.symm om)) (by rw [wQ p3];exact hv) ?_
   rw [Array.setIfInBounds_comm _ _ om,<-St.put_comm st v vj p2]
   exact ec
theorem wx: ∀(l:List Nat) (Ac:Array Bool),hY ops l Ac=true-> ∀j∈Region.ready .any ops Ac,j∈l
 | [],Ac,h,j,hj=>by simp only [hY,List.isEmpty_iff] at h;rw [h] at hj;cases hj
 |k::r,Ac,h,j,hj=>by
  simp only [hY,Bool.and_eq_true,decide_eq_true_eq] at h
  rw [h.1] at hj
  simp at hj
  simp [hj]
theorem tX {fl:List Nat} (j4:Region.noSelect ops=true) (hs:fH ops hd tl=true) (Vx: ∀i,i∈hd->i<ops.size) (Hw: ∀j,j<ops.size->j∈fl\/j∈hd\/j∈tl) (uU: ∀j,j∈hd->j∉tl) (st':St):
  ∀(l:List Nat) (Ac:Array Bool) (st:St),(∀i,i∈l->i∈hd)->Rn ops tl fl Ac->iY ops tl l Ac=true->Ea T Γ ops l st=some st'->
  GD T Γ ops hd (λs9 s=>hY ops tl s9=true/\s=st') l.length Ac st
 | [],Ac,st,_,_,hB,he=>by
  simp only [Ea,Option.some.injEq] at he
  exact ⟨by simpa [iY] using hB,he⟩
 |k::l,Ac,st,hl,inv,hB,he=>by
  simp only [iY,Bool.and_eq_true] at hB
  obtain ⟨⟨hr,hf⟩,hB'⟩:=hB
  have hkh:=hl k (by simp)
  have fm:k∈Region.ready .any ops Ac:=by simpa using hr
  simp only [Ea] at he
  split at he
  ·cases he
  ·rename_i o ho
   split at he
   ·rename_i v hv
    exact xj ho hs Vx hkh Hw uU (λs9 s hL=>wx tl s9 hL.1) l.length Ac st inv (Region.free_spec ho hf) fm hv
     (tX j4 hs Vx Hw uU st' l _ _ (λi hi=>hl i (by simp [hi])) (inv.set fm (uU k hkh)) hB' he)
   ·cases he
theorem eK {Q:Exit->Act->World->Prop} : ∀(l:List Nat) (Ac:Array Bool) (a:Act) (w:World),hY ops l Ac=true->wpOps P ops Q l a w->wpAny P .any ops Q l.length Ac a w
 | [],Ac,a,w,hB,h=>⟨by simpa [hY] using hB,h⟩
 |k::r,Ac,a,w,hB,h=>by
  simp only [hY,Bool.and_eq_true,decide_eq_true_eq] at hB
  refine ⟨λh1=>(by rw [hB.1] at h1;cases h1),λi hi=>?_⟩
  rw [hB.1] at hi
  have hik:i=k:=by simpa using hi
  subst hik
  rw [wpOps_cons] at h
  exact wpOp_mono (λa' w' h'=>eK r _ a' w' hB.2 h') h
theorem gu {P:Program} {o:Oper} {t:Tmp} {a:Act} (h:o.op= .move (.tmp t)) (hg:o.guard=none):Yields P ops o (a.tmps.getD t undef) a:=by
 refine .inl ⟨by simp [Region.wanted,hg],λw=>?_⟩
 unfold execOp
 rw [h]
 rfl
theorem rV {hd tl:List Nat} {i:Nat} (h:gC ops hd tl i=true): ∃o t,ops[i]?=some o/\o.op= .move (.tmp t)/\o.guard=none:=by
 unfold gC at h
 split at h
 ·rename_i o ho
  simp only [Bool.and_eq_true] at h
  have h1:=h.1
  split at h1
  ·rename_i t h2 h3
   exact ⟨o,t,ho,h2,h3⟩
  ·cases h1
 ·cases h
theorem bj {q:Bool} {hd:List Nat} {Q:Exit->Act->World->Prop} (hQ: ∀c a w,¬Q (.panic c) a w) (j4:Region.noSelect ops=true) {n:Nat} {st1:St}
  (ec: ∀Ac st a w,(∀j oj,ops[j]?=some oj->Ac.getD j false=true-> ∀e∈oj.after,Region.binds .any e=true->Ac.getD e.on false=true)->Ac.size=ops.size->iY ops tl hd Ac=true->st=st1->Rel X st a w->
   (∀j,Ac.getD j false=true↔j∈Om q Γ ops)->wpAny P .any ops Q n Ac a w):
  ∀(l dn:List Nat) (Ac:Array Bool) (st:St) (a:Act) (w:World),(∀j,j∈Om q Γ ops↔j∈dn\/j∈l)->(∀i,i∈l-> ∃o t,ops[i]?=some o/\o.op= .move (.tmp t)/\o.guard=none)->
   (∀j oj,ops[j]?=some oj->Ac.getD j false=true-> ∀e∈oj.after,Region.binds .any e=true->Ac.getD e.on false=true)->Ac.size=ops.size->(∀j,Ac.getD j false=true↔j∈dn)->
   gr ops tl hd l Ac=true->Ea T Γ ops l st=some st1->Rel X st a w->wpAny P .any ops Q (l.length+n) Ac a w
 | [],dn,Ac,st,a,w,hm,_,hc,Vx,SX,hf,he,hr=>by
  simp only [Ea,Option.some.injEq] at he
  rw [List.length_nil,Nat.zero_add]
  exact ec Ac st a w hc Vx (by simpa [gr] using hf) he hr λj=>by rw [SX j,hm j];simp
 |k::l,dn,Ac,st,a,w,hm,hl,hc,Vx,SX,hf,he,hr=>by
  simp only [gr,Bool.and_eq_true] at hf
  obtain ⟨⟨h1,h2⟩,h3⟩:=hf
  obtain ⟨o,t,ho,pS,hg⟩:=hl k (by simp)
  have ou:k∈Region.ready .any ops Ac:=by simpa using h1
  obtain ⟨_,o',WX,Hw⟩:=mem_ready.1 ou
  have ho2:o'=o:=Option.some.inj (WX.symm.trans ho)
  subst ho2
  have hks:k<Ac.size:=by rw [Vx];exact (Array.getElem?_eq_some_iff.1 ho).1
  simp only [Ea,ho] at he
  have hv:bo T Γ ops st o'=some (st.get t):=by simp only [bo,hg,Rq,Ch,pS];rfl
  rw [hv] at he
  rw [List.length_cons,show l.length+1+n=(l.length+n)+1 by omega]
  refine wpAny_take ho j4 h2 h1 (λc a w hq=>absurd hq (hQ c _ w)) (gu pS hg) ?_
  obtain ⟨π,hr⟩:=hr
  refine bj hQ j4 ec l (k::dn) _ _ _ _ (λj=>by rw [hm j,List.mem_cons,List.mem_cons];exact ⟨λh=>h.elim (λh=> .inl (.inr h)) (λh=>h.elim (λh=> .inl (.inl h)) .inr),λh=>h.elim (λh=>h.elim (λh=> .inr (.inl h)) .inl) (λh=> .inr (.inr h))⟩) (λi hi=>hl i (by simp [hi])) ?_ (by simp [Vx]) (λj=>?_) h3 he ⟨π,hr.put o'.dst (hr.2.tmps t)⟩
  ·intro j oj hj WR e hem hb
   by_cases FX:k=j
   ·subst FX
    have:oj=o':=Option.some.inj (hj.symm.trans ho)
    subst this
    exact getD_set_true (Hw e hem hb)
   ·rw [getD_set_ne false FX] at WR
    exact getD_set_true (hc j oj hj WR e hem hb)
  ·by_cases FX:k=j
   ·subst FX
    refine ⟨λ_=>by simp,λ_=>?_⟩
    simp [hks]
   ·rw [getD_set_ne false FX,SX j]
    simp [Ne.symm FX]
theorem aM {ops:Array Oper} : ∀(a b:List Nat) (st st':St),Ea T Γ ops (a++b) st=some st'-> ∃s,Ea T Γ ops a st=some s/\Ea T Γ ops b s=some st'
 | [],b,st,st',h=>⟨st,rfl,h⟩
 |i::a,b,st,st',h=>by
  simp only [List.cons_append,Ea] at h⊢
  split at h
  ·cases h
  ·split at h
   ·exact aM a b _ st' h
   ·cases h
theorem iN (hT:Bz P T) (Mb:Gz P Γ) (hm:P.follows .mixedOrders=true) {Q:Exit->Act->World->Prop} {id:Nat} {draw:Bool} {st st':St} {a:Act} (h:Rel X st a w)
  (he:Le T Γ ops draw st=some st') (hQ: ∀a' w',Rel X st' a' w'->Q .normal a' w'):(Code.region id ops draw).wp P Q a w:=by
 unfold Le at he
 cases draw with
 |false=>
  rw [if_neg (by simp)] at he
  exact wp_region_list (dT hT Mb ops.toList st st' a w h he hQ)
 |true=>
  rw [if_pos rfl] at he
  have go: ∀(q:Bool),dw q Γ ops=true->(match Ea T Γ ops (dm q Γ ops) st with
    |some st'=>Iz T Γ ops (Ez q Γ ops) st'
    |none=>none)=some st'->(Code.region id ops true).wp P Q a w:=by
   intro q Yc he
   split at he
   ·rename_i st1 h1
    simp only [dw,Bool.and_eq_true,beq_iff_eq] at Yc
    obtain ⟨⟨⟨j4,hlen⟩,SZ⟩,ZU⟩:=Yc
    refine wp_mono (Q:= λe a w=>e= .normal/\Q .normal a w) ?_ λe a w h=>h.1▸h.2
    refine wp_region_any hm ?_
    have HY:Rel X st a {w with drawn:=w.drawn+1} :=by
     obtain ⟨π,h⟩:=h
     exact ⟨π,h.quiet ⟨rfl,rfl,rfl,Nat.le_refl _,λ_ _=>rfl⟩⟩
    obtain ⟨s0,h0,h1⟩:=aM _ _ _ _ h1
    have Qg: ∀i,i∈Vw q Γ ops->i<ops.size:= λi hi=>List.mem_range.1 (List.mem_filter.1 hi).1
    have Vx: ∀i,i∈Oq q Γ ops->i<ops.size:= λi hi=>Qg i (List.mem_filter.1 hi).1
    have Hw: ∀j,j<ops.size->j∈Om q Γ ops\/j∈Oq q Γ ops\/j∈Ez q Γ ops:= λj hj=>by
     by_cases ht:j∈Ez q Γ ops
     ·exact .inr (.inr ht)
     ·have hh:j∈Vw q Γ ops:=List.mem_filter.2 ⟨List.mem_range.2 hj,by simpa using ht⟩
      cases LV:gC ops (Vw q Γ ops) (Ez q Γ ops) j with
      |true=>exact .inl (List.mem_filter.2 ⟨hh,LV⟩)
      |false=>exact .inr (.inl (List.mem_filter.2 ⟨hh,by rw [LV];rfl⟩))
    have QV: ∀j,j∈Vw q Γ ops->j∉Ez q Γ ops:= λj hj=>by
     have:=(List.mem_filter.1 hj).2
     simpa using this
    have uU: ∀j,j∈Oq q Γ ops->j∉Ez q Γ ops:= λj hj=>QV j (List.mem_filter.1 hj).1
    have YM: ∀j,j∈Om q Γ ops->j∉Ez q Γ ops:= λj hj=>QV j (List.mem_filter.1 hj).1
    have ZW: ∀t,t∈Ez q Γ ops->t<ops.size:=by
     intro t ht
     unfold Ez at ht
     have: ∀(l:List Nat) (acc:List Nat),(∀i,i∈acc->i<ops.size)->(∀i,i∈l->i<ops.size)-> ∀i,i∈l.foldl (init:=acc) (λacc i=>match ops[i]? with
       |some o=>if IV q Γ o||o.after.any (λe=>Region.binds .any e&&acc.contains e.on) then acc++ [i] else acc
       |none=>acc)->i<ops.size:=by
      intro l
      induction l with
      |nil=>intro acc h1 _ i hi;exact h1 i hi
      |cons x l ih=>
       intro acc h1 h2 i hi
       simp only [List.foldl_cons] at hi
       refine ih _ ?_ (λi hi=>h2 i (by simp [hi])) i hi
       intro k hk
       split at hk
       ·split at hk
        ·rcases List.mem_append.1 hk with hk|hk
         ·exact h1 k hk
         ·simp at hk;rw [hk];exact h2 x (by simp)
        ·exact h1 k hk
       ·exact h1 k hk
     exact this (List.range ops.size) [] (by simp) (λi hi=>List.mem_range.1 hi) t ht
    rw [<-hlen]
    refine bj (q:=q) (X:=X) (T:=T) (Γ:=Γ) (tl:=Ez q Γ ops) (hd:=Oq q Γ ops) (st1:=s0) (λc a w hq=>by cases hq.1) j4 ?_ (Om q Γ ops) [] _ st a _ (λj=>by simp)
     (λi hi=>rV (List.mem_filter.1 hi).2) (λj oj _ hl=>(by rw [hlen,getD_replicate_false] at hl;cases hl)) (by simp [hlen]) (λj=>by rw [hlen,getD_replicate_false];simp) (by rw [hlen];exact SZ) h0 HY
    intro Ac s a' w' hc kb YR hs hr LV
    subst hs
    have Ag4:Rn ops (Ez q Γ ops) (Om q Γ ops) Ac:=
     ⟨kb,λi hi=>(LV i).2 hi,hc,λt ht=>getD_in (by rw [kb];exact ZW t ht) (by
      cases hg:Ac.getD t false with
      |false=>rfl
      |true=>exact absurd ht (YM t ((LV t).1 hg)))⟩
    have HA:=tX (T:=T) (Γ:=Γ) j4 ZU Vx Hw uU st1 (Oq q Γ ops) _ s (λi hi=>hi) Ag4 YR h1
    exact eI (X:=X) (P:=P) (Q:= λe a w=>e= .normal/\Q .normal a w) (g:=(Ez q Γ ops).length) hT Mb (λAc s a' w' hL hr=>by
     obtain ⟨Afm,rfl⟩:=hL
     exact eK (Ez q Γ ops) Ac a' w' Afm (dP hT Mb _ _ st' a' w' hr he λa w h=>⟨rfl,hQ a w h⟩)) _ _ _ _ _ HA hr
   ·cases he
  split at he
  ·rename_i Yc;exact go false Yc he
  ·split at he
   ·rename_i Yc;exact go true Yc he
   ·cases he
theorem Xb (q:Bool): ∀(l:List Nat) (Ac:Array Bool),(Ex q ops l Ac).length<=l.length
 | [],_=>Nat.le_refl _
 |i::r,Ac=>by
  simp only [Ex]
  split
  ·simp only [List.length_cons];have:=Xb q r (Ac.setIfInBounds i true);omega
  ·simp only [List.length_cons];have:=Xb q r Ac;omega
theorem wj (hT:Bz P T) {st:St} {a:Act} (h:Ai X π st a w) {i:Nat} {o:Oper} (ho:ops[i]?=some o) (hp:du ops i=true) {v:AV} (hv:bo T Γ ops st o=some v):
  ∃u,Yields P ops o u a/\Am X w π st.heap v u:=by
 unfold du at hp
 rw [ho] at hp
 simp only at hp
 obtain ⟨dst,op,ty,pos,af,gd⟩:=o
 split at hp
 ·rename_i t h3 h4
  simp only at h3 h4;subst h3;subst h4
  refine ⟨a.tmps.getD t undef,gu rfl rfl,?_⟩
  simp only [bo,Rq,Ch,Option.some.injEq] at hv
  subst hv
  exact h.2.tmps t
 ·rename_i x h3 h4
  simp only at h3 h4;subst h3;subst h4
  have e:=Bl h.2 x
  have fin:(∃ad,a.eval x= .pointer (some ad))->Yields P ops ⟨dst, .nilCheck x,ty,pos,af,none⟩ (a.eval x) a:= λ⟨ad,hx⟩=>
   .inl ⟨by simp [Region.wanted],λw=>by simp [execOp,hx]⟩
  simp only [bo,Rq,Ch] at hv
  split at hv
  ·rename_i fr τ y hx
   simp only [Option.some.injEq] at hv;subst hv
   rw [hx] at e
   have e':=e
   obtain ⟨cs,hc,hv⟩:=e
   simp only [Cells] at hc
   obtain ⟨g,o,rfl,_⟩:=hc
   simp only [Ap,Ty.Ab,Bool.false_eq_true,if_false,List.headD_cons] at hv
   exact ⟨_,fin ⟨_,hv⟩,e'⟩
  ·rename_i fr τ y hx
   simp only [Option.some.injEq] at hv;subst hv
   rw [hx] at e
   obtain ⟨cs,hc,hv⟩:=e
   simp only [Cells] at hc
   rcases hc with ⟨h0,_⟩|⟨y',g,o,h0,rfl,hr⟩
   ·cases h0
   simp only [Option.some.injEq] at h0;subst h0
   simp only [Ap,Ty.Ab,Bool.false_eq_true,if_false,List.headD_cons] at hv
   exact ⟨_,fin ⟨_,hv⟩,[_],⟨g,o,rfl,hr⟩,by rw [hv];simp [Ap,Ty.Ab]⟩
  ·rename_i l i hx
   simp only [Option.some.injEq] at hv;subst hv
   rw [hx] at e
   have e':=e
   obtain ⟨r,tid,vs,_,_,hv⟩:=e
   exact ⟨_,fin ⟨_,hv⟩,e'⟩
  ·rename_i l i hx
   simp only [Option.some.injEq] at hv;subst hv
   rw [hx] at e
   have e':=e
   obtain ⟨r,b,sz,n,_,_,_,_,hv⟩:=e
   exact ⟨_,fin ⟨_,hv⟩,e'⟩
  ·cases hv
 ·rename_i s x f h3 h4
  simp only at h3 h4;subst h3;subst h4
  simp only [bo,Rq,Ch] at hv
  obtain ⟨u,h1,h2⟩:=Vr hT (st:=st) _ _ _ _ v (Bl h.2 x) hv
  refine ⟨u, .inl ⟨by simp [Region.wanted],λw=>?_⟩,h2⟩
  have:=h1 w
  simp only [execOp,Sem.run_bind]
  first
   |(rw [this];rfl)
   |simp [this]
 ·cases hp
theorem sE {i:Nat} (h:rW ops i=true):du ops i=true:=by
 unfold rW at h
 unfold du
 split at h
 ·rename_i o ho
  split at h
  ·rename_i h1 h2
   simp only [h1,h2]
  ·cases h
 ·cases h
theorem Vi (hT:Bz P T) (q:Bool) {Q:Exit->Act->World->Prop} (hQ: ∀c a w,¬Q (.panic c) a w) (j4:Region.noSelect ops=true) {n:Nat} {st1:St} :
  ∀(l:List Nat) (Ac:Array Bool) (st:St) (a:Act) (w:World),Ea T Γ ops (Ex q ops l Ac) st=some st1->Rel X st a w->
   (∀a w,Rel X st1 a w->wpAny P .any ops Q n (Ee (Ex q ops l Ac) Ac) a w)->wpAny P .any ops Q ((Ex q ops l Ac).length+n) Ac a w
 | [],Ac,st,a,w,he,hr,hK=>by
  simp only [Ex,Ea,Option.some.injEq] at he
  subst he
  simp only [Ex,List.length_nil,Nat.zero_add]
  exact hK a w hr
 |k::l,Ac,st,a,w,he,hr,hK=>by
  simp only [Ex] at he hK⊢
  split
  ·rename_i hc
   rw [if_pos hc] at he hK
   simp only [Bool.and_eq_true] at hc
   obtain ⟨h0,h1,h2⟩:=hc
   have hp:du ops k=true:=by
    cases q with
    |true=>exact h0
    |false=>exact sE h0
   simp only [Ea] at he
   split at he
   ·cases he
   rename_i o ho
   split at he
   rotate_left
   ·cases he
   rename_i v hv
   obtain ⟨π,hr⟩:=hr
   obtain ⟨u,hy,hu⟩:=wj (Γ:=Γ) hT hr ho hp hv
   rw [List.length_cons,show (Ex q ops l (Ac.setIfInBounds k true)).length+1+n=((Ex q ops l (Ac.setIfInBounds k true)).length+n)+1 by omega]
   refine wpAny_take ho j4 h2 h1 (λc a w hq=>absurd hq (hQ c _ w)) hy ?_
   exact Vi hT q hQ j4 l _ _ _ _ he ⟨π,hr.put o.dst hu⟩ hK
  ·rename_i hc
   rw [if_neg hc] at he hK
   exact Vi hT q hQ j4 l Ac st a w he hr hK
theorem eJ (hT:Bz P T) (Mb:Gz P Γ) {Q:Exit->Act->World->Prop} {K:St->Prop} (hK: ∀st a w,K st->Rel X st a w->Q .normal a w):
  ∀(f:Nat) (Ac:Array Bool) (st:St) (a:Act) (w:World),anyS T Γ ops K f Ac st->Rel X st a w->wpAny P .any ops Q f Ac a w
 |0,Ac,st,a,w,h,hr=>⟨h.1,hK _ _ _ h.2 hr⟩
 |f+1,Ac,st,a,w,h,hr=>by
  refine ⟨λh0=>absurd h0 h.1,λi hi=>?_⟩
  obtain ⟨o,st',ho,he,ec⟩:=h.2 i hi
  obtain ⟨π,hr⟩:=hr
  unfold wpOp
  simp only [ho]
  exact Un hT Mb hr o he λa' w' h'=>eJ hT Mb hK f _ _ _ _ ec h'
theorem yM (hT:Bz P T) (Mb:Gz P Γ) (hm:P.follows .mixedOrders=true) {Q:Exit->Act->World->Prop} {id:Nat} {draw:Bool} {st:St} {K:St->Prop} {a:Act} (h:Rel X st a w)
  (he:qU T Γ ops draw st K) (hQ: ∀st' a' w',K st'->Rel X st' a' w'->Q .normal a' w'):(Code.region id ops draw).wp P Q a w:=by
 rcases he with ⟨st',h1,h2⟩|⟨rfl,j4,bd,h1,h2⟩
 ·exact iN hT Mb hm h h1 λa' w' h'=>hQ st' a' w' h2 h'
 ·refine wp_mono (Q:= λe a w=>e= .normal/\Q .normal a w) ?_ λe a w h=>h.1▸h.2
  refine wp_region_any hm ?_
  have HY:Rel X st a {w with drawn:=w.drawn+1} :=by
   obtain ⟨π,h⟩:=h
   exact ⟨π,h.quiet ⟨rfl,rfl,rfl,Nat.le_refl _,λ_ _=>rfl⟩⟩
  have hlen:(Jx ops).length<=ops.size:=by
   have:=Xb (ops:=ops) (!dh false ops) (List.range ops.size) (Array.replicate ops.size false)
   rw [List.length_range] at this
   exact this
  have:=Vi hT (!dh false ops) (X:=X) (P:=P) (T:=T) (Γ:=Γ) (Q:= λe a w=>e= .normal/\Q .normal a w) (n:=ops.size-(Jx ops).length) (st1:=bd) (λc a w hq=>by cases hq.1) j4 (List.range ops.size) (Array.replicate ops.size false) st a _ h1 HY λa' w' h'=>
   eJ hT Mb (λst' a' w' hk hr=>⟨rfl,hQ st' a' w' hk hr⟩) _ _ _ _ _ h2 h'
  have e:(Ex (!dh false ops) ops (List.range ops.size) (Array.replicate ops.size false)).length+(ops.size-(Jx ops).length)=ops.size:=by
   have e2:(Ex (!dh false ops) ops (List.range ops.size) (Array.replicate ops.size false)).length=(Jx ops).length:=rfl
   omega
  rw [e] at this
  exact this
end
end Go.Proofs.Ytjbdmibbbpdnnaa
