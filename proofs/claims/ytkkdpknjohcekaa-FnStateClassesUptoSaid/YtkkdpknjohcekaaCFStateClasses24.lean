/-
  Part 25 of the proof that the statement FnStateClasses holds.
-/
import Derived.Test.YtkkdpknjohcekaaCFStateClasses23
namespace Go.Proofs.Ytkkdpknjohcekaa
open Go.RowKit
section
variable {P:Program} {T:Tab} {Γ:Env} {X:Ctx} {w w':World} {π:Pi} {ops:Array Oper} {hd tl:List Nat}
structure Yf (ops:Array Oper) (tl fl:List Nat) (Af:Array Bool):Prop where
 size:Af.size=ops.size
 done: ∀i,i∈fl->Af.getD i false=true
 closed: ∀j oj,ops[j]?=some oj->Af.getD j false=true-> ∀e∈oj.after,Region.binds .any e=true->Af.getD e.on false=true
 tail: ∀t,t∈tl->Af.getD t true=false
theorem Yf.set {fl:List Nat} {i:Nat} {Af:Array Bool} (inv:Yf ops tl fl Af) (hi:i∈Region.ready .any ops Af) (dP:i∉tl):Yf ops tl fl (Af.setIfInBounds i true):=by
 obtain ⟨_,oi,hoi,Kl⟩:=mem_ready.1 hi
 refine ⟨by simp [inv.size],λk hk=>getD_set_true (inv.done k hk),λj oj hj hl e he hb=>?_,λt ht=>by
  have Hq:i≠t:= λe=>dP (by rw [e];exact ht)
  rw [getD_set_ne true Hq];exact inv.tail t ht⟩
 by_cases dO:i=j
 ·subst dO
  have:oj=oi:=Ax (hj.symm.trans hoi)
  subst this
  exact getD_set_true (Kl e he hb)
 ·rw [getD_set_ne false dO] at hl
  exact getD_set_true (inv.closed j oj hj hl e he hb)
theorem FG (k:Nat) (r:List Nat) (h:(r.all λt=>(k::r).any λk=>Region.waitsFor .any ops t k)=true): ∀t,t∈r-> ∃k',(k'=k\/k'∈r)/\Region.waitsFor .any ops t k'=true:= λt ht=>by
 obtain ⟨k',h1,h2⟩:=Ht.1 (Ba.1 h t ht)
 exact ⟨k',Ay.1 h1,h2⟩
theorem DK {fl:List Nat} {Af:Array Bool} (hs:se ops hd tl=true) (inv:Yf ops tl fl Af) (Zl: ∀i,i∈hd->i<ops.size):
  ∀(d i:Nat),ops.size-i=d->i∈hd->Af.getD i true=false-> ∀t,t∈tl->t∉Region.ready .any ops Af:=by
 cases tl with
 |nil=>intro d i _ _ _ t ht;cases ht
 |cons f r=>
  simp only [se,Ag] at hs
  obtain ⟨jb,sX⟩:=hs
  intro d
  induction d using Nat.strongRecOn with
  |_ d ih=>
   intro i MZ hi mL t ht hr
   obtain ⟨_,ot,hot,Kl⟩:=mem_ready.1 hr
   rcases Ay.1 ht with rfl|lT
   ·have h1:=Ba.1 jb i hi
    obtain ⟨j,hj,hj2⟩:=Ht.1 h1
    simp only [Ag,Mu] at hj2
    obtain ⟨oj,hoj,e,he,hb,hon⟩:=Region.waitsFor_spec hj2.2
    rcases Ay.1 hj with rfl|YL
    ·have:oj=ot:=Ax (hoj.symm.trans hot)
     subst this
     have h2:=Kl e he hb
     rw [hon,getD_both mL] at h2
     cases h2
    ·cases hl:Af.getD j false with
     |true=>
      have h2:=inv.closed j oj hoj hl e he hb
      rw [hon,getD_both mL] at h2
      cases h2
     |false=>
      have hjs:j<Af.size:=by rw [inv.size];exact Zl j YL
      have:=Zl j YL
      exact ih (ops.size-j) (by omega) j rfl YL (getD_in hjs hl) t (by simp) hr
   ·obtain ⟨k',h1,h2⟩:=FG f r sX t lT
    obtain ⟨o',ho',e,he,hb,hon⟩:=Region.waitsFor_spec h2
    have:o'=ot:=Ax (ho'.symm.trans hot)
    subst this
    have h3:=Kl e he hb
    have hk:k'∈f::r:=by rcases h1 with rfl|h1<;>simp [*]
    rw [hon,getD_both (inv.tail k' hk)] at h3
    cases h3
def RC (T:Tab) (Γ:Env) (ops:Array Oper) (hd:List Nat) (L:Array Bool->St->Prop):Nat->Array Bool->St->Prop
 |0,Af,st=>L Af st
 |f+1,Af,st=>
  Region.ready .any ops Af≠ []/\ ∀i∈Region.ready .any ops Af,i∈hd/\ ∃o v,ops[i]?=some o/\Vz T Γ ops st o=some v/\RC T Γ ops hd L f (Af.setIfInBounds i true) (st.put o.dst v)
theorem z0 (hT:Dn P T) (Oh:Ki P Γ) {Q:Exit->Act->World->Prop} {K:Act->World->Prop} {st:St} {a:Act} (h:Rel X st a w) {i:Nat} {o:Oper} {v:AV} (ho:ops[i]?=some o) (hv:Vz T Γ ops st o=some v)
  (hK: ∀a' w',Rel X (st.put o.dst v) a' w'->K a' w'):wpOp P ops Q i K a w:=by
 obtain ⟨π,h⟩:=h
 have run:Wc T Γ st o=some v->o.wp P a w K Q:= λhe=>oX (X:=X) (st':=st) (av:=v) (zH hT Oh h o v he) hK
 have skip:v= .at .skip->K (a.put o.dst undef) w:= λe=>by subst e;exact hK _ _ ⟨π,h.put o.dst CT⟩
 unfold wpOp
 simp only [ho]
 unfold Vz at hv
 split at hv
 ·rename_i hg
  rw [Ac (by simp [Region.wanted,hg])]
  exact .inl (run hv)
 ·rename_i j want hg
  split at hv
  ·rename_i b hb
   have hy:=(dE h j).1 b hb
   split at hv
   ·rename_i FW
    rw [Ac (by simp only [Region.wanted,hg,hy];simpa using FW)]
    exact .inl (run hv)
   ·rename_i FW
    rw [Ai (by simp only [Region.wanted,hg,hy];simpa using FW)]
    simp only [Aa] at hv
    exact skip hv.symm
  ·rename_i hb
   have hy:=(dE h j).2 hb
   rw [Ai (by simp [Region.wanted,hg,hy])]
   simp only [Aa] at hv
   exact skip hv.symm
  ·cases hv
theorem jX (hT:Dn P T) (Oh:Ki P Γ) {g:Nat} {L:Array Bool->St->Prop} {Q:Exit->Act->World->Prop} (hL: ∀Af st a w,L Af st->Rel X st a w->wpAny P .any ops Q g Af a w):
  ∀(f:Nat) (Af:Array Bool) (st:St) (a:Act) (w:World),RC T Γ ops hd L f Af st->Rel X st a w->wpAny P .any ops Q (f+g) Af a w
 |0,Af,st,a,w,h,hr=>by rw [Cj];exact hL _ _ _ _ h hr
 |f+1,Af,st,a,w,h,hr=>by
  rw [show f+1+g=(f+g)+1 by omega]
  refine ⟨λh0=>absurd h0 h.1,λi hi=>?_⟩
  obtain ⟨_,o,v,ho,hv,eV⟩:=h.2 i hi
  exact z0 hT Oh hr ho hv λa' w' h'=>jX hT Oh hL f _ _ _ _ eV h'
theorem EO {fl:List Nat} {i:Nat} {oi:Oper} {v:AV} {L:Array Bool->St->Prop} (hi:ops[i]?=some oi) (hs:se ops hd tl=true) (Zl: ∀i,i∈hd->i<ops.size) (dP:i∈hd)
  (Kl: ∀j,j<ops.size->j∈fl\/j∈hd\/j∈tl) (AD: ∀j,j∈hd->j∉tl) (Agi: ∀Af st,L Af st-> ∀j∈Region.ready .any ops Af,j∈tl):
  ∀(f:Nat) (Af:Array Bool) (st:St),Yf ops tl fl Af->
   (∀j oj,ops[j]?=some oj->j≠i->Af.getD j true=false->(∀e∈oj.after,Region.binds .any e=true->e.on≠i)->oi.apart ops oj=true)->
   i∈Region.ready .any ops Af->Vz T Γ ops st oi=some v->
   RC T Γ ops hd L f (Af.setIfInBounds i true) (st.put oi.dst v)->RC T Γ ops hd L (f+1) Af st:=by
 intro f
 have Ai4: ∀Af,Yf ops tl fl Af->i∈Region.ready .any ops Af-> ∀j,j∈Region.ready .any ops Af->j∈hd:=by
  intro Af inv hr j hj
  obtain ⟨mL,oj,hoj,_⟩:=mem_ready.1 hj
  rcases Kl j (Mq.1 hoj).1 with h|h|h
  ·have h1:=inv.done j h
   rw [getD_both mL] at h1;cases h1
  ·exact h
  ·exact absurd hj (DK hs inv Zl _ i rfl dP (mem_ready.1 hr).1 j h)
 induction f with
 |zero=>
  intro Af st inv _ hr hv Hh
  refine ⟨λh=>(by rw [h] at hr;cases hr),λj hj=>?_⟩
  have YL:=Ai4 Af inv hr j hj
  refine ⟨YL,?_⟩
  by_cases pM:j=i
  ·subst pM;exact ⟨oi,v,hi,hv,Hh⟩
  ·exact absurd (Agi _ _ Hh j (ready_mono hj pM)) (AD j YL)
 |succ f ih=>
  intro Af st inv lN hr hv Hh
  have mL:=(mem_ready.1 hr).1
  refine ⟨λh=>(by rw [h] at hr;cases hr),λj hj=>?_⟩
  have YL:=Ai4 Af inv hr j hj
  refine ⟨YL,?_⟩
  by_cases pM:j=i
  ·subst pM;exact ⟨oi,v,hi,hv,Hh⟩
  ·obtain ⟨_,oj,vj,hoj,hvj,eV⟩:=Hh.2 j (ready_mono hj pM)
   obtain ⟨Agp,oj',Aml,Ag9⟩:=mem_ready.1 hj
   have:oj'=oj:=Ax (Aml.symm.trans hoj)
   subst this
   have r7: ∀e∈oj'.after,Region.binds .any e=true->e.on≠i:= λe he hb heq=>by
    have h1:=Ag9 e he hb
    rw [heq,getD_both mL] at h1
    cases h1
   obtain ⟨p1,p2,p3⟩:=Oper.apart_spec (lN j oj' hoj pM Agp r7)
   rw [DS p1] at hvj
   refine ⟨oj',vj,hoj,hvj,?_⟩
   have Acq: ∀k ok,ops[k]?=some ok->k≠i->(Af.setIfInBounds j true).getD k true=false->
     (∀e∈ok.after,Region.binds .any e=true->e.on≠i)->oi.apart ops ok=true:= λk ok hk hki Aht hno=>by
    refine lN k ok hk hki ?_ hno
    by_cases hjk:j=k
    ·subst hjk;exact Agp
    ·rw [getD_set_ne true hjk] at Aht;exact Aht
   refine ih (Af.setIfInBounds j true) (st.put oj'.dst vj) (inv.set hj (AD j YL)) Acq (ready_mono hr (Fv pM)) (by rw [DS p3];exact hv) ?_
   rw [Array.setIfInBounds_comm _ _ pM,<-St.put_comm st v vj p2]
   exact eV
theorem oO: ∀(l:List Nat) (Af:Array Bool),my ops l Af=true-> ∀j∈Region.ready .any ops Af,j∈l
 | [],Af,h,j,hj=>by simp only [my,List.isEmpty_iff] at h;rw [h] at hj;cases hj
 |k::r,Af,h,j,hj=>by
  simp only [my,Ag,Li,Mu] at h
  rcases h.1 with h1|h1
  ·rw [h1] at hj
   simp at hj
   simp [hj]
  ·by_cases e:j=k
   ·simp [e]
   ·exact An _ (oO r _ h.2 j (ready_mono hj e))
theorem zb {fl:List Nat} (aQ:Region.noSelect ops=true) (hs:se ops hd tl=true) (Zl: ∀i,i∈hd->i<ops.size) (Kl: ∀j,j<ops.size->j∈fl\/j∈hd\/j∈tl) (AD: ∀j,j∈hd->j∉tl) (st':St):
  ∀(l:List Nat) (Af:Array Bool) (st:St),(∀i,i∈l->i∈hd)->Yf ops tl fl Af->ng ops tl l Af=true->Fq T Γ ops l st=some st'->
  RC T Γ ops hd (λxk s=>my ops tl xk=true/\s=st') l.length Af st
 | [],Af,st,_,_,hB,he=>by
  simp only [Fq,Aa] at he
  exact ⟨by simpa [ng] using hB,he⟩
 |k::l,Af,st,hl,inv,hB,he=>by
  simp only [ng,Ag] at hB
  obtain ⟨⟨hr,hf⟩,hB'⟩:=hB
  have hkh:=hl k (by simp)
  have ja:k∈Region.ready .any ops Af:=by simpa using hr
  simp only [Fq] at he
  split at he
  ·cases he
  ·rename_i o ho
   split at he
   ·rename_i v hv
    exact EO ho hs Zl hkh Kl AD (λxk s hL=>oO tl xk hL.1) l.length Af st inv (Region.free_spec ho hf) ja hv
     (zb aQ hs Zl Kl AD st' l _ _ (λi hi=>hl i (by simp [hi])) (inv.set ja (AD k hkh)) hB' he)
   ·cases he
theorem wP {Q:Exit->Act->World->Prop} (hQ: ∀e a w,Q e a w->e= .normal) {k i:Nat} {x:Operand} {o:Oper} (ho:ops[k]?=some o) (pO:o.op= .extract x i) (hg:o.guard=none) {K:Act->World->Prop} {a:Act} {w:World}
  (h:wpOp P ops Q k K a w): ∃v,Yields P ops o v a/\K (a.put o.dst v) w:=by
 unfold wpOp at h
 simp only [ho] at h
 have hw:Region.wanted o (yielded ops a.tmps)=true:=by simp [Region.wanted,hg]
 rw [Ac hw] at h
 rcases h with h|⟨_,a',w',h⟩
 ·unfold Oper.wp at h
  have hr: ∀w,(execOp a.eval o).run P w=(do pure (Next.value (<-Instr.extract (a.eval x) i))).run P w:= λw=>by unfold execOp;rw [pO]
  rw [hr] at h
  unfold Instr.extract at h hr
  split at h
  ·rename_i vs hx
   split at h
   ·rename_i v hv
    rw [hx] at hr
    simp only [hv] at hr
    exact ⟨v, .inl ⟨hw,λw=>(hr w).trans rfl⟩,h⟩
   ·exact h.elim
  ·exact h.elim
 ·cases hQ _ _ _ h
theorem cv {Q:Exit->Act->World->Prop} (hQ: ∀e a w,Q e a w->e= .normal) (aQ:Region.noSelect ops=true): ∀(l:List Nat) (Af:Array Bool) (a:Act) (w:World),my ops l Af=true->wpOps P ops Q l a w->wpAny P .any ops Q l.length Af a w
 | [],Af,a,w,hB,h=>⟨by simpa [my] using hB,h⟩
 |k::r,Af,a,w,hB,h=>by
  simp only [my,Ag,Li,Mu] at hB
  rw [wpOps_cons] at h
  rcases hB.1 with h0|⟨h1,h2,h3⟩
  ·refine ⟨λh1=>(by rw [h0] at h1;cases h1),λi hi=>?_⟩
   rw [h0] at hi
   have hik:i=k:=by simpa using hi
   subst hik
   exact wpOp_mono (λa' w' h'=>cv hQ aQ r _ a' w' hB.2 h') h
  ·unfold TS at h1
   split at h1
   ·rename_i o ho
    split at h1
    ·rename_i x i pO hg
     obtain ⟨v,hy,hk⟩:=wP hQ ho pO hg h
     exact wpAny_take ho aQ h3 h2 (λc a w hq=>by cases hQ _ _ _ hq) hy (cv hQ aQ r _ _ w hB.2 hk)
    ·cases h1
   ·cases h1
theorem lH {P:Program} {o:Oper} {t:Tmp} {a:Act} (h:o.op= .move (.tmp t)) (hg:o.guard=none):Yields P ops o (a.tmps.getD t undef) a:=by
 refine .inl ⟨by simp [Region.wanted,hg],λw=>?_⟩
 unfold execOp
 rw [h]
 rfl
theorem x8 {hd tl:List Nat} {i:Nat} (h:lX ops hd tl i=true): ∃o t,ops[i]?=some o/\o.op= .move (.tmp t)/\o.guard=none:=by
 unfold lX at h
 split at h
 ·rename_i o ho
  simp only [Ag] at h
  have h1:=h.1
  split at h1
  ·rename_i t h2 h3
   exact ⟨o,t,ho,h2,h3⟩
  ·cases h1
 ·cases h
theorem fu {q:Bool} {hd:List Nat} {Q:Exit->Act->World->Prop} (hQ: ∀c a w,¬Q (.panic c) a w) (aQ:Region.noSelect ops=true) {n:Nat} {st1:St}
  (eV: ∀Af st a w,(∀j oj,ops[j]?=some oj->Af.getD j false=true-> ∀e∈oj.after,Region.binds .any e=true->Af.getD e.on false=true)->Af.size=ops.size->ng ops tl hd Af=true->st=st1->Rel X st a w->
   (∀j,Af.getD j false=true↔j∈Va q Γ ops)->wpAny P .any ops Q n Af a w):
  ∀(l dn:List Nat) (Af:Array Bool) (st:St) (a:Act) (w:World),(∀j,j∈Va q Γ ops↔j∈dn\/j∈l)->(∀i,i∈l-> ∃o t,ops[i]?=some o/\o.op= .move (.tmp t)/\o.guard=none)->
   (∀j oj,ops[j]?=some oj->Af.getD j false=true-> ∀e∈oj.after,Region.binds .any e=true->Af.getD e.on false=true)->Af.size=ops.size->(∀j,Af.getD j false=true↔j∈dn)->
   lG ops tl hd l Af=true->Fq T Γ ops l st=some st1->Rel X st a w->wpAny P .any ops Q (l.length+n) Af a w
 | [],dn,Af,st,a,w,hm,_,hc,Zl,hdn,hf,he,hr=>by
  simp only [Fq,Aa] at he
  rw [Ho,Cj]
  exact eV Af st a w hc Zl (by simpa [lG] using hf) he hr λj=>by rw [hdn j,hm j];simp
 |k::l,dn,Af,st,a,w,hm,hl,hc,Zl,hdn,hf,he,hr=>by
  simp only [lG,Ag] at hf
  obtain ⟨⟨h1,h2⟩,h3⟩:=hf
  obtain ⟨o,t,ho,pO,hg⟩:=hl k (by simp)
  have tt:k∈Region.ready .any ops Af:=by simpa using h1
  obtain ⟨_,o',ho',Kl⟩:=mem_ready.1 tt
  have ho2:o'=o:=Ax (ho'.symm.trans ho)
  subst ho2
  have hks:k<Af.size:=by rw [Zl];exact (Mq.1 ho).1
  simp only [Fq,ho] at he
  have hv:Vz T Γ ops st o'=some (st.get t):=by simp only [Vz,hg,Wc,Eu,pO];rfl
  rw [hv] at he
  rw [Aw,show l.length+1+n=(l.length+n)+1 by omega]
  refine wpAny_take ho aQ h2 h1 (λc a w hq=>absurd hq (hQ c _ w)) (lH pO hg) ?_
  obtain ⟨π,hr⟩:=hr
  refine fu hQ aQ eV l (k::dn) _ _ _ _ (λj=>by rw [hm j,Ay,Ay];exact ⟨λh=>h.elim (λh=> .inl (.inr h)) (λh=>h.elim (λh=> .inl (.inl h)) .inr),λh=>h.elim (λh=>h.elim (λh=> .inr (.inl h)) .inl) (λh=> .inr (.inr h))⟩) (λi hi=>hl i (by simp [hi])) ?_ (by simp [Zl]) (λj=>?_) h3 he ⟨π,hr.put o'.dst (hr.2.tmps t)⟩
  ·intro j oj hj hlj e hem hb
   by_cases QX:k=j
   ·subst QX
    have:oj=o':=Ax (hj.symm.trans ho)
    subst this
    exact getD_set_true (Kl e hem hb)
   ·rw [getD_set_ne false QX] at hlj
    exact getD_set_true (hc j oj hj hlj e hem hb)
  ·by_cases QX:k=j
   ·subst QX
    refine ⟨λ_=>by simp,λ_=>?_⟩
    simp [hks]
   ·rw [getD_set_ne false QX,hdn j]
    simp [Fv QX]
theorem eR {ops:Array Oper} : ∀(a b:List Nat) (st st':St),Fq T Γ ops (a++b) st=some st'-> ∃s,Fq T Γ ops a st=some s/\Fq T Γ ops b s=some st'
 | [],b,st,st',h=>⟨st,rfl,h⟩
 |i::a,b,st,st',h=>by
  simp only [Jy,Fq] at h⊢
  split at h
  ·cases h
  ·split at h
   ·exact eR a b _ st' h
   ·cases h
theorem mW (hT:Dn P T) (Oh:Ki P Γ) (hm:P.follows .mixedOrders=true) {Q:Exit->Act->World->Prop} {id:Nat} {draw:Bool} {st st':St} {a:Act} (h:Rel X st a w)
  (he:Rb T Γ ops draw st=some st') (hQ: ∀a' w',Rel X st' a' w'->Q .normal a' w'):(Code.region id ops draw).wp P Q a w:=by
 unfold Rb at he
 cases draw with
 |false=>
  rw [Ai (by simp)] at he
  exact wp_region_list (jq hT Oh ops.toList st st' a w h he hQ)
 |true=>
  rw [Ac rfl] at he
  have go: ∀(q:Bool),bL q Γ ops=true->(match Fq T Γ ops (iH q Γ ops) st with
    |some st'=>Mk T Γ ops (Iy q Γ ops) st'
    |none=>none)=some st'->(Code.region id ops true).wp P Q a w:=by
   intro q lR he
   split at he
   ·rename_i st1 h1
    simp only [bL,Ag,beq_iff_eq] at lR
    obtain ⟨⟨⟨aQ,hlen⟩,Aco⟩,Ahl⟩:=lR
    refine wp_mono (Q:= λe a w=>e= .normal/\Q .normal a w) ?_ λe a w h=>h.1▸h.2
    refine wp_region_any hm ?_
    have hrel:Rel X st a {w with drawn:=w.drawn+1} :=by
     obtain ⟨π,h⟩:=h
     exact ⟨π,h.quiet ⟨rfl,rfl,rfl,Ao _,λ_ _=>rfl⟩⟩
    obtain ⟨s0,h0,h1⟩:=eR _ _ _ _ h1
    have dP: ∀i,i∈bE q Γ ops->i<ops.size:= λi hi=>Ej.1 (Bd.1 hi).1
    have Zl: ∀i,i∈Vf q Γ ops->i<ops.size:= λi hi=>dP i (Bd.1 hi).1
    have Kl: ∀j,j<ops.size->j∈Va q Γ ops\/j∈Vf q Γ ops\/j∈Iy q Γ ops:= λj hj=>by
     by_cases ht:j∈Iy q Γ ops
     ·exact .inr (.inr ht)
     ·have hh:j∈bE q Γ ops:=Bd.2 ⟨Ej.2 hj,by simpa using ht⟩
      cases QU:lX ops (bE q Γ ops) (Iy q Γ ops) j with
      |true=>exact .inl (Bd.2 ⟨hh,QU⟩)
      |false=>exact .inr (.inl (Bd.2 ⟨hh,by rw [QU];rfl⟩))
    have Aaz: ∀j,j∈bE q Γ ops->j∉Iy q Γ ops:= λj hj=>by
     have:=(Bd.1 hj).2
     simpa using this
    have AD: ∀j,j∈Vf q Γ ops->j∉Iy q Γ ops:= λj hj=>Aaz j (Bd.1 hj).1
    have Agg: ∀j,j∈Va q Γ ops->j∉Iy q Γ ops:= λj hj=>Aaz j (Bd.1 hj).1
    have htl: ∀t,t∈Iy q Γ ops->t<ops.size:=by
     intro t ht
     unfold Iy at ht
     have: ∀(l:List Nat) (acc:List Nat),(∀i,i∈acc->i<ops.size)->(∀i,i∈l->i<ops.size)-> ∀i,i∈l.foldl (init:=acc) (λacc i=>match ops[i]? with
       |some o=>if UB q Γ o||o.after.any (λe=>Region.binds .any e&&acc.contains e.on) then acc++ [i] else acc
       |none=>acc)->i<ops.size:=by
      intro l
      induction l with
      |nil=>intro acc h1 _ i hi;exact h1 i hi
      |cons x l ih=>
       intro acc h1 h2 i hi
       simp only [Nm] at hi
       refine ih _ ?_ (λi hi=>h2 i (by simp [hi])) i hi
       intro k hk
       split at hk
       ·split at hk
        ·rcases Az.1 hk with hk|hk
         ·exact h1 k hk
         ·simp at hk;rw [hk];exact h2 x (by simp)
        ·exact h1 k hk
       ·exact h1 k hk
     exact this (List.range ops.size) [] (by simp) (λi hi=>Ej.1 hi) t ht
    rw [<-hlen]
    refine fu (q:=q) (X:=X) (T:=T) (Γ:=Γ) (tl:=Iy q Γ ops) (hd:=Vf q Γ ops) (st1:=s0) (λc a w hq=>by cases hq.1) aQ ?_ (Va q Γ ops) [] _ st a _ (λj=>by simp)
     (λi hi=>x8 (Bd.1 hi).2) (λj oj _ hl=>(by rw [hlen,getD_replicate_false] at hl;cases hl)) (by simp [hlen]) (λj=>by rw [hlen,getD_replicate_false];simp) (by rw [hlen];exact Aco) h0 hrel
    intro Af s a' w' hc uR Agn hs hr QU
    subst hs
    have Ani:Yf ops (Iy q Γ ops) (Va q Γ ops) Af:=
     ⟨uR,λi hi=>(QU i).2 hi,hc,λt ht=>getD_in (by rw [uR];exact htl t ht) (by
      cases hg:Af.getD t false with
      |false=>rfl
      |true=>exact absurd ht (Agg t ((QU t).1 hg)))⟩
    have HA:=zb (T:=T) (Γ:=Γ) aQ Ahl Zl Kl AD st1 (Vf q Γ ops) _ s (λi hi=>hi) Ani Agn h1
    exact jX (X:=X) (P:=P) (Q:= λe a w=>e= .normal/\Q .normal a w) (g:=(Iy q Γ ops).length) hT Oh (λAf s a' w' hL hr=>by
     obtain ⟨Amv,rfl⟩:=hL
     exact cv (λe a w h=>h.1) aQ (Iy q Γ ops) Af a' w' Amv (jl hT Oh _ _ st' a' w' hr he λa w h=>⟨rfl,hQ a w h⟩)) _ _ _ _ _ HA hr
   ·cases he
  split at he
  ·rename_i lR;exact go false lR he
  ·split at he
   ·rename_i lR;exact go true lR he
   ·cases he
theorem cj (q:Bool): ∀(l:List Nat) (Af:Array Bool),(Iu q ops l Af).length<=l.length
 | [],_=>Ao _
 |i::r,Af=>by
  simp only [Iu]
  split
  ·simp only [Aw];have:=cj q r (Af.setIfInBounds i true);omega
  ·simp only [Aw];have:=cj q r Af;omega
theorem CJ (hT:Dn P T) {st:St} {a:Act} (h:Bg X π st a w) {i:Nat} {o:Oper} (ho:ops[i]?=some o) (hp:iK ops i=true) {v:AV} (hv:Vz T Γ ops st o=some v):
  ∃u,Yields P ops o u a/\Bn X w π st.heap v u:=by
 unfold iK at hp
 rw [ho] at hp
 simp only at hp
 obtain ⟨dst,op,ty,pos,af,gd⟩:=o
 split at hp
 ·rename_i t h3 h4
  simp only at h3 h4;subst h3;subst h4
  refine ⟨a.tmps.getD t undef,lH rfl rfl,?_⟩
  simp only [Vz,Wc,Eu,Aa] at hv
  subst hv
  exact h.2.tmps t
 ·rename_i x h3 h4
  simp only at h3 h4;subst h3;subst h4
  have e:=Dm h.2 x
  have fin:(∃ad,a.eval x= .pointer (some ad))->Yields P ops ⟨dst, .nilCheck x,ty,pos,af,none⟩ (a.eval x) a:= λ⟨ad,hx⟩=>
   .inl ⟨by simp [Region.wanted],λw=>by simp [execOp,hx]⟩
  simp only [Vz,Wc,Eu] at hv
  split at hv
  ·rename_i fr τ y hx
   simp only [Aa] at hv;subst hv
   rw [hx] at e
   have e':=e
   obtain ⟨cs,hc,hv⟩:=e
   simp only [Cells] at hc
   obtain ⟨g,o,rfl,_⟩:=hc
   simp only [Bv,Ty.Ap,Cx,Qu,fP] at hv
   exact ⟨_,fin ⟨_,hv⟩,e'⟩
  ·rename_i fr τ y hx
   simp only [Aa] at hv;subst hv
   rw [hx] at e
   obtain ⟨cs,hc,hv⟩:=e
   simp only [Cells] at hc
   rcases hc with ⟨h0,_⟩|⟨y',g,o,h0,rfl,hr⟩
   ·cases h0
   simp only [Aa] at h0;subst h0
   simp only [Bv,Ty.Ap,Cx,Qu,fP] at hv
   exact ⟨_,fin ⟨_,hv⟩,[_],⟨g,o,rfl,hr⟩,by rw [hv];simp [Bv,Ty.Ap]⟩
  ·rename_i l i hx
   simp only [Aa] at hv;subst hv
   rw [hx] at e
   have e':=e
   obtain ⟨r,tid,vs,_,_,hv⟩:=e
   exact ⟨_,fin ⟨_,hv⟩,e'⟩
  ·rename_i l i hx
   simp only [Aa] at hv;subst hv
   rw [hx] at e
   have e':=e
   obtain ⟨r,b,sz,n,_,_,_,_,hv⟩:=e
   exact ⟨_,fin ⟨_,hv⟩,e'⟩
  ·cases hv
 ·rename_i s x f h3 h4
  simp only at h3 h4;subst h3;subst h4
  simp only [Vz,Wc,Eu] at hv
  obtain ⟨u,h1,h2⟩:=bA hT (st:=st) _ _ _ _ v (Dm h.2 x) hv
  refine ⟨u, .inl ⟨by simp [Region.wanted],λw=>?_⟩,h2⟩
  have:=h1 w
  simp only [execOp,Sem.run_bind]
  first
   |(rw [this];rfl)
   |simp [this]
 ·cases hp
theorem xL {i:Nat} (h:x9 ops i=true):iK ops i=true:=by
 unfold x9 at h
 unfold iK
 split at h
 ·rename_i o ho
  split at h
  ·rename_i h1 h2
   simp only [h1,h2]
  ·cases h
 ·cases h
theorem bk (hT:Dn P T) (q:Bool) {Q:Exit->Act->World->Prop} (hQ: ∀c a w,¬Q (.panic c) a w) (aQ:Region.noSelect ops=true) {n:Nat} {st1:St} :
  ∀(l:List Nat) (Af:Array Bool) (st:St) (a:Act) (w:World),Fq T Γ ops (Iu q ops l Af) st=some st1->Rel X st a w->
   (∀a w,Rel X st1 a w->wpAny P .any ops Q n (Ef (Iu q ops l Af) Af) a w)->wpAny P .any ops Q ((Iu q ops l Af).length+n) Af a w
 | [],Af,st,a,w,he,hr,hK=>by
  simp only [Iu,Fq,Aa] at he
  subst he
  simp only [Iu,Ho,Cj]
  exact hK a w hr
 |k::l,Af,st,a,w,he,hr,hK=>by
  simp only [Iu] at he hK⊢
  split
  ·rename_i hc
   rw [Ac hc] at he hK
   simp only [Ag] at hc
   obtain ⟨h0,h1,h2⟩:=hc
   have hp:iK ops k=true:=by
    cases q with
    |true=>exact h0
    |false=>exact xL h0
   simp only [Fq] at he
   split at he
   ·cases he
   rename_i o ho
   split at he
   rotate_left
   ·cases he
   rename_i v hv
   obtain ⟨π,hr⟩:=hr
   obtain ⟨u,hy,hu⟩:=CJ (Γ:=Γ) hT hr ho hp hv
   rw [Aw,show (Iu q ops l (Af.setIfInBounds k true)).length+1+n=((Iu q ops l (Af.setIfInBounds k true)).length+n)+1 by omega]
   refine wpAny_take ho aQ h2 h1 (λc a w hq=>absurd hq (hQ c _ w)) hy ?_
   exact bk hT q hQ aQ l _ _ _ _ he ⟨π,hr.put o.dst hu⟩ hK
  ·rename_i hc
   rw [Ai hc] at he hK
   exact bk hT q hQ aQ l Af st a w he hr hK
theorem jY (hT:Dn P T) (Oh:Ki P Γ) {Q:Exit->Act->World->Prop} {K:St->Prop} (hK: ∀st a w,K st->Rel X st a w->Q .normal a w):
  ∀(f:Nat) (Af:Array Bool) (st:St) (a:Act) (w:World),anyS T Γ ops K f Af st->Rel X st a w->wpAny P .any ops Q f Af a w
 |0,Af,st,a,w,h,hr=>⟨h.1,hK _ _ _ h.2 hr⟩
 |f+1,Af,st,a,w,h,hr=>by
  refine ⟨λh0=>absurd h0 h.1,λi hi=>?_⟩
  obtain ⟨o,st',ho,he,eV⟩:=h.2 i hi
  obtain ⟨π,hr⟩:=hr
  unfold wpOp
  simp only [ho]
  exact Uy hT Oh hr o he λa' w' h'=>jY hT Oh hK f _ _ _ _ eV h'
def Te (ops:Array Oper) (Af:Array Bool):Prop:= ∀k a,Af.getD k false=true->Region.waitsFor .any ops k a=true->Af.getD a false=true
theorem bN {Af:Array Bool} {i a:Nat} (h:i∈Region.ready .any ops Af) (hw:Region.waitsFor .any ops i a=true):Af.getD a false=true:=by
 obtain ⟨_,o,ho,Kl⟩:=mem_ready.1 h
 obtain ⟨o',ho',e,he,hb,rfl⟩:=Region.waitsFor_spec hw
 rw [ho] at ho'
 cases ho'
 exact Kl e he hb
theorem Te.set {Af:Array Bool} (hc:Te ops Af) {i:Nat} (hi:i∈Region.ready .any ops Af):Te ops (Af.setIfInBounds i true):= λk a hk hw=>by
 by_cases hik:i=k
 ·subst hik
  exact getD_set_true (bN hi hw)
 ·rw [getD_set_ne false hik] at hk
  exact getD_set_true (hc k a hk hw)
theorem o4:Te ops (Array.replicate ops.size false):= λk a hk _=>by
 rw [getD_replicate_false] at hk
 cases hk
theorem Zv (q:Bool): ∀(l:List Nat) (Af:Array Bool),Te ops Af->Te ops (Ef (Iu q ops l Af) Af)
 | [],Af,h=>h
 |i::r,Af,h=>by
  simp only [Iu]
  split
  ·rename_i hc
   rw [Ag,Ag] at hc
   have hi:i∈Region.ready .any ops Af:=by simpa using hc.2.1
   exact Zv q r _ (h.set hi)
  ·exact Zv q r Af h
theorem Vj: ∀(l:List Nat) (Af:Array Bool),(Ef l Af).size=Af.size
 | [],_=>rfl
 |i::r,Af=>by simp only [Ef];rw [Vj r];simp
theorem dW: ∀(l:List Nat) (Af:Array Bool) (k:Nat),k∈l->k<Af.size->(Ef l Af).getD k false=true
 |i::r,Af,k,h,hk=>by
  simp only [Ef]
  by_cases hr:k∈r
  ·exact dW r _ k hr (by simpa using hk)
  ·have:k=i:=(Ay.1 h).resolve_right hr
   subst this
   have hs: ∀(l:List Nat) (A:Array Bool),A.getD k false=true->(Ef l A).getD k false=true:=by
    intro l
    induction l with
    |nil=>exact λA h=>h
    |cons j l ih=>exact λA h=>ih _ (getD_set_true h)
   exact hs r _ (by simp [hk])
theorem cg: ∀(l:List Nat) (Af:Array Bool) (k:Nat),k∉l->(Ef l Af).getD k false=Af.getD k false
 | [],_,_,_=>rfl
 |i::r,Af,k,h=>by
  simp only [Ef]
  rw [cg r _ k λhk=>h (An _ hk),getD_set_ne false (λe=>h (by rw [e];simp))]
def Ls (E:List Nat) (Af:Array Bool):List Nat:=E.filter λr=>!Af.getD r false
def c9 (ops:Array Oper) (r:Nat):Option Tmp:=(ops[r]?).bind (·.dst)
def jk (ops:Array Oper) (Q:List Nat):List Nat:=Q.filterMap (c9 ops)
def Re (ops:Array Oper):List Nat->St->St
 | [],st=>st
 |r::Q,st=>(Re ops Q st).put (c9 ops r) .undef
def ME (ops:Array Oper):List Nat->Act->Act->Prop
 | [],a,a'=>a'=a
 |r::Q,a,a'=> ∃u,ME ops Q (a.put (c9 ops r) u) a'
theorem WJ {H:List (Nat×OB)} {v:Value} :Bn X w π H .undef v:=trivial
theorem gz (s:St) (d:Option Tmp) (v:AV) (t:Nat):(d=some t->(s.put d v).get t=v\/(s.put d v).get t= .undef)/\(d≠some t->(s.put d v).get t=s.get t):=by
 cases d with
 |none=>exact ⟨λh=>(by cases h),λ_=>rfl⟩
 |some e=>
  have key:(s.put (some e) v).get t=if e=t/\t<s.tmps.length then v else s.get t:=Qh _ _ _ _ _
  refine ⟨λh=>?_,λh=>?_⟩
  ·cases h
   rw [key]
   by_cases hl:t<s.tmps.length
   ·rw [Ac ⟨rfl,hl⟩];exact .inl rfl
   ·rw [Ai (λh=>hl h.2)]
    exact .inr (by unfold St.get;rw [Ah,Ds (by omega)];rfl)
  ·rw [key,Ai]
   rintro ⟨rfl,_⟩
   exact h rfl
theorem iN (s:St) (d:Option Tmp) (v:AV):(s.put d v).heap=s.heap:=by cases d<;>rfl
theorem mj (s:St) (d:Option Tmp) (v:AV):(s.put d v).tmps.length=s.tmps.length:=by
 cases d with
 |none=>rfl
 |some d=>exact Yu _ _ _
theorem Qd: ∀(Q:List Nat) (st:St),(Re ops Q st).heap=st.heap
 | [],_=>rfl
 |r::Q,st=>by simp only [Re];rw [iN,Qd Q]
theorem Vl: ∀(Q:List Nat) (st:St),(Re ops Q st).tmps.length=st.tmps.length
 | [],_=>rfl
 |r::Q,st=>by simp only [Re];rw [mj,Vl Q]
theorem Le {Q:List Nat} {t:Nat} :t∈jk ops Q↔ ∃r∈Q,c9 ops r=some t:=List.mem_filterMap
theorem Rf: ∀(Q:List Nat) (st:St) (t:Nat),(t∈jk ops Q->(Re ops Q st).get t= .undef)/\(t∉jk ops Q->(Re ops Q st).get t=st.get t)
 | [],st,t=>⟨λh=>by simp [jk] at h,λ_=>rfl⟩
 |r::Q,st,t=>by
  obtain ⟨h1,h2⟩:=Rf Q st t
  obtain ⟨g1,g2⟩:=gz (Re ops Q st) (c9 ops r) .undef t
  simp only [Re]
  by_cases hd:c9 ops r=some t
  ·refine ⟨λ_=>(g1 hd).elim id id,λh=>absurd (Le.2 ⟨r,Ik ..,hd⟩) h⟩
  ·refine ⟨λh=>?_,λh=>?_⟩
   ·rw [g2 hd]
    obtain ⟨q,hq,he⟩:=Le.1 h
    rcases Ay.1 hq with rfl|hq
    ·exact absurd he hd
    ·exact h1 (Le.2 ⟨q,hq,he⟩)
   ·rw [g2 hd]
    exact h2 λhm=>by
     obtain ⟨q,hq,he⟩:=Le.1 hm
     exact h (Le.2 ⟨q,An _ hq,he⟩)
theorem rY {st s:St} {a:Act} (h:Bg X π st a w) (hh:s.heap=st.heap) (hl:s.tmps.length=st.tmps.length) (hg: ∀t,s.get t=st.get t\/s.get t= .undef):Bg X π s a w:=by
 refine ⟨by rw [hh];exact h.1,⟨by rw [hl];exact h.2.size,h.2.defers,λt=>?_⟩⟩
 rw [hh]
 rcases hg t with e|e
 ·rw [e];exact h.2.tmps t
 ·rw [e];exact WJ
theorem DR {st s:St} {o:Oper} (hh:s.heap=st.heap) (hg: ∀t,t∈o.looksAt ops->s.get t=st.get t):Vz T Γ ops s o=Vz T Γ ops st o:=by
 obtain ⟨ts,H⟩:=s
 obtain ⟨ts',H'⟩:=st
 simp only at hh
 subst hh
 exact wa hg
theorem oJ (hT:Dn P T) (Oh:Ki P Γ) {st:St} {a:Act} (h:Bg X π st a w) {i:Nat} {o:Oper} (ho:ops[i]?=some o) (hp:iL ops i=true) {v:AV} (hv:Vz T Γ ops st o=some v):
  ∃u,(∀(Q:Exit->Act->World->Prop) (K:Act->World->Prop),K (a.put o.dst u) w->wpOp P ops Q i K a w)/\Bn X w π st.heap v u:=by
 unfold iL at hp
 rw [ho] at hp
 simp only at hp
 have XF:o.guard=none:=by
  obtain ⟨dst,op,ty,pos,af,gd⟩:=o
  cases gd with
  |none=>rfl
  |some g=>split at hp<;>first|rfl|(rename_i h4;cases h4)|cases hp
 have hb:Wc T Γ st o=some v:=by
  unfold Vz at hv
  rw [XF] at hv
  exact hv
 have hw:Region.wanted o (yielded ops a.tmps)=true:=by simp [Region.wanted,XF]
 have fin: ∀s:Sem Value,execOp a.eval o=(do pure (.value (<-s)))->Eu T Γ st o=some v-> ∃u,(∀(Q:Exit->Act->World->Prop) (K:Act->World->Prop),K (a.put o.dst u) w->wpOp P ops Q i K a w)/\Bn X w π st.heap v u:=by
  intro s he hq
  have hg:=gm hT Oh h o v hq
  rw [he,Sem.run_bind] at hg
  cases hr:s.run P w with
  |ok u w'=>
   rw [hr] at hg
   obtain ⟨e,hu⟩:=(show w'=w/\Bn X w π st.heap v u from hg)
   subst e
   refine ⟨u,λQ K hK=>?_,hu⟩
   unfold wpOp
   simp only [ho]
   rw [Ac hw]
   refine .inl ?_
   unfold Oper.wp
   rw [he,Sem.run_bind,hr]
   exact hK
  |halt x w'=>rw [hr] at hg;exact hg.elim
 obtain ⟨dst,op,ty,pos,af,gd⟩:=o
 simp only at XF
 subst XF
 split at hp
 ·rename_i x h3 h4
  simp only at h3;subst h3
  exact fin (pure (a.eval x)) (by simp [execOp]) hb
 ·rename_i x h3 h4
  simp only at h3;subst h3
  exact fin _ rfl hb
 ·rename_i x h3 h4
  simp only at h3;subst h3
  exact fin _ rfl hb
 ·rename_i x h3 h4
  simp only at h3;subst h3
  exact fin _ rfl hb
 ·cases hp
theorem QO {j:Nat} {oi oj:Oper} {v:Value} (hj:ops[j]?=some oj) (hap:oi.apart ops oj=true) (hsj: ∀cs b,oj.op≠ .select cs b)
  {Q:Exit->Act->World->Prop} (hQ: ∀c a w,¬Q (.panic c) a w) {K:Act->World->Prop} {a:Act} {w:World} (h:wpOp P ops Q j K (a.put oi.dst v) w):
  wpOp P ops Q j (λa' w'=>K (a'.put oi.dst v) w') a w:=by
 obtain ⟨h1,h2,h3⟩:=Oper.apart_spec hap
 unfold wpOp at*
 simp only [hj] at*
 rw [wanted_put oj a oi.dst v h1] at h
 split
 ·rename_i hw
  simp only [hw,Oy] at h
  rcases h with h|⟨Aau,Agr⟩
  case inr=>exact .inr ⟨by unfold Oper.asks at*;rw [execOp_put oj hsj a oi.dst v h1] at Aau;exact Aau,Agr⟩
  refine .inl ?_
  unfold Oper.wp at*
  rw [execOp_put oj hsj a oi.dst v h1] at h
  generalize (execOp a.eval oj).run P w=r at*
  cases r with
  |ok n w'=>
   cases n<;>simp only [Oper.upon] at h⊢
   case value u=>rw [<-Act.put_comm a v u h2];exact h
   case skip=>rw [<-Act.put_comm a v undef h2];exact h
   case defer d=>
    rw [<-Act.put_comm _ v undef h2,<-Act.put_defers]
    exact h
   case enter f args=>
    refine Calls.mono h λe oW he=>?_
    cases e with
    |returned u=>show K ((a.put oj.dst u).put oi.dst v) oW;rw [<-Act.put_comm a v u h2];exact he
    |panicked c=>exact absurd he (hQ _ _ _)
    |outgrown=>exact he
   case row row args=>exact Rows.mono h λu oW he=>by rw [<-Act.put_comm a v u h2];exact he
  |halt x w'=>
   cases x<;>simp only [Oper.upon] at h⊢
   case panic u=>exact absurd h (hQ _ _ _)
 ·rename_i hw
  simp only [hw] at h
  rw [<-Act.put_comm a v undef h2];exact h
theorem vM: ∀ {Q:List Nat} {a a':Act},ME ops Q a a'->a'.defers=a.defers/\a'.tmps.size=a.tmps.size/\ ∀t,t∉jk ops Q->a'.tmps.getD t undef=a.tmps.getD t undef
 | [],a,a',h=>by cases h;exact ⟨rfl,rfl,λ_ _=>rfl⟩
 |r::Q,a,a',⟨u,h⟩=>by
  obtain ⟨h1,h2,h3⟩:=vM h
  have hp:(a.put (c9 ops r) u).defers=a.defers/\(a.put (c9 ops r) u).tmps.size=a.tmps.size:=by cases c9 ops r<;>simp [Act.put]
  refine ⟨h1.trans hp.1,h2.trans hp.2,λt ht=>?_⟩
  have hn:c9 ops r≠some t:= λe=>ht (Le.2 ⟨r,Ik ..,e⟩)
  rw [h3 t λhm=>ht (by obtain ⟨q,hq,he⟩:=Le.1 hm;exact Le.2 ⟨q,An _ hq,he⟩)]
  cases hd:c9 ops r with
  |none=>rfl
  |some d=>
   have Hq:d≠t:= λe=>hn (by rw [hd,e])
   simp [Act.put,Array.getElem?_setIfInBounds_ne Hq]
theorem VF {Q:List Nat} {st:St} {a a':Act} (hp:ME ops Q a a') (h:Bg X π st a' w):Bg X π (Re ops Q st) a w:=by
 obtain ⟨h1,h2,h3⟩:=vM hp
 refine ⟨by rw [Qd];exact h.1,⟨by rw [Vl,<-h2];exact h.2.size,by rw [<-h1];exact h.2.defers,λt=>?_⟩⟩
 rw [Qd]
 by_cases ht:t∈jk ops Q
 ·rw [(Rf Q st t).1 ht];exact WJ
 ·rw [(Rf Q st t).2 ht,<-h3 t ht];exact h.2.tmps t
theorem wc {j:Nat} {oj:Oper} (hj:ops[j]?=some oj) (hsj: ∀cs b,oj.op≠ .select cs b) {Q:Exit->Act->World->Prop} (hQ: ∀c a w,¬Q (.panic c) a w) {K:Act->World->Prop} :
  ∀(L:List Nat) (a a':Act) (w:World),(∀r∈L,∃o,ops[r]?=some o/\o.apart ops oj=true)->ME ops L a a'->wpOp P ops Q j K a' w->wpOp P ops Q j (λa2 w2=> ∃a3,ME ops L a2 a3/\K a3 w2) a w
 | [],a,a',w,_,hp,h=>by cases hp;exact wpOp_mono (λa2 w2 hk=>⟨a2,rfl,hk⟩) h
 |r::L,a,a',w,hap,⟨u,hp⟩,h=>by
  obtain ⟨o,ho,ha⟩:=hap r (Ik ..)
  have hd:c9 ops r=o.dst:=by unfold c9;rw [ho];rfl
  rw [hd] at hp
  have ih:=wc hj hsj hQ L _ a' w (λq hq=>hap q (An _ hq)) hp h
  exact wpOp_mono (λa2 w2 ⟨a3,h1,h2⟩=>⟨a3,⟨u,by rw [hd];exact h1⟩,h2⟩) (QO hj ha hsj hQ ih)
def EP (ops:Array Oper):List Nat->Prop
 | []=>True
 |r::L=>(∀q∈r::L,∀o d,ops[r]?=some o->c9 ops q=some d->d∉o.looksAt ops)/\(∀q∈L,∀d,c9 ops r=some d->c9 ops q≠some d)/\EP ops L
def uu (ops:Array Oper):List Nat->Prop
 | []=>True
 |r::L=>(∀q∈L,Region.waitsFor .any ops q r=true\/ ∀o d,ops[q]?=some o->c9 ops r=some d->d∉o.looksAt ops)/\uu ops L
theorem EP.filter {p:Nat->Bool} : ∀ {L:List Nat},EP ops L->EP ops (L.filter p)
 | [],_=>trivial
 |r::L,⟨h1,h2,h3⟩=>by
  rw [List.filter_cons]
  split
  ·exact ⟨λq hq=>h1 q (by rcases Ay.1 hq with rfl|hq;exact Ik ..;exact An _ (Bd.1 hq).1),λq hq=>h2 q (Bd.1 hq).1,h3.filter⟩
  ·exact h3.filter
theorem uu.filter {p:Nat->Bool} : ∀ {L:List Nat},uu ops L->uu ops (L.filter p)
 | [],_=>trivial
 |r::L,⟨h1,h3⟩=>by
  rw [List.filter_cons]
  split
  ·exact ⟨λq hq=>h1 q (Bd.1 hq).1,h3.filter⟩
  ·exact h3.filter
theorem Yv {i j:Nat} {p:Oper->Oper->Bool} (h:nV ops i j p=true): ∃x y,ops[i]?=some x/\ops[j]?=some y/\p x y=true:=by
 unfold nV at h
 split at h
 ·rename_i x y h1 h2;exact ⟨x,y,h1,h2,h⟩
 ·cases h
theorem eH {x y:Oper} (h:mH ops x y=true): ∀d,x.dst=some d->d∉y.looksAt ops:= λd hd=>by
 unfold mH at h
 rw [hd] at h
 simpa using h
theorem zG {x y:Oper} (h:FN x y=true): ∀d,x.dst=some d->y.dst≠some d:= λd hd=>by
 unfold FN at h
 rw [hd] at h
 simpa using h
theorem bz {r:Nat} {o:Oper} (h:ops[r]?=some o):c9 ops r=o.dst:=by unfold c9;rw [h];rfl
theorem oE: ∀ {E:List Nat},xI ops E=true->EP ops E/\uu ops E
 | [],_=>⟨trivial,trivial⟩
 |r::E,h=>by
  simp only [xI,Ag,Ba] at h
  obtain ⟨⟨h1,h2⟩,h3⟩:=h
  obtain ⟨g1,g2⟩:=oE h3
  refine ⟨⟨λq hq o d ho hd=>?_,λq hq d hd=>?_,g1⟩,λq hq=>?_,g2⟩
  ·rcases Ay.1 hq with rfl|hq
   ·obtain ⟨x,y,hx,hy,hp⟩:=Yv h1
    rw [ho] at hx hy;cases hx;cases hy
    rw [bz ho] at hd
    exact eH hp d hd
   ·obtain ⟨x,y,hx,hy,hp⟩:=Yv (h2 q hq).1
    rw [ho] at hx;cases hx
    rw [bz hy] at hd
    exact eH (Db.1 hp).2 d hd
  ·obtain ⟨x,y,hx,hy,hp⟩:=Yv (h2 q hq).1
   rw [bz hx] at hd
   rw [bz hy]
   exact zG (Db.1 hp).1 d hd
  ·have h4:=(h2 q hq).2
   rw [Li] at h4
   rcases h4 with h4|h4
   ·exact .inl h4
   ·refine .inr λo d ho hd=>?_
    obtain ⟨x,y,hx,hy,hp⟩:=Yv h4
    rw [ho] at hy;cases hy
    rw [bz hx] at hd
    exact eH hp d hd
theorem Aai (hT:Dn P T) (Oh:Ki P Γ) {st:St} : ∀(L:List Nat) (a:Act),(∀r∈L,iL ops r=true/\ ∃o v,ops[r]?=some o/\Vz T Γ ops st o=some v/\ ∀d,o.dst=some d->st.get d=v)->EP ops L->
  Bg X π (Re ops L st) a w-> ∃a',ME ops L a a'/\Bg X π st a' w
 | [],a,_,_,h=>⟨a,rfl,h⟩
 |r::L,a,hs,⟨f1,f2,f3⟩,h=>by
  obtain ⟨hr,o,v,ho,hv,hd⟩:=hs r (Ik ..)
  have hdo:=bz ho
  have lU:Vz T Γ ops (Re ops (r::L) st) o=some v:=by
   rw [DR (st:=st) (Qd _ _) λt ht=>(Rf _ _ _).2 λhm=>by
    obtain ⟨q,hq,he⟩:=Le.1 hm
    exact f1 q hq o t ho he ht]
   exact hv
  obtain ⟨u,_,hu⟩:=oJ hT Oh h ho hr lU
  have h2:=h.put o.dst hu
  have h3:Bg X π (Re ops L st) (a.put o.dst u) w:=by
   refine rY h2 ?_ ?_ λt=>?_
   ·rw [iN,Qd,Qd]
   ·rw [mj,Vl,Vl]
   ·obtain ⟨g1,g2⟩:=gz (Re ops (r::L) st) o.dst v t
    by_cases he:o.dst=some t
    ·have lQ:t∉jk ops L:= λhm=>by
      obtain ⟨q,hq,hqe⟩:=Le.1 hm
      exact f2 q hq t (by rw [hdo];exact he) hqe
     rw [(Rf L st t).2 lQ,hd t he]
     rcases g1 he with g|g
     ·exact .inl g.symm
     ·by_cases hl:t<st.tmps.length
      ·refine .inl ?_
       rw [he]
       show v=((Rx (Re ops (r::L) st).tmps t v).getD t .undef)
       rw [Qh,Ac ⟨rfl,by rw [Vl];exact hl⟩]
      ·refine .inr ?_
       rw [<-hd t he]
       unfold St.get
       rw [Ah,Ds (by omega)]
       rfl
    ·rw [g2 he]
     have:(Re ops (r::L) st).get t=(Re ops L st).get t:=(gz (Re ops L st) (c9 ops r) .undef t).2 (by rw [hdo];exact he)
     exact .inl this.symm
  obtain ⟨a',hp,fD⟩:=Aai hT Oh L _ (λq hq=>hs q (An _ hq)) f3 h3
  exact ⟨a',⟨u,by rw [hdo];exact hp⟩,fD⟩
theorem SD: ∀ {L:List Nat},EP ops L->uu ops L-> ∀ {i:Nat} {o:Oper},i∈L->ops[i]?=some o->(∀q∈L,Region.waitsFor .any ops i q=true->False)-> ∀q∈L,∀d,c9 ops q=some d->d∉o.looksAt ops
 | [],_,_,i,_,hi,_,_=>by cases hi
 |r::L,⟨f1,f2,f3⟩,⟨b1,b2⟩,i,o,hi,ho,hw=> λq hq d hd=>by
  by_cases hir:i=r
  ·subst hir
   exact f1 q hq o d ho hd
  ·have j8:=(Ay.1 hi).resolve_left hir
   rcases Ay.1 hq with rfl|cA
   ·rcases b1 i j8 with h|h
    ·exact (hw q hq h).elim
    ·exact h o d ho hd
   ·exact SD f3 b2 j8 ho (λq hq=>hw q (An _ hq)) q cA d hd
theorem o9 {Af:Array Bool} (Zl:Af.size=ops.size): ∀ {E:List Nat} {L:Array Bool} {r:Nat} {Q:List Nat},gW ops E L=true->(∀j,L.getD j false=true->Af.getD j false=true)->Ls E Af=r::Q->r∈Region.ready .any ops Af
 | [],_,_,_,_,_,h=>by simp [Ls] at h
 |e::E,L,r,Q,hr,hl,hp=>by
  simp only [gW,Ag,Hk] at hr
  unfold Ls at hp
  rw [List.filter_cons] at hp
  by_cases he:Af.getD e false=true
  ·rw [Ai (by rw [he];simp)] at hp
   refine o9 Zl hr.2 (λj hj=>?_) hp
   by_cases hej:e=j
   ·subst hej;exact he
   ·rw [getD_set_ne false hej] at hj;exact hl j hj
  ·have he:Af.getD e false=false:=by simpa using he
   rw [Ac (by rw [he];rfl)] at hp
   injection hp with uS uT
   subst uS
   obtain ⟨_,o,ho,Kl⟩:=mem_ready.1 hr.1
   have Jl:e<Af.size:=by rw [Zl];exact (Mq.1 ho).1
   exact mem_ready.2 ⟨getD_in Jl he,o,ho,λx hx hb=>hl _ (Kl x hx hb)⟩
theorem db {Af:Array Bool} {j:Nat} (h:Af.getD j true=false):j<Af.size:=by
 rcases Nat.lt_or_ge j Af.size with h'|h'
 ·exact h'
 ·simp [Array.getElem?_eq_none h'] at h
theorem ur (hT:Dn P T) (Oh:Ki P Γ) {Q:Exit->Act->World->Prop} (hQ: ∀c a w,¬Q (.panic c) a w) {K:St->Prop} (hK: ∀st a w,K st->Rel X st a w->Q .normal a w) (aQ:Region.noSelect ops=true)
  {E:List Nat} {L0:Array Bool} (hE:bM ops E L0=true): ∀(n f:Nat) (Af LA:Array Bool) (st:St) (a:Act) (w:World),n=f+(Ls E Af).length->Af.size=ops.size->LA.size=ops.size->
   (∀j,LA.getD j false=(Af.getD j false||E.contains j))->Te ops Af->(∀j,L0.getD j false=true->Af.getD j false=true)->p8 T Γ ops E K f LA st->Rel X (Re ops (Ls E Af) st) a w->wpAny P .any ops Q n Af a w:=by
 simp only [bM,Ag,Ba] at hE
 obtain ⟨⟨hre,hry⟩,hpr,hap⟩:=hE
 obtain ⟨Agk,oh⟩:=oE hpr
 have key: ∀(n f:Nat) (Af LA:Array Bool) (st:St) (a:Act) (w:World),n=f+(Ls E Af).length->Af.size=ops.size->LA.size=ops.size->
   (∀j,LA.getD j false=(Af.getD j false||E.contains j))->Te ops Af->(∀j,L0.getD j false=true->Af.getD j false=true)->p8 T Γ ops E K f LA st->Rel X (Re ops (Ls E Af) st) a w->
   (∀j,j∈Region.ready .any ops Af->j∉E->j∈Region.ready .any ops LA)/\(Region.ready .any ops Af= []->Q .normal a w/\f=0/\Ls E Af= []):=by
  intro n f Af LA st a w hn jb sX XD Py XC qO hrel
  have h1: ∀j,j∈Region.ready .any ops Af->j∉E->j∈Region.ready .any ops LA:= λj hj hjE=>by
   obtain ⟨mL,o,ho,Kl⟩:=mem_ready.1 hj
   have Jl:=db mL
   refine mem_ready.2 ⟨getD_in (by omega) ?_,o,ho,λe he hb=>by rw [XD,Kl e he hb];rfl⟩
   rw [XD,getD_both mL]
   simpa using hjE
  refine ⟨h1,λh0=>?_⟩
  cases hpe:Ls E Af with
  |cons r L=>
   have:=o9 jb hry XC hpe
   rw [h0] at this
   cases this
  |nil=>
   have Kl: ∀r,r∈E->Af.getD r false=true:= λr hr=>by
    have:r∉Ls E Af:=by rw [hpe];simp
    unfold Ls at this
    rw [Bd] at this
    by_cases hl:Af.getD r false=true
    ·exact hl
    ·exact absurd ⟨hr,by simpa using hl⟩ this
   have hb: ∀j,j∈Region.ready .any ops LA->j∈Region.ready .any ops Af:= λj hj=>by
    obtain ⟨mL,o,ho,hw⟩:=mem_ready.1 hj
    have Jl:=db mL
    have he: ∀k,LA.getD k false=Af.getD k false:= λk=>by
     rw [XD]
     by_cases hk:k∈E
     ·rw [Kl k hk];rfl
     ·rw [show E.contains k=false by simpa using hk,aA]
    exact mem_ready.2 ⟨getD_in (by omega) (by rw [<-he];exact getD_both mL),o,ho,λe hx hbd=>by rw [<-he];exact hw e hx hbd⟩
   cases f with
   |zero=>
    obtain ⟨_,_,hk⟩:=qO
    rw [hpe] at hrel
    exact ⟨hK _ _ _ hk hrel,rfl,rfl⟩
   |succ f=>
    obtain ⟨_,Hq,_⟩:=qO
    obtain ⟨j,hj⟩:=List.exists_mem_of_ne_nil _ Hq
    have:=hb j hj
    rw [h0] at this
    cases this
 intro n
 induction n with
 |zero=>
  intro f Af LA st a w hn jb sX XD Py XC qO hrel
  obtain ⟨k1,k2⟩:=key 0 f Af LA st a w hn jb sX XD Py XC qO hrel
  have hf:f=0:=by omega
  have hp:Ls E Af= []:=List.length_eq_zero_iff.1 (by omega)
  subst hf
  obtain ⟨_,hr,_⟩:=qO
  have h0:Region.ready .any ops Af= []:=List.eq_nil_iff_forall_not_mem.2 λj hj=>by
   by_cases hjE:j∈E
   ·have mL:=getD_both (mem_ready.1 hj).1
    have:j∈Ls E Af:=Bd.2 ⟨hjE,by rw [mL];rfl⟩
    rw [hp] at this
    cases this
   ·have:=k1 j hj hjE
    rw [hr] at this
    cases this
  exact ⟨h0,(k2 h0).1⟩
 |succ n ih=>
  intro f Af LA st a w hn jb sX XD Py XC qO hrel
  obtain ⟨k1,k2⟩:=key (n+1) f Af LA st a w hn jb sX XD Py XC qO hrel
  have Ya:VQ T Γ ops E LA st:=by cases f<;>exact qO.1
  have SY: ∀r∈Ls E Af,r∈E/\Af.getD r false=false:= λr hr=>by
   obtain ⟨h1,h2⟩:=Bd.1 hr
   exact ⟨h1,by simpa using h2⟩
  have Abj: ∀r∈Ls E Af,iL ops r=true/\ ∃o v,ops[r]?=some o/\Vz T Γ ops st o=some v/\ ∀d,o.dst=some d->st.get d=v:= λr hr=>by
   obtain ⟨h1,h2⟩:=SY r hr
   refine ⟨hre r h1,(Ya r h1).resolve_left λhw=>?_⟩
   unfold pT at hw
   obtain ⟨j,_,hj⟩:=Ht.1 hw
   simp only [Ag,Fk] at hj
   obtain ⟨hj1,hj2,hj3⟩:=hj
   rw [XD,hj1,aA] at hj2
   have:=Py j r hj2 hj3
   rw [h2] at this
   cases this
  refine ⟨λh0=>(k2 h0).1,λi hi=>?_⟩
  obtain ⟨π,hrel⟩:=hrel
  have hiw: ∀q∈Ls E Af,Region.waitsFor .any ops i q=true->False:= λq hq hw=>by
   have:=bN hi hw
   rw [(SY q hq).2] at this
   cases this
  obtain ⟨mL,oi,hoi,_⟩:=mem_ready.1 hi
  have Jl:=db mL
  by_cases hiE:i∈E
  ·have QW:i∈Ls E Af:=Bd.2 ⟨hiE,by rw [getD_both mL];rfl⟩
   obtain ⟨hrd,o,v,ho,hv,hd⟩:=Abj i QW
   have hnl:=SD (Agk.filter (p:= λr=>!Af.getD r false)) (oh.filter (p:= λr=>!Af.getD r false)) QW ho hiw
   have lU:Vz T Γ ops (Re ops (Ls E Af) st) o=some v:=by
    rw [DR (st:=st) (Qd _ _) λt ht=>(Rf _ _ _).2 λhm=>by
     obtain ⟨q,hq,he⟩:=Le.1 hm
     exact hnl q hq t he ht]
    exact hv
   obtain ⟨u,hy,hu⟩:=oJ hT Oh hrel ho hrd lU
   refine hy Q _ ?_
   have hpe: ∀q,q∈Ls E (Af.setIfInBounds i true)↔q∈Ls E Af/\q≠i:= λq=>by
    unfold Ls
    rw [Bd,Bd]
    by_cases hqi:q=i
    ·subst hqi
     simp [Jl]
    ·rw [getD_set_ne false (Fv hqi)]
     exact ⟨λh=>⟨h,hqi⟩,λh=>h.1⟩
   have hlen:(Ls E Af).length=(Ls E (Af.setIfInBounds i true)).length+1:=by
    have lQ: ∀(E:List Nat) (L:Array Bool),gW ops E L=true->E.Nodup/\ ∀r∈E,L.getD r true=false:=by
     intro E
     induction E with
     |nil=>exact λL _=>⟨Lb,λr hr=>by cases hr⟩
     |cons e E ihE=>
      intro L h
      simp only [gW,Ag,Hk] at h
      obtain ⟨g1,g2⟩:=ihE _ h.2
      have he:=(mem_ready.1 h.1).1
      have jy:=db he
      refine ⟨Ca.2 ⟨λhm=>?_,g1⟩,λr hr=>?_⟩
      ·have:=g2 e hm
       simp [jy] at this
      ·rcases Ay.1 hr with rfl|hr
       ·exact he
       ·have Hq:e≠r:= λe'=>by subst e';have:=g2 e hr;simp [jy] at this
        have:=g2 r hr
        rw [getD_set_ne true Hq] at this
        exact this
    have hEn:=(lQ E L0 hry).1
    have Anj: ∀L:List Nat,L.Nodup->i∈L->(L.filter λr=>!Af.getD r false).length=(L.filter λr=>!(Af.setIfInBounds i true).getD r false).length+1:=by
     intro L
     induction L with
     |nil=>exact λ_ h=>by cases h
     |cons x L ihL=>
      intro hn hm
      obtain ⟨hx,hn⟩:=Ca.1 hn
      rw [List.filter_cons,List.filter_cons]
      by_cases hxi:x=i
      ·subst hxi
       rw [Ac (by rw [getD_both mL];rfl),Ai (by simp [Jl])]
       have:L.filter (λr=>!Af.getD r false)=L.filter (λr=>!(Af.setIfInBounds x true).getD r false):=List.filter_congr λq hq=>by
        rw [getD_set_ne false (λe=>hx (by rw [e];exact hq))]
       rw [Aw,this]
      ·have hm:=(Ay.1 hm).resolve_left (Fv hxi)
       rw [getD_set_ne false (Fv hxi)]
       split
       ·rw [Aw,Aw,ihL hn hm]
       ·exact ihL hn hm
    exact Anj E hEn hiE
   refine ih f (Af.setIfInBounds i true) LA st _ w (by omega) (by simp [jb]) sX (λj=>?_) (Py.set hi) (λj hj=>getD_set_true (XC j hj)) qO ⟨π,?_⟩
   ·rw [XD]
    by_cases dO:i=j
    ·subst dO
     rw [show E.contains i=true by simpa using hiE,Bool.or_true,Bool.or_true]
    ·rw [getD_set_ne false dO]
   ·have h2:=hrel.put o.dst hu
    refine rY h2 ?_ ?_ λt=>?_
    ·rw [iN,Qd,Qd]
    ·rw [mj,Vl,Vl]
    ·have hdo:=bz ho
     by_cases hm:t∈jk ops (Ls E (Af.setIfInBounds i true))
     ·exact .inr ((Rf _ _ _).1 hm)
     ·rw [(Rf _ _ _).2 hm]
      obtain ⟨g1,g2⟩:=gz (Re ops (Ls E Af) st) o.dst v t
      by_cases he:o.dst=some t
      ·rw [hd t he]
       rcases g1 he with g|g
       ·exact .inl g.symm
       ·by_cases hl:t<st.tmps.length
        ·refine .inl ?_
         rw [he]
         show v=((Rx (Re ops (Ls E Af) st).tmps t v).getD t .undef)
         rw [Qh,Ac ⟨rfl,by rw [Vl];exact hl⟩]
        ·refine .inr ?_
         rw [<-hd t he]
         unfold St.get
         rw [Ah,Ds (by omega)]
         rfl
      ·rw [g2 he]
       refine .inl ((Rf _ _ _).2 λhm2=>?_).symm
       obtain ⟨q,hq,hqe⟩:=Le.1 hm2
       by_cases hqi:q=i
       ·subst hqi
        rw [hdo] at hqe
        exact he hqe
       ·exact hm (Le.2 ⟨q,(hpe q).2 ⟨hq,hqi⟩,hqe⟩)
  ·cases f with
   |zero=>
    obtain ⟨_,hr,_⟩:=qO
    have:=k1 i hi hiE
    rw [hr] at this
    cases this
   |succ f=>
    obtain ⟨_,_,Agx⟩:=qO
    obtain ⟨o,st',ho,he,eV⟩:=Agx i (k1 i hi hiE)
    obtain ⟨a',TD,eT⟩:=Aai hT Oh (Ls E Af) a Abj Agk.filter hrel
    have gE:wpOp P ops Q i (λa2 w2=>Rel X st' a2 w2) a' w:=by
     unfold wpOp
     simp only [ho]
     exact Uy hT Oh eT o he λa2 w2 h2=>h2
    have wU:=wc (Q:=Q) ho (λcs b=>Region.noSelect_spec aQ i o cs b ho) hQ (Ls E Af) a a' w (λr hr=>?_) TD gE
    ·refine wpOp_mono (λa2 w2 hk=>?_) wU
     obtain ⟨a3,hp3,π3,hr3⟩:=hk
     have hpe:Ls E (Af.setIfInBounds i true)=Ls E Af:=by
      unfold Ls
      refine List.filter_congr λq hq=>?_
      rw [getD_set_ne false (λe=>hiE (by rw [e];exact hq))]
     refine ih f (Af.setIfInBounds i true) (LA.setIfInBounds i true) st' a2 w2 (by rw [hpe];omega) (by simp [jb]) (by simp [sX]) (λj=>?_) (Py.set hi) (λj hj=>getD_set_true (XC j hj)) eV ⟨π3,by rw [hpe];exact VF hp3 hr3⟩
     by_cases dO:i=j
     ·subst dO
      simp [Jl,jb▸Jl,sX]
     ·rw [getD_set_ne false dO,getD_set_ne false dO,XD]
    ·obtain ⟨hrE,hrl⟩:=SY r hr
     have h3:=Ba.1 (Ba.1 hap r hrE) i (Ej.2 (by omega))
     simp only [Li] at h3
     rcases h3 with ((h3|h3)|h3)|h3
     ·exact absurd (by simpa using h3) hiE
     ·have:=XC i h3
      rw [getD_both mL] at this
      cases this
     ·exact (hiw r hr h3).elim
     ·obtain ⟨x,y,hx,hy,hp⟩:=Yv h3
      rw [ho] at hy;cases hy
      exact ⟨x,hx,hp⟩
theorem lC: ∀(E:List Nat) (s0 s1:St),Fq T Γ ops E s0=some s1->s1.heap=s0.heap/\s1.tmps.length=s0.tmps.length/\ ∀t,t∉jk ops E->s1.get t=s0.get t
 | [],s0,s1,h=>by
  simp only [Fq,Aa] at h
  subst h
  exact ⟨rfl,rfl,λ_ _=>rfl⟩
 |r::E,s0,s1,h=>by
  simp only [Fq] at h
  split at h
  ·cases h
  rename_i o ho
  split at h
  rotate_left
  ·cases h
  rename_i v hv
  obtain ⟨h1,h2,h3⟩:=lC E _ _ h
  refine ⟨by rw [h1,iN],by rw [h2,mj],λt ht=>?_⟩
  rw [h3 t λhm=>ht (by obtain ⟨q,hq,he⟩:=Le.1 hm;exact Le.2 ⟨q,An _ hq,he⟩)]
  exact (gz s0 o.dst v t).2 λe=>ht (Le.2 ⟨r,Ik ..,by rw [bz ho];exact e⟩)
theorem vF: ∀ {E:List Nat} {L0:Array Bool},gW ops E L0=true-> ∀r∈E,L0.getD r true=false
 | [],_,_,_,hr=>by cases hr
 |e::E,L0,h,r,hr=>by
  simp only [gW,Ag,Hk] at h
  have he:=(mem_ready.1 h.1).1
  rcases Ay.1 hr with rfl|hr
  ·exact he
  ·have h2:=vF h.2 r hr
   have Hq:e≠r:= λe'=>by subst e';simp [db he] at h2
   rw [getD_set_ne true Hq] at h2
   exact h2
theorem uq (hT:Dn P T) (Oh:Ki P Γ) {Q:Exit->Act->World->Prop} (hQ: ∀c a w,¬Q (.panic c) a w) {K:St->Prop} (hK: ∀st a w,K st->Rel X st a w->Q .normal a w) (aQ:Region.noSelect ops=true)
  {E:List Nat} {L0:Array Bool} (hE:bM ops E L0=true) {n:Nat} (hn:E.length<=n) {bn st1:St} (h1:Fq T Γ ops E bn=some st1) (h2:p8 T Γ ops E K (n-E.length) (Ef E L0) st1)
  (Zl:L0.size=ops.size) (Py:Te ops L0) {a:Act} {w:World} (hr:Rel X bn a w):wpAny P .any ops Q n L0 a w:=by
 have hE':=hE
 simp only [bM,Ag] at hE'
 have mL:=vF hE'.1.2
 have hp:Ls E L0=E:=List.filter_eq_self.2 λr hr=>by rw [getD_both (mL r hr)];rfl
 refine ur hT Oh hQ hK aQ hE n (n-E.length) L0 (Ef E L0) st1 a w (by rw [hp];omega) Zl (by rw [Vj];exact Zl) (λj=>?_) Py (λj hj=>hj) h2 ?_
 ·by_cases hj:j∈E
  ·rw [dW E L0 j hj (db (mL j hj)),show E.contains j=true by simpa using hj,Bool.or_true]
  ·rw [cg E L0 j hj,show E.contains j=false by simpa using hj,aA]
 ·obtain ⟨π,hr⟩:=hr
  obtain ⟨g1,g2,g3⟩:=lC E _ _ h1
  refine ⟨π,rY hr (by rw [Qd,g1]) (by rw [Vl,g2]) λt=>?_⟩
  rw [hp]
  by_cases ht:t∈jk ops E
  ·exact .inr ((Rf _ _ _).1 ht)
  ·exact .inl (((Rf _ _ _).2 ht).trans (g3 t ht))
theorem Wm (live:List Nat): ∀(i:Nat) (l:List AV),(Hp live i l).length=l.length
 |_,[]=>rfl
 |i,v::r=>by simp [Hp,Wm live (i+1) r]
theorem aI (live:List Nat): ∀(i:Nat) (l:List AV) (t:Nat),(Hp live i l).getD t .undef= .undef\/(Hp live i l).getD t .undef=l.getD t .undef
 |_,[],t=> .inr rfl
 |i,v::r,0=>by
  simp only [Hp,Wg]
  split
  ·exact .inr rfl
  ·exact .inl rfl
 |i,v::r,t+1=>by
  simp only [Hp,My]
  exact aI live (i+1) r t
theorem cb: ∀(l:List Nat) (st:St) (a:Act) (w:World),Rel X st a w->Rel X (ak l st) a w
 | [],_,_,_,h=>h
 |k::r,_,a,w,⟨_,h⟩=>cb r _ a w ⟨_,h.forget k⟩
theorem PU (dead:List Nat) {st:St} {a:Act} {w:World} (h:Rel X st a w):Rel X (st.Pv dead) a w:=by
 obtain ⟨π,h⟩:=h
 unfold St.Pv
 refine cb _ _ a w ⟨π,h.1,⟨by simp [Wm,h.2.size],h.2.defers,λt=>?_⟩⟩
 show Bn X w π st.heap ((Hp _ 0 st.tmps).getD t .undef) _
 rcases aI ((List.range st.tmps.length).filter λt=>!dead.contains t) 0 st.tmps t with e|e
 ·rw [e];trivial
 ·rw [e];exact h.2.tmps t
theorem oK (hT:Dn P T) (Oh:Ki P Γ) (hm:P.follows .mixedOrders=true) {Q:Exit->Act->World->Prop} {id:Nat} {draw:Bool} {st:St} {K:St->Prop} {a:Act} (h:Rel X st a w)
  (he:je T Γ ops draw st K) (hQ: ∀st' a' w',K st'->Rel X st' a' w'->Q .normal a' w'):(Code.region id ops draw).wp P Q a w:=by
 rcases he with ⟨st',h1,h2⟩|⟨rfl,aQ,bn,h1,h2⟩
 ·exact mW hT Oh hm h h1 λa' w' h'=>hQ st' a' w' h2 h'
 ·refine wp_mono (Q:= λe a w=>e= .normal/\Q .normal a w) ?_ λe a w h=>h.1▸h.2
  refine wp_region_any hm ?_
  have hrel:Rel X st a {w with drawn:=w.drawn+1} :=by
   obtain ⟨π,h⟩:=h
   exact ⟨π,h.quiet ⟨rfl,rfl,rfl,Ao _,λ_ _=>rfl⟩⟩
  have hlen:(Ju ops).length<=ops.size:=by
   have:=cj (ops:=ops) (!iF false ops) (List.range ops.size) (Array.replicate ops.size false)
   rw [List.length_range] at this
   exact this
  have lP:(Array.replicate ops.size false).size=ops.size:=by simp
  have hmv:(Ef (Ju ops) (Array.replicate ops.size false)).size=ops.size:=by rw [Vj,lP]
  have:=bk hT (!iF false ops) (X:=X) (P:=P) (T:=T) (Γ:=Γ) (Q:= λe a w=>e= .normal/\Q .normal a w) (n:=ops.size-(Ju ops).length) (st1:=bn) (λc a w hq=>by cases hq.1) aQ (List.range ops.size) (Array.replicate ops.size false) st a _ h1 hrel λa' w' h'=>by
   rcases h2 with h2|⟨E,st1,hE,hEn,hE1,hE2⟩
   ·exact jY hT Oh (λst' a' w' hk hr=>⟨rfl,hQ st' a' w' hk hr⟩) _ _ _ _ _ h2 h'
   ·exact uq hT Oh (λc a w hq=>by cases hq.1) (λst' a' w' hk hr=>⟨rfl,hQ st' a' w' hk hr⟩) aQ hE hEn hE1 hE2 hmv (Zv _ _ _ o4) h'
  have e:(Iu (!iF false ops) ops (List.range ops.size) (Array.replicate ops.size false)).length+(ops.size-(Ju ops).length)=ops.size:=by
   have e2:(Iu (!iF false ops) ops (List.range ops.size) (Array.replicate ops.size false)).length=(Ju ops).length:=rfl
   omega
  rw [e] at this
  exact this
theorem IE (hT:Dn P T) (Oh:Ki P Γ) (hm:P.follows .mixedOrders=true) {Q:Exit->Act->World->Prop} {id:Nat} {draw:Bool} {st:St} {K:St->Prop} {a:Act} (h:Rel X st a w)
  (he:wo T Γ ops draw st K) (hQ: ∀st' a' w',K st'->Rel X st' a' w'->Q .normal a' w'):(Code.region id ops draw).wp P Q a w:=by
 rcases he with he|⟨dead,_,he⟩
 ·exact oK hT Oh hm h he hQ
 ·exact oK hT Oh hm h he λst' a' w' hk hr=>hQ _ a' w' hk (PU dead hr)
end
end Go.Proofs.Ytkkdpknjohcekaa
