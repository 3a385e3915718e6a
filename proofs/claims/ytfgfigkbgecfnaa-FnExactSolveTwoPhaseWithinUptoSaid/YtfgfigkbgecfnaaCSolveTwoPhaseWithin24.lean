/-
  Part 25 of the proof that the statement FnExactSolveTwoPhaseWithin holds.
-/
import Derived.Test.YtfgfigkbgecfnaaCSolveTwoPhaseWithin23
namespace Go.Proofs.Ytfgfigkbgecfnaa
open Go.RowKit
section
variable {P:Program} {T:Tab} {Γ:Env} {X:Ctx} {w w':World} {π:Pi} {ops:Array Oper} {hd tl:List Nat}
structure ab (ops:Array Oper) (tl fl:List Nat) (Aj:Array Bool):Prop where
 size:Aj.size=ops.size
 done: ∀i,i∈fl->Aj.getD i false=true
 closed: ∀j oj,ops[j]?=some oj->Aj.getD j false=true-> ∀e∈oj.after,Region.binds .any e=true->Aj.getD e.on false=true
 tail: ∀t,t∈tl->Aj.getD t true=false
theorem ab.set {fl:List Nat} {i:Nat} {Aj:Array Bool} (inv:ab ops tl fl Aj) (hi:i∈Region.ready .any ops Aj) (Jq:i∉tl):ab ops tl fl (Aj.setIfInBounds i true):=by
 obtain ⟨_,oi,hoi,Ma⟩:=mem_ready.1 hi
 refine ⟨by simp [inv.size],λk hk=>getD_set_true (inv.done k hk),λj oj hj hl e he hb=>?_,λt ht=>by
  have Ii:i≠t:= λe=>Jq (by rw [e];exact ht)
  rw [getD_set_ne true Ii];exact inv.tail t ht⟩
 by_cases fU:i=j
 ·subst fU;have:oj=oi:=Bi (hj.symm.trans hoi);subst this;exact getD_set_true (Ma e he hb)
 ·rw [getD_set_ne false fU] at hl;exact getD_set_true (inv.closed j oj hj hl e he hb)
theorem MF (k:Nat) (r:List Nat) (h:(r.all λt=>(k::r).any λk=>Region.waitsFor .any ops t k)=true): ∀t,t∈r-> ∃k',(k'=k\/k'∈r)/\Region.waitsFor .any ops t k'=true:= λt ht=>by
 obtain ⟨k',h1,h2⟩:=Eu.1 (Bk.1 h t ht);exact ⟨k',Bd.1 h1,h2⟩
theorem JZ {fl:List Nat} {Aj:Array Bool} (hs:vh ops hd tl=true) (inv:ab ops tl fl Aj) (Uj: ∀i,i∈hd->i<ops.size):
  ∀(d i:Nat),ops.size-i=d->i∈hd->Aj.getD i true=false-> ∀t,t∈tl->t∉Region.ready .any ops Aj:=by
 cases tl with
 |nil=>intro d i _ _ _ t ht;cases ht
 |cons f r=>
  simp only [vh,Ak] at hs;obtain ⟨ld,wq⟩:=hs;intro d
  induction d using Nat.strongRecOn with
  |_ d ih=>
   intro i hd' hi pf t ht hr;obtain ⟨_,ot,hot,Ma⟩:=mem_ready.1 hr;rcases Bd.1 ht with rfl|o7
   ·have h1:=Bk.1 ld i hi;obtain ⟨j,hj,u6⟩:=Eu.1 h1;simp only [Ak,Wo] at u6;obtain ⟨oj,hoj,e,he,hb,hon⟩:=Region.waitsFor_spec u6.2;rcases Bd.1 hj with rfl|hjh
    ·have:oj=ot:=Bi (hoj.symm.trans hot);subst this;have h2:=Ma e he hb;rw [hon,getD_both pf] at h2;cases h2
    ·cases hl:Aj.getD j false with
     |true=>
      have h2:=inv.closed j oj hoj hl e he hb;rw [hon,getD_both pf] at h2;cases h2
     |false=>
      have hjs:j<Aj.size:=by rw [inv.size];exact Uj j hjh
      have:=Uj j hjh;exact ih (ops.size-j) (by omega) j rfl hjh (getD_in hjs hl) t (by simp) hr
   ·obtain ⟨k',h1,h2⟩:=MF f r wq t o7;obtain ⟨o',ho',e,he,hb,hon⟩:=Region.waitsFor_spec h2;have:o'=ot:=Bi (ho'.symm.trans hot);subst this;have h3:=Ma e he hb
    have hk:k'∈f::r:=by rcases h1 with rfl|h1<;>simp [*]
    rw [hon,getD_both (inv.tail k' hk)] at h3;cases h3
def ZA (T:Tab) (Γ:Env) (ops:Array Oper) (hd:List Nat) (L:Array Bool->St->Prop):Nat->Array Bool->St->Prop
 |0,Aj,st=>L Aj st
 |f+1,Aj,st=>
  Region.ready .any ops Aj≠ []/\ ∀i∈Region.ready .any ops Aj,i∈hd/\ ∃o v,ops[i]?=some o/\Xx T Γ ops st o=some v/\ZA T Γ ops hd L f (Aj.setIfInBounds i true) (st.put o.dst v)
theorem DS (hT:Ec P T) (Pn:Ky P Γ) {Q:Exit->Act->World->Prop} {K:Act->World->Prop} {st:St} {a:Act} (h:Rel X st a w) {i:Nat} {o:Oper} {v:AV} (ho:ops[i]?=some o) (hv:Xx T Γ ops st o=some v)
  (hK: ∀a' w',Rel X (st.put o.dst v) a' w'->K a' w'):wpOp P ops Q i K a w:=by
 obtain ⟨π,h⟩:=h;have run:Yb T Γ st o=some v->o.wp P a w K Q:= λhe=>rW (X:=X) (st':=st) (av:=v) (FI hT Pn h o v he) hK
 have skip:v= .at .skip->K (a.put o.dst undef) w:= λe=>by subst e;exact hK _ _ ⟨π,h.put o.dst JE⟩
 unfold wpOp;simp only [ho];unfold Xx at hv;split at hv
 ·rename_i hg;rw [Ac (by simp [Region.wanted,hg])];exact .inl (run hv)
 ·rename_i j want hg;split at hv
  ·rename_i b hb;have hy:=(fJ h j).1 b hb;split at hv
   ·rename_i MW;rw [Ac (by simp only [Region.wanted,hg,hy];simpa using MW)];exact .inl (run hv)
   ·rename_i MW;rw [Ai (by simp only [Region.wanted,hg,hy];simpa using MW)];simp only [Aa] at hv;exact skip hv.symm
  ·rename_i hb;have hy:=(fJ h j).2 hb;rw [Ai (by simp [Region.wanted,hg,hy])];simp only [Aa] at hv;exact skip hv.symm
  ·cases hv
theorem ma (hT:Ec P T) (Pn:Ky P Γ) {g:Nat} {L:Array Bool->St->Prop} {Q:Exit->Act->World->Prop} (hL: ∀Aj st a w,L Aj st->Rel X st a w->wpAny P .any ops Q g Aj a w):
  ∀(f:Nat) (Aj:Array Bool) (st:St) (a:Act) (w:World),ZA T Γ ops hd L f Aj st->Rel X st a w->wpAny P .any ops Q (f+g) Aj a w
 |0,Aj,st,a,w,h,hr=>by rw [Bl];exact hL _ _ _ _ h hr
 |f+1,Aj,st,a,w,h,hr=>by
  rw [show f+1+g=(f+g)+1 by omega];refine ⟨λh0=>absurd h0 h.1,λi hi=>?_⟩;obtain ⟨_,o,v,ho,hv,cb⟩:=h.2 i hi;exact DS hT Pn hr ho hv λa' w' h'=>ma hT Pn hL f _ _ _ _ cb h'
theorem LK {fl:List Nat} {i:Nat} {oi:Oper} {v:AV} {L:Array Bool->St->Prop} (hi:ops[i]?=some oi) (hs:vh ops hd tl=true) (Uj: ∀i,i∈hd->i<ops.size) (Jq:i∈hd)
  (Ma: ∀j,j<ops.size->j∈fl\/j∈hd\/j∈tl) (GA: ∀j,j∈hd->j∉tl) (Aoz: ∀Aj st,L Aj st-> ∀j∈Region.ready .any ops Aj,j∈tl):
  ∀(f:Nat) (Aj:Array Bool) (st:St),ab ops tl fl Aj->
   (∀j oj,ops[j]?=some oj->j≠i->Aj.getD j true=false->(∀e∈oj.after,Region.binds .any e=true->e.on≠i)->oi.apart ops oj=true)->
   i∈Region.ready .any ops Aj->Xx T Γ ops st oi=some v->
   ZA T Γ ops hd L f (Aj.setIfInBounds i true) (st.put oi.dst v)->ZA T Γ ops hd L (f+1) Aj st:=by
 intro f
 have Aqu: ∀Aj,ab ops tl fl Aj->i∈Region.ready .any ops Aj-> ∀j,j∈Region.ready .any ops Aj->j∈hd:=by
  intro Aj inv hr j hj;obtain ⟨pf,oj,hoj,_⟩:=mem_ready.1 hj;rcases Ma j (Nu.1 hoj).1 with h|h|h
  ·have h1:=inv.done j h;rw [getD_both pf] at h1;cases h1
  ·exact h
  ·exact absurd hj (JZ hs inv Uj _ i rfl Jq (mem_ready.1 hr).1 j h)
 induction f with
 |zero=>
  intro Aj st inv _ hr hv Hh;refine ⟨λh=>(by rw [h] at hr;cases hr),λj hj=>?_⟩;have hjh:=Aqu Aj inv hr j hj;refine ⟨hjh,?_⟩
  by_cases nt:j=i
  ·subst nt;exact ⟨oi,v,hi,hv,Hh⟩
  ·exact absurd (Aoz _ _ Hh j (ready_mono hj nt)) (GA j hjh)
 |succ f ih=>
  intro Aj st inv o6 hr hv Hh;have pf:=(mem_ready.1 hr).1;refine ⟨λh=>(by rw [h] at hr;cases hr),λj hj=>?_⟩;have hjh:=Aqu Aj inv hr j hj;refine ⟨hjh,?_⟩
  by_cases nt:j=i
  ·subst nt;exact ⟨oi,v,hi,hv,Hh⟩
  ·obtain ⟨_,oj,vj,hoj,hvj,cb⟩:=Hh.2 j (ready_mono hj nt);obtain ⟨Ap8,oj',Aw3,Aot⟩:=mem_ready.1 hj;have:oj'=oj:=Bi (Aw3.symm.trans hoj);subst this
   have ue: ∀e∈oj'.after,Region.binds .any e=true->e.on≠i:= λe he hb heq=>by
    have h1:=Aot e he hb;rw [heq,getD_both pf] at h1;cases h1
   obtain ⟨p1,p2,p3⟩:=Oper.apart_spec (o6 j oj' hoj nt Ap8 ue);rw [KF p1] at hvj;refine ⟨oj',vj,hoj,hvj,?_⟩
   have Akd: ∀k ok,ops[k]?=some ok->k≠i->(Aj.setIfInBounds j true).getD k true=false->
     (∀e∈ok.after,Region.binds .any e=true->e.on≠i)->oi.apart ops ok=true:= λk ok hk hki Aqg hno=>by
    refine o6 k ok hk hki ?_ hno
    by_cases hjk:j=k
    ·subst hjk;exact Ap8
    ·rw [getD_set_ne true hjk] at Aqg;exact Aqg
   refine ih (Aj.setIfInBounds j true) (st.put oj'.dst vj) (inv.set hj (GA j hjh)) Akd (ready_mono hr (Ha nt)) (by rw [KF p3];exact hv) ?_;rw [Array.setIfInBounds_comm _ _ nt,<-St.put_comm st v vj p2];exact cb
theorem rI: ∀(l:List Nat) (Aj:Array Bool),oP ops l Aj=true-> ∀j∈Region.ready .any ops Aj,j∈l
 | [],Aj,h,j,hj=>by simp only [oP,List.isEmpty_iff] at h;rw [h] at hj;cases hj
 |k::r,Aj,h,j,hj=>by
  simp only [oP,Ak,Kx,Wo] at h;rcases h.1 with h1|h1
  ·rw [h1] at hj;simp at hj;simp [hj]
  ·by_cases e:j=k
   ·simp [e]
   ·exact At _ (rI r _ h.2 j (ready_mono hj e))
theorem EA {fl:List Nat} (cc:Region.noSelect ops=true) (hs:vh ops hd tl=true) (Uj: ∀i,i∈hd->i<ops.size) (Ma: ∀j,j<ops.size->j∈fl\/j∈hd\/j∈tl) (GA: ∀j,j∈hd->j∉tl) (st':St):
  ∀(l:List Nat) (Aj:Array Bool) (st:St),(∀i,i∈l->i∈hd)->ab ops tl fl Aj->pK ops tl l Aj=true->Gt T Γ ops l st=some st'->
  ZA T Γ ops hd (λAI s=>oP ops tl AI=true/\s=st') l.length Aj st
 | [],Aj,st,_,_,hB,he=>by
  simp only [Gt,Aa] at he;exact ⟨by simpa [pK] using hB,he⟩
 |k::l,Aj,st,hl,inv,hB,he=>by
  simp only [pK,Ak] at hB;obtain ⟨⟨hr,hf⟩,hB'⟩:=hB;have hkh:=hl k (by simp)
  have lb:k∈Region.ready .any ops Aj:=by simpa using hr
  simp only [Gt] at he;split at he
  ·cases he
  ·rename_i o ho;split at he
   ·rename_i v hv
    exact LK ho hs Uj hkh Ma GA (λAI s hL=>rI tl AI hL.1) l.length Aj st inv (Region.free_spec ho hf) lb hv
     (EA cc hs Uj Ma GA st' l _ _ (λi hi=>hl i (by simp [hi])) (inv.set lb (GA k hkh)) hB' he)
   ·cases he
theorem zE {Q:Exit->Act->World->Prop} (hQ: ∀e a w,Q e a w->e= .normal) {k i:Nat} {x:Operand} {o:Oper} (ho:ops[k]?=some o) (qZ:o.op= .extract x i) (hg:o.guard=none) {K:Act->World->Prop} {a:Act} {w:World}
  (h:wpOp P ops Q k K a w): ∃v,Yields P ops o v a/\K (a.put o.dst v) w:=by
 unfold wpOp at h;simp only [ho] at h
 have hw:Region.wanted o (yielded ops a.tmps)=true:=by simp [Region.wanted,hg]
 rw [Ac hw] at h;rcases h with h|⟨_,a',w',h⟩
 ·unfold Oper.wp at h
  have hr: ∀w,(execOp a.eval o).run P w=(do pure (Next.value (<-Instr.extract (a.eval x) i))).run P w:= λw=>by unfold execOp;rw [qZ]
  rw [hr] at h;unfold Instr.extract at h hr;split at h
  ·rename_i vs hx;split at h
   ·rename_i v hv;rw [hx] at hr;simp only [hv] at hr;exact ⟨v, .inl ⟨hw,λw=>(hr w).trans rfl⟩,h⟩
   ·exact h.elim
  ·exact h.elim
 ·cases hQ _ _ _ h
theorem ej {Q:Exit->Act->World->Prop} (hQ: ∀e a w,Q e a w->e= .normal) (cc:Region.noSelect ops=true): ∀(l:List Nat) (Aj:Array Bool) (a:Act) (w:World),oP ops l Aj=true->wpOps P ops Q l a w->wpAny P .any ops Q l.length Aj a w
 | [],Aj,a,w,hB,h=>⟨by simpa [oP] using hB,h⟩
 |k::r,Aj,a,w,hB,h=>by
  simp only [oP,Ak,Kx,Wo] at hB;rw [wpOps_cons] at h;rcases hB.1 with h0|⟨h1,h2,h3⟩
  ·refine ⟨λh1=>(by rw [h0] at h1;cases h1),λi hi=>?_⟩;rw [h0] at hi
   have hik:i=k:=by simpa using hi
   subst hik;exact wpOp_mono (λa' w' h'=>ej hQ cc r _ a' w' hB.2 h') h
  ·unfold Abb at h1;split at h1
   ·rename_i o ho;split at h1
    ·rename_i x i qZ hg;obtain ⟨v,hy,hk⟩:=zE hQ ho qZ hg h;exact wpAny_take ho cc h3 h2 (λc a w hq=>by cases hQ _ _ _ hq) hy (ej hQ cc r _ _ w hB.2 hk)
    ·cases h1
   ·cases h1
theorem o0 {P:Program} {o:Oper} {t:Tmp} {a:Act} (h:o.op= .move (.tmp t)) (hg:o.guard=none):Yields P ops o (a.tmps.getD t undef) a:=by
 refine .inl ⟨by simp [Region.wanted,hg],λw=>?_⟩;unfold execOp;rw [h];rfl
theorem zW {hd tl:List Nat} {i:Nat} (h:o8 ops hd tl i=true): ∃o t,ops[i]?=some o/\o.op= .move (.tmp t)/\o.guard=none:=by
 unfold o8 at h;split at h
 ·rename_i o ho;simp only [Ak] at h;have h1:=h.1;split at h1
  ·rename_i t h2 h3;exact ⟨o,t,ho,h2,h3⟩
  ·cases h1
 ·cases h
theorem iA {q:Bool} {hd:List Nat} {Q:Exit->Act->World->Prop} (hQ: ∀c a w,¬Q (.panic c) a w) (cc:Region.noSelect ops=true) {n:Nat} {st1:St}
  (cb: ∀Aj st a w,(∀j oj,ops[j]?=some oj->Aj.getD j false=true-> ∀e∈oj.after,Region.binds .any e=true->Aj.getD e.on false=true)->Aj.size=ops.size->pK ops tl hd Aj=true->st=st1->Rel X st a w->
   (∀j,Aj.getD j false=true↔j∈Wv q Γ ops)->wpAny P .any ops Q n Aj a w):
  ∀(l dn:List Nat) (Aj:Array Bool) (st:St) (a:Act) (w:World),(∀j,j∈Wv q Γ ops↔j∈dn\/j∈l)->(∀i,i∈l-> ∃o t,ops[i]?=some o/\o.op= .move (.tmp t)/\o.guard=none)->
   (∀j oj,ops[j]?=some oj->Aj.getD j false=true-> ∀e∈oj.after,Region.binds .any e=true->Aj.getD e.on false=true)->Aj.size=ops.size->(∀j,Aj.getD j false=true↔j∈dn)->
   nZ ops tl hd l Aj=true->Gt T Γ ops l st=some st1->Rel X st a w->wpAny P .any ops Q (l.length+n) Aj a w
 | [],dn,Aj,st,a,w,hm,_,hc,Uj,hdn,hf,he,hr=>by
  simp only [Gt,Aa] at he;rw [Ex,Bl]
  exact cb Aj st a w hc Uj (by simpa [nZ] using hf) he hr λj=>by rw [hdn j,hm j];simp
 |k::l,dn,Aj,st,a,w,hm,hl,hc,Uj,hdn,hf,he,hr=>by
  simp only [nZ,Ak] at hf;obtain ⟨⟨h1,h2⟩,h3⟩:=hf;obtain ⟨o,t,ho,qZ,hg⟩:=hl k (by simp)
  have wI:k∈Region.ready .any ops Aj:=by simpa using h1
  obtain ⟨_,o',ho',Ma⟩:=mem_ready.1 wI;have ho2:o'=o:=Bi (ho'.symm.trans ho);subst ho2
  have hks:k<Aj.size:=by rw [Uj];exact (Nu.1 ho).1
  simp only [Gt,ho] at he
  have hv:Xx T Γ ops st o'=some (st.get t):=by simp only [Xx,hg,Yb,Fv,qZ];rfl
  rw [hv] at he;rw [Aw,show l.length+1+n=(l.length+n)+1 by omega];refine wpAny_take ho cc h2 h1 (λc a w hq=>absurd hq (hQ c _ w)) (o0 qZ hg) ?_;obtain ⟨π,hr⟩:=hr;refine iA hQ cc cb l (k::dn) _ _ _ _ (λj=>by rw [hm j,Bd,Bd];exact ⟨λh=>h.elim (λh=> .inl (.inr h)) (λh=>h.elim (λh=> .inl (.inl h)) .inr),λh=>h.elim (λh=>h.elim (λh=> .inr (.inl h)) .inl) (λh=> .inr (.inr h))⟩) (λi hi=>hl i (by simp [hi])) ?_ (by simp [Uj]) (λj=>?_) h3 he ⟨π,hr.put o'.dst (hr.2.tmps t)⟩
  ·intro j oj hj YS e hem hb
   by_cases ua:k=j
   ·subst ua;have:oj=o':=Bi (hj.symm.trans ho);subst this;exact getD_set_true (Ma e hem hb)
   ·rw [getD_set_ne false ua] at YS;exact getD_set_true (hc j oj hj YS e hem hb)
  ·by_cases ua:k=j
   ·subst ua;refine ⟨λ_=>by simp,λ_=>?_⟩;simp [hks]
   ·rw [getD_set_ne false ua,hdn j];simp [Ha ua]
theorem hZ {ops:Array Oper} : ∀(a b:List Nat) (st st':St),Gt T Γ ops (a++b) st=some st'-> ∃s,Gt T Γ ops a st=some s/\Gt T Γ ops b s=some st'
 | [],b,st,st',h=>⟨st,rfl,h⟩
 |i::a,b,st,st',h=>by
  simp only [Ka,Gt] at h⊢;split at h
  ·cases h
  ·split at h
   ·exact hZ a b _ st' h
   ·cases h
theorem pC (hT:Ec P T) (Pn:Ky P Γ) (hm:P.follows .mixedOrders=true) {Q:Exit->Act->World->Prop} {id:Nat} {draw:Bool} {st st':St} {a:Act} (h:Rel X st a w)
  (he:Sl T Γ ops draw st=some st') (hQ: ∀a' w',Rel X st' a' w'->Q .normal a' w'):(Code.region id ops draw).wp P Q a w:=by
 unfold Sl at he
 cases draw with
 |false=>
  rw [Ai (by simp)] at he;exact wp_region_list (lA hT Pn ops.toList st st' a w h he hQ)
 |true=>
  rw [Ac rfl] at he
  have go: ∀(q:Bool),du q Γ ops=true->(match Gt T Γ ops (kF q Γ ops) st with
    |some st'=>Nk T Γ ops (Kb q Γ ops) st'
    |none=>none)=some st'->(Code.region id ops true).wp P Q a w:=by
   intro q jr he;split at he
   ·rename_i st1 h1;simp only [du,Ak,beq_iff_eq] at jr;obtain ⟨⟨⟨cc,hlen⟩,Akb⟩,Aq9⟩:=jr;refine wp_mono (Q:= λe a w=>e= .normal/\Q .normal a w) ?_ λe a w h=>h.1▸h.2;refine wp_region_any hm ?_
    have hrel:Rel X st a {w with drawn:=w.drawn+1} :=by
     obtain ⟨π,h⟩:=h;exact ⟨π,h.quiet ⟨rfl,rfl,rfl,Ap _,λ_ _=>rfl⟩⟩
    obtain ⟨s0,h0,h1⟩:=hZ _ _ _ _ h1;have Jq: ∀i,i∈dj q Γ ops->i<ops.size:= λi hi=>Ev.1 (Ck.1 hi).1;have Uj: ∀i,i∈Wy q Γ ops->i<ops.size:= λi hi=>Jq i (Ck.1 hi).1
    have Ma: ∀j,j<ops.size->j∈Wv q Γ ops\/j∈Wy q Γ ops\/j∈Kb q Γ ops:= λj hj=>by
     by_cases ht:j∈Kb q Γ ops
     ·exact .inr (.inr ht)
     ·have hh:j∈dj q Γ ops:=Ck.2 ⟨Ev.2 hj,by simpa using ht⟩
      cases YP:o8 ops (dj q Γ ops) (Kb q Γ ops) j with
      |true=>exact .inl (Ck.2 ⟨hh,YP⟩)
      |false=>exact .inr (.inl (Ck.2 ⟨hh,by rw [YP];rfl⟩))
    have Ai9: ∀j,j∈dj q Γ ops->j∉Kb q Γ ops:= λj hj=>by
     have:=(Ck.1 hj).2;simpa using this
    have GA: ∀j,j∈Wy q Γ ops->j∉Kb q Γ ops:= λj hj=>Ai9 j (Ck.1 hj).1;have Aoy: ∀j,j∈Wv q Γ ops->j∉Kb q Γ ops:= λj hj=>Ai9 j (Ck.1 hj).1
    have htl: ∀t,t∈Kb q Γ ops->t<ops.size:=by
     intro t ht;unfold Kb at ht
     have: ∀(l:List Nat) (acc:List Nat),(∀i,i∈acc->i<ops.size)->(∀i,i∈l->i<ops.size)-> ∀i,i∈l.foldl (init:=acc) (λacc i=>match ops[i]? with
       |some o=>if Abj q Γ o||o.after.any (λe=>Region.binds .any e&&acc.contains e.on) then acc++ [i] else acc
       |none=>acc)->i<ops.size:=by
      intro l
      induction l with
      |nil=>intro acc h1 _ i hi;exact h1 i hi
      |cons x l ih=>
       intro acc h1 h2 i hi;simp only [Ro] at hi;refine ih _ ?_ (λi hi=>h2 i (by simp [hi])) i hi;intro k hk;split at hk
       ·split at hk
        ·rcases Be.1 hk with hk|hk
         ·exact h1 k hk
         ·simp at hk;rw [hk];exact h2 x (by simp)
        ·exact h1 k hk
       ·exact h1 k hk
     exact this (List.range ops.size) [] (by simp) (λi hi=>Ev.1 hi) t ht
    rw [<-hlen]
    refine iA (q:=q) (X:=X) (T:=T) (Γ:=Γ) (tl:=Kb q Γ ops) (hd:=Wy q Γ ops) (st1:=s0) (λc a w hq=>by cases hq.1) cc ?_ (Wv q Γ ops) [] _ st a _ (λj=>by simp)
     (λi hi=>zW (Ck.1 hi).2) (λj oj _ hl=>(by rw [hlen,getD_replicate_false] at hl;cases hl)) (by simp [hlen]) (λj=>by rw [hlen,getD_replicate_false];simp) (by rw [hlen];exact Akb) h0 hrel
    intro Aj s a' w' hc bD Ap4 hs hr YP;subst hs
    have Ax6:ab ops (Kb q Γ ops) (Wv q Γ ops) Aj:=
     ⟨bD,λi hi=>(YP i).2 hi,hc,λt ht=>getD_in (by rw [bD];exact htl t ht) (by
      cases hg:Aj.getD t false with
      |false=>rfl
      |true=>exact absurd ht (Aoy t ((YP t).1 hg)))⟩
    have HA:=EA (T:=T) (Γ:=Γ) cc Aq9 Uj Ma GA st1 (Wy q Γ ops) _ s (λi hi=>hi) Ax6 Ap4 h1
    exact ma (X:=X) (P:=P) (Q:= λe a w=>e= .normal/\Q .normal a w) (g:=(Kb q Γ ops).length) hT Pn (λAj s a' w' hL hr=>by
     obtain ⟨Awg,rfl⟩:=hL
     exact ej (λe a w h=>h.1) cc (Kb q Γ ops) Aj a' w' Awg (lv hT Pn _ _ st' a' w' hr he λa w h=>⟨rfl,hQ a w h⟩)) _ _ _ _ _ HA hr
   ·cases he
  split at he
  ·rename_i jr;exact go false jr he
  ·split at he
   ·rename_i jr;exact go true jr he
   ·cases he
theorem ec (q:Bool): ∀(l:List Nat) (Aj:Array Bool),(Jx q ops l Aj).length<=l.length
 | [],_=>Ap _
 |i::r,Aj=>by
  simp only [Jx];split
  ·simp only [Aw];have:=ec q r (Aj.setIfInBounds i true);omega
  ·simp only [Aw];have:=ec q r Aj;omega
theorem IU (hT:Ec P T) {st:St} {a:Act} (h:Bs X π st a w) {i:Nat} {o:Oper} (ho:ops[i]?=some o) (hp:kJ ops i=true) {v:AV} (hv:Xx T Γ ops st o=some v):
  ∃u,Yields P ops o u a/\Bx X w π st.heap v u:=by
 unfold kJ at hp;rw [ho] at hp;simp only at hp;obtain ⟨dst,op,ty,pos,af,gd⟩:=o;split at hp
 ·rename_i t h3 h4;simp only at h3 h4;subst h3;subst h4;refine ⟨a.tmps.getD t undef,o0 rfl rfl,?_⟩;simp only [Xx,Yb,Fv,Aa] at hv;subst hv;exact h.2.tmps t
 ·rename_i x h3 h4;simp only at h3 h4;subst h3;subst h4;have e:=Eb h.2 x
  have fin:(∃ad,a.eval x= .pointer (some ad))->Yields P ops ⟨dst, .nilCheck x,ty,pos,af,none⟩ (a.eval x) a:= λ⟨ad,hx⟩=>
   .inl ⟨by simp [Region.wanted],λw=>by simp [execOp,hx]⟩
  simp only [Xx,Yb,Fv] at hv;split at hv
  ·rename_i fr τ y hx;simp only [Aa] at hv;subst hv;rw [hx] at e;have e':=e;obtain ⟨cs,hc,hv⟩:=e;simp only [Cells] at hc;obtain ⟨g,o,rfl,_⟩:=hc;simp only [Cj,Ty.Ar,Dt,Uk,iR] at hv;exact ⟨_,fin ⟨_,hv⟩,e'⟩
  ·rename_i fr τ y hx;simp only [Aa] at hv;subst hv;rw [hx] at e;obtain ⟨cs,hc,hv⟩:=e;simp only [Cells] at hc;rcases hc with ⟨h0,_⟩|⟨y',g,o,h0,rfl,hr⟩
   ·cases h0
   simp only [Aa] at h0;subst h0;simp only [Cj,Ty.Ar,Dt,Uk,iR] at hv;exact ⟨_,fin ⟨_,hv⟩,[_],⟨g,o,rfl,hr⟩,by rw [hv];simp [Cj,Ty.Ar]⟩
  ·rename_i l i hx;simp only [Aa] at hv;subst hv;rw [hx] at e;have e':=e;obtain ⟨r,tid,vs,_,_,hv⟩:=e;exact ⟨_,fin ⟨_,hv⟩,e'⟩
  ·rename_i l i hx;simp only [Aa] at hv;subst hv;rw [hx] at e;have e':=e;obtain ⟨r,b,sz,n,_,_,_,_,hv⟩:=e;exact ⟨_,fin ⟨_,hv⟩,e'⟩
  ·cases hv
 ·rename_i s x f h3 h4;simp only at h3 h4;subst h3;subst h4;simp only [Xx,Yb,Fv] at hv;obtain ⟨u,h1,h2⟩:=de hT (st:=st) _ _ _ _ v (Eb h.2 x) hv;refine ⟨u, .inl ⟨by simp [Region.wanted],λw=>?_⟩,h2⟩;have:=h1 w;simp only [execOp,Sem.run_bind]
  first
   |(rw [this];rfl)
   |simp [this]
 ·cases hp
theorem BK {i:Nat} (h:zX ops i=true):kJ ops i=true:=by
 unfold zX at h;unfold kJ;split at h
 ·rename_i o ho;split at h
  ·rename_i h1 h2;simp only [h1,h2]
  ·cases h
 ·cases h
theorem cM (hT:Ec P T) (q:Bool) {Q:Exit->Act->World->Prop} (hQ: ∀c a w,¬Q (.panic c) a w) (cc:Region.noSelect ops=true) {n:Nat} {st1:St} :
  ∀(l:List Nat) (Aj:Array Bool) (st:St) (a:Act) (w:World),Gt T Γ ops (Jx q ops l Aj) st=some st1->Rel X st a w->
   (∀a w,Rel X st1 a w->wpAny P .any ops Q n (Et (Jx q ops l Aj) Aj) a w)->wpAny P .any ops Q ((Jx q ops l Aj).length+n) Aj a w
 | [],Aj,st,a,w,he,hr,hK=>by
  simp only [Jx,Gt,Aa] at he;subst he;simp only [Jx,Ex,Bl];exact hK a w hr
 |k::l,Aj,st,a,w,he,hr,hK=>by
  simp only [Jx] at he hK⊢;split
  ·rename_i hc;rw [Ac hc] at he hK;simp only [Ak] at hc;obtain ⟨h0,h1,h2⟩:=hc
   have hp:kJ ops k=true:=by
    cases q with
    |true=>exact h0
    |false=>exact BK h0
   simp only [Gt] at he;split at he
   ·cases he
   rename_i o ho;split at he
   rotate_left
   ·cases he
   rename_i v hv;obtain ⟨π,hr⟩:=hr;obtain ⟨u,hy,hu⟩:=IU (Γ:=Γ) hT hr ho hp hv;rw [Aw,show (Jx q ops l (Aj.setIfInBounds k true)).length+1+n=((Jx q ops l (Aj.setIfInBounds k true)).length+n)+1 by omega];refine wpAny_take ho cc h2 h1 (λc a w hq=>absurd hq (hQ c _ w)) hy ?_;exact cM hT q hQ cc l _ _ _ _ he ⟨π,hr.put o.dst hu⟩ hK
  ·rename_i hc;rw [Ai hc] at he hK;exact cM hT q hQ cc l Aj st a w he hr hK
theorem mb (hT:Ec P T) (Pn:Ky P Γ) {Q:Exit->Act->World->Prop} {K:St->Prop} (hK: ∀st a w,K st->Rel X st a w->Q .normal a w):
  ∀(f:Nat) (Aj:Array Bool) (st:St) (a:Act) (w:World),anyS T Γ ops K f Aj st->Rel X st a w->wpAny P .any ops Q f Aj a w
 |0,Aj,st,a,w,h,hr=>⟨h.1,hK _ _ _ h.2 hr⟩
 |f+1,Aj,st,a,w,h,hr=>by
  refine ⟨λh0=>absurd h0 h.1,λi hi=>?_⟩;obtain ⟨o,st',ho,he,cb⟩:=h.2 i hi;obtain ⟨π,hr⟩:=hr;unfold wpOp;simp only [ho];exact Wu hT Pn hr o he λa' w' h'=>mb hT Pn hK f _ _ _ _ cb h'
def Uy (ops:Array Oper) (Aj:Array Bool):Prop:= ∀k a,Aj.getD k false=true->Region.waitsFor .any ops k a=true->Aj.getD a false=true
theorem dw {Aj:Array Bool} {i a:Nat} (h:i∈Region.ready .any ops Aj) (hw:Region.waitsFor .any ops i a=true):Aj.getD a false=true:=by
 obtain ⟨_,o,ho,Ma⟩:=mem_ready.1 h;obtain ⟨o',ho',e,he,hb,rfl⟩:=Region.waitsFor_spec hw;rw [ho] at ho';cases ho';exact Ma e he hb
theorem Uy.set {Aj:Array Bool} (hc:Uy ops Aj) {i:Nat} (hi:i∈Region.ready .any ops Aj):Uy ops (Aj.setIfInBounds i true):= λk a hk hw=>by
 by_cases hik:i=k
 ·subst hik;exact getD_set_true (dw hi hw)
 ·rw [getD_set_ne false hik] at hk;exact getD_set_true (hc k a hk hw)
theorem qK:Uy ops (Array.replicate ops.size false):= λk a hk _=>by
 rw [getD_replicate_false] at hk;cases hk
theorem bb (q:Bool): ∀(l:List Nat) (Aj:Array Bool),Uy ops Aj->Uy ops (Et (Jx q ops l Aj) Aj)
 | [],Aj,h=>h
 |i::r,Aj,h=>by
  simp only [Jx];split
  ·rename_i hc;rw [Ak,Ak] at hc
   have hi:i∈Region.ready .any ops Aj:=by simpa using hc.2.1
   exact bb q r _ (h.set hi)
  ·exact bb q r Aj h
theorem Xd: ∀(l:List Nat) (Aj:Array Bool),(Et l Aj).size=Aj.size
 | [],_=>rfl
 |i::r,Aj=>by simp only [Et];rw [Xd r];simp
theorem ga: ∀(l:List Nat) (Aj:Array Bool) (k:Nat),k∈l->k<Aj.size->(Et l Aj).getD k false=true
 |i::r,Aj,k,h,hk=>by
  simp only [Et]
  by_cases hr:k∈r
  ·exact ga r _ k hr (by simpa using hk)
  ·have:k=i:=(Bd.1 h).resolve_right hr;subst this
   have hs: ∀(l:List Nat) (A:Array Bool),A.getD k false=true->(Et l A).getD k false=true:=by
    intro l
    induction l with
    |nil=>exact λA h=>h
    |cons j l ih=>exact λA h=>ih _ (getD_set_true h)
   exact hs r _ (by simp [hk])
theorem dW: ∀(l:List Nat) (Aj:Array Bool) (k:Nat),k∉l->(Et l Aj).getD k false=Aj.getD k false
 | [],_,_,_=>rfl
 |i::r,Aj,k,h=>by
  simp only [Et];rw [dW r _ k λhk=>h (At _ hk),getD_set_ne false (λe=>h (by rw [e];simp))]
def Ms (E:List Nat) (Aj:Array Bool):List Nat:=E.filter λr=>!Aj.getD r false
def dP (ops:Array Oper) (r:Nat):Option Tmp:=(ops[r]?).bind (·.dst)
def lu (ops:Array Oper) (Q:List Nat):List Nat:=Q.filterMap (dP ops)
def Sr (ops:Array Oper):List Nat->St->St
 | [],st=>st
 |r::Q,st=>(Sr ops Q st).put (dP ops r) .undef
def TX (ops:Array Oper):List Nat->Act->Act->Prop
 | [],a,a'=>a'=a
 |r::Q,a,a'=> ∃u,TX ops Q (a.put (dP ops r) u) a'
theorem Adn {H:List (Nat×OB)} {v:Value} :Bx X w π H .undef v:=trivial
theorem jm (s:St) (d:Option Tmp) (v:AV) (t:Nat):(d=some t->(s.put d v).get t=v\/(s.put d v).get t= .undef)/\(d≠some t->(s.put d v).get t=s.get t):=by
 cases d with
 |none=>exact ⟨λh=>(by cases h),λ_=>rfl⟩
 |some e=>
  have key:(s.put (some e) v).get t=if e=t/\t<s.tmps.length then v else s.get t:=Ri _ _ _ _ _
  refine ⟨λh=>?_,λh=>?_⟩
  ·cases h;rw [key]
   by_cases hl:t<s.tmps.length
   ·rw [Ac ⟨rfl,hl⟩];exact .inl rfl
   ·rw [Ai (λh=>hl h.2)];exact .inr (by unfold St.get;rw [Al,Dv (by omega)];rfl)
  ·rw [key,Ai];rintro ⟨rfl,_⟩;exact h rfl
theorem kO (s:St) (d:Option Tmp) (v:AV):(s.put d v).heap=s.heap:=by cases d<;>rfl
theorem oH (s:St) (d:Option Tmp) (v:AV):(s.put d v).tmps.length=s.tmps.length:=by
 cases d with
 |none=>rfl
 |some d=>exact aB _ _ _
theorem Rc: ∀(Q:List Nat) (st:St),(Sr ops Q st).heap=st.heap
 | [],_=>rfl
 |r::Q,st=>by simp only [Sr];rw [kO,Rc Q]
theorem Xf: ∀(Q:List Nat) (st:St),(Sr ops Q st).tmps.length=st.tmps.length
 | [],_=>rfl
 |r::Q,st=>by simp only [Sr];rw [oH,Xf Q]
theorem Mf {Q:List Nat} {t:Nat} :t∈lu ops Q↔ ∃r∈Q,dP ops r=some t:=List.mem_filterMap
theorem Ss: ∀(Q:List Nat) (st:St) (t:Nat),(t∈lu ops Q->(Sr ops Q st).get t= .undef)/\(t∉lu ops Q->(Sr ops Q st).get t=st.get t)
 | [],st,t=>⟨λh=>by simp [lu] at h,λ_=>rfl⟩
 |r::Q,st,t=>by
  obtain ⟨h1,h2⟩:=Ss Q st t;obtain ⟨g1,g2⟩:=jm (Sr ops Q st) (dP ops r) .undef t;simp only [Sr]
  by_cases hd:dP ops r=some t
  ·refine ⟨λ_=>(g1 hd).elim id id,λh=>absurd (Mf.2 ⟨r,Kv ..,hd⟩) h⟩
  ·refine ⟨λh=>?_,λh=>?_⟩
   ·rw [g2 hd];obtain ⟨q,hq,he⟩:=Mf.1 h;rcases Bd.1 hq with rfl|hq
    ·exact absurd he hd
    ·exact h1 (Mf.2 ⟨q,hq,he⟩)
   ·rw [g2 hd]
    exact h2 λhm=>by
     obtain ⟨q,hq,he⟩:=Mf.1 hm;exact h (Mf.2 ⟨q,At _ hq,he⟩)
theorem uW {st s:St} {a:Act} (h:Bs X π st a w) (hh:s.heap=st.heap) (hl:s.tmps.length=st.tmps.length) (hg: ∀t,s.get t=st.get t\/s.get t= .undef):Bs X π s a w:=by
 refine ⟨by rw [hh];exact h.1,⟨by rw [hl];exact h.2.size,h.2.defers,λt=>?_⟩⟩;rw [hh];rcases hg t with e|e
 ·rw [e];exact h.2.tmps t
 ·rw [e];exact Adn
theorem KE {st s:St} {o:Oper} (hh:s.heap=st.heap) (hg: ∀t,t∈o.looksAt ops->s.get t=st.get t):Xx T Γ ops s o=Xx T Γ ops st o:=by
 obtain ⟨ts,H⟩:=s;obtain ⟨ts',H'⟩:=st;simp only at hh;subst hh;exact z7 hg
theorem rz (hT:Ec P T) (Pn:Ky P Γ) {st:St} {a:Act} (h:Bs X π st a w) {i:Nat} {o:Oper} (ho:ops[i]?=some o) (hp:kK ops i=true) {v:AV} (hv:Xx T Γ ops st o=some v):
  ∃u,(∀(Q:Exit->Act->World->Prop) (K:Act->World->Prop),K (a.put o.dst u) w->wpOp P ops Q i K a w)/\Bx X w π st.heap v u:=by
 unfold kK at hp;rw [ho] at hp;simp only at hp
 have hgd:o.guard=none:=by
  obtain ⟨dst,op,ty,pos,af,gd⟩:=o
  cases gd with
  |none=>rfl
  |some g=>split at hp<;>first|rfl|(rename_i h4;cases h4)|cases hp
 have hb:Yb T Γ st o=some v:=by
  unfold Xx at hv;rw [hgd] at hv;exact hv
 have hw:Region.wanted o (yielded ops a.tmps)=true:=by simp [Region.wanted,hgd]
 have fin: ∀s:Sem Value,execOp a.eval o=(do pure (.value (<-s)))->Fv T Γ st o=some v-> ∃u,(∀(Q:Exit->Act->World->Prop) (K:Act->World->Prop),K (a.put o.dst u) w->wpOp P ops Q i K a w)/\Bx X w π st.heap v u:=by
  intro s he hq;have hg:=jd hT Pn h o v hq;rw [he,Sem.run_bind] at hg
  cases hr:s.run P w with
  |ok u w'=>
   rw [hr] at hg
   obtain ⟨e,hu⟩:=(show w'=w/\Bx X w π st.heap v u from hg)
   subst e;refine ⟨u,λQ K hK=>?_,hu⟩;unfold wpOp;simp only [ho];rw [Ac hw];refine .inl ?_;unfold Oper.wp;rw [he,Sem.run_bind,hr];exact hK
  |halt x w'=>rw [hr] at hg;exact hg.elim
 obtain ⟨dst,op,ty,pos,af,gd⟩:=o;simp only at hgd;subst hgd;split at hp
 ·rename_i x h3 h4;simp only at h3;subst h3;exact fin (pure (a.eval x)) (by simp [execOp]) hb
 ·rename_i x h3 h4;simp only at h3;subst h3;exact fin _ rfl hb
 ·rename_i x h3 h4;simp only at h3;subst h3;exact fin _ rfl hb
 ·rename_i x h3 h4;simp only at h3;subst h3;exact fin _ rfl hb
 ·cases hp
theorem YG {j:Nat} {oi oj:Oper} {v:Value} (hj:ops[j]?=some oj) (hap:oi.apart ops oj=true) (hsj: ∀cs b,oj.op≠ .select cs b)
  {Q:Exit->Act->World->Prop} (hQ: ∀c a w,¬Q (.panic c) a w) {K:Act->World->Prop} {a:Act} {w:World} (h:wpOp P ops Q j K (a.put oi.dst v) w):
  wpOp P ops Q j (λa' w'=>K (a'.put oi.dst v) w') a w:=by
 obtain ⟨h1,h2,h3⟩:=Oper.apart_spec hap;unfold wpOp at*;simp only [hj] at*;rw [wanted_put oj a oi.dst v h1] at h;split
 ·rename_i hw;simp only [hw,Oz] at h;rcases h with h|⟨Ai3,Apa⟩
  case inr=>exact .inr ⟨by unfold Oper.asks at*;rw [execOp_put oj hsj a oi.dst v h1] at Ai3;exact Ai3,Apa⟩
  refine .inl ?_;unfold Oper.wp at*;rw [execOp_put oj hsj a oi.dst v h1] at h;generalize (execOp a.eval oj).run P w=r at*
  cases r with
  |ok n w'=>
   cases n<;>simp only [Oper.upon] at h⊢
   case value u=>rw [<-Act.put_comm a v u h2];exact h
   case skip=>rw [<-Act.put_comm a v undef h2];exact h
   case defer d=>
    rw [<-Act.put_comm _ v undef h2,<-Act.put_defers];exact h
   case enter f args=>
    refine Calls.mono h λe rU he=>?_
    cases e with
    |returned u=>show K ((a.put oj.dst u).put oi.dst v) rU;rw [<-Act.put_comm a v u h2];exact he
    |panicked c=>exact absurd he (hQ _ _ _)
    |outgrown=>exact he
   case row row args=>exact Rows.mono h λu rU he=>by rw [<-Act.put_comm a v u h2];exact he
  |halt x w'=>
   cases x<;>simp only [Oper.upon] at h⊢
   case panic u=>exact absurd h (hQ _ _ _)
 ·rename_i hw;simp only [hw] at h;rw [<-Act.put_comm a v undef h2];exact h
theorem yF: ∀ {Q:List Nat} {a a':Act},TX ops Q a a'->a'.defers=a.defers/\a'.tmps.size=a.tmps.size/\ ∀t,t∉lu ops Q->a'.tmps.getD t undef=a.tmps.getD t undef
 | [],a,a',h=>by cases h;exact ⟨rfl,rfl,λ_ _=>rfl⟩
 |r::Q,a,a',⟨u,h⟩=>by
  obtain ⟨h1,h2,h3⟩:=yF h
  have hp:(a.put (dP ops r) u).defers=a.defers/\(a.put (dP ops r) u).tmps.size=a.tmps.size:=by cases dP ops r<;>simp [Act.put]
  refine ⟨h1.trans hp.1,h2.trans hp.2,λt ht=>?_⟩;have hn:dP ops r≠some t:= λe=>ht (Mf.2 ⟨r,Kv ..,e⟩);rw [h3 t λhm=>ht (by obtain ⟨q,hq,he⟩:=Mf.1 hm;exact Mf.2 ⟨q,At _ hq,he⟩)]
  cases hd:dP ops r with
  |none=>rfl
  |some d=>
   have Ii:d≠t:= λe=>hn (by rw [hd,e]);simp [Act.put,Array.getElem?_setIfInBounds_ne Ii]
theorem Acl {Q:List Nat} {st:St} {a a':Act} (hp:TX ops Q a a') (h:Bs X π st a' w):Bs X π (Sr ops Q st) a w:=by
 obtain ⟨h1,h2,h3⟩:=yF hp;refine ⟨by rw [Rc];exact h.1,⟨by rw [Xf,<-h2];exact h.2.size,by rw [<-h1];exact h.2.defers,λt=>?_⟩⟩;rw [Rc]
 by_cases ht:t∈lu ops Q
 ·rw [(Ss Q st t).1 ht];exact Adn
 ·rw [(Ss Q st t).2 ht,<-h3 t ht];exact h.2.tmps t
theorem z9 {j:Nat} {oj:Oper} (hj:ops[j]?=some oj) (hsj: ∀cs b,oj.op≠ .select cs b) {Q:Exit->Act->World->Prop} (hQ: ∀c a w,¬Q (.panic c) a w) {K:Act->World->Prop} :
  ∀(L:List Nat) (a a':Act) (w:World),(∀r∈L,∃o,ops[r]?=some o/\o.apart ops oj=true)->TX ops L a a'->wpOp P ops Q j K a' w->wpOp P ops Q j (λa2 w2=> ∃a3,TX ops L a2 a3/\K a3 w2) a w
 | [],a,a',w,_,hp,h=>by cases hp;exact wpOp_mono (λa2 w2 hk=>⟨a2,rfl,hk⟩) h
 |r::L,a,a',w,hap,⟨u,hp⟩,h=>by
  obtain ⟨o,ho,ha⟩:=hap r (Kv ..)
  have hd:dP ops r=o.dst:=by unfold dP;rw [ho];rfl
  rw [hd] at hp;have ih:=z9 hj hsj hQ L _ a' w (λq hq=>hap q (At _ hq)) hp h;exact wpOp_mono (λa2 w2 ⟨a3,h1,h2⟩=>⟨a3,⟨u,by rw [hd];exact h1⟩,h2⟩) (YG hj ha hsj hQ ih)
def LL (ops:Array Oper):List Nat->Prop
 | []=>True
 |r::L=>(∀q∈r::L,∀o d,ops[r]?=some o->dP ops q=some d->d∉o.looksAt ops)/\(∀q∈L,∀d,dP ops r=some d->dP ops q≠some d)/\LL ops L
def xF (ops:Array Oper):List Nat->Prop
 | []=>True
 |r::L=>(∀q∈L,Region.waitsFor .any ops q r=true\/ ∀o d,ops[q]?=some o->dP ops r=some d->d∉o.looksAt ops)/\xF ops L
theorem LL.filter {p:Nat->Bool} : ∀ {L:List Nat},LL ops L->LL ops (L.filter p)
 | [],_=>trivial
 |r::L,⟨h1,h2,h3⟩=>by
  rw [List.filter_cons];split
  ·exact ⟨λq hq=>h1 q (by rcases Bd.1 hq with rfl|hq;exact Kv ..;exact At _ (Ck.1 hq).1),λq hq=>h2 q (Ck.1 hq).1,h3.filter⟩
  ·exact h3.filter
theorem xF.filter {p:Nat->Bool} : ∀ {L:List Nat},xF ops L->xF ops (L.filter p)
 | [],_=>trivial
 |r::L,⟨h1,h3⟩=>by
  rw [List.filter_cons];split
  ·exact ⟨λq hq=>h1 q (Ck.1 hq).1,h3.filter⟩
  ·exact h3.filter
theorem aD {i j:Nat} {p:Oper->Oper->Bool} (h:qB ops i j p=true): ∃x y,ops[i]?=some x/\ops[j]?=some y/\p x y=true:=by
 unfold qB at h;split at h
 ·rename_i x y h1 h2;exact ⟨x,y,h1,h2,h⟩
 ·cases h
theorem gQ {x y:Oper} (h:p9 ops x y=true): ∀d,x.dst=some d->d∉y.looksAt ops:= λd hd=>by
 unfold p9 at h;rw [hd] at h;simpa using h
theorem FG {x y:Oper} (h:MN x y=true): ∀d,x.dst=some d->y.dst≠some d:= λd hd=>by
 unfold MN at h;rw [hd] at h;simpa using h
theorem dd {r:Nat} {o:Oper} (h:ops[r]?=some o):dP ops r=o.dst:=by unfold dP;rw [h];rfl
theorem rn: ∀ {E:List Nat},BG ops E=true->LL ops E/\xF ops E
 | [],_=>⟨trivial,trivial⟩
 |r::E,h=>by
  simp only [BG,Ak,Bk] at h;obtain ⟨⟨h1,h2⟩,h3⟩:=h;obtain ⟨g1,g2⟩:=rn h3;refine ⟨⟨λq hq o d ho hd=>?_,λq hq d hd=>?_,g1⟩,λq hq=>?_,g2⟩
  ·rcases Bd.1 hq with rfl|hq
   ·obtain ⟨x,y,hx,hy,hp⟩:=aD h1;rw [ho] at hx hy;cases hx;cases hy;rw [dd ho] at hd;exact gQ hp d hd
   ·obtain ⟨x,y,hx,hy,hp⟩:=aD (h2 q hq).1;rw [ho] at hx;cases hx;rw [dd hy] at hd;exact gQ (Hc.1 hp).2 d hd
  ·obtain ⟨x,y,hx,hy,hp⟩:=aD (h2 q hq).1;rw [dd hx] at hd;rw [dd hy];exact FG (Hc.1 hp).1 d hd
  ·have h4:=(h2 q hq).2;rw [Kx] at h4;rcases h4 with h4|h4
   ·exact .inl h4
   ·refine .inr λo d ho hd=>?_;obtain ⟨x,y,hx,hy,hp⟩:=aD h4;rw [ho] at hy;cases hy;rw [dd hx] at hd;exact gQ hp d hd
theorem Ahp (hT:Ec P T) (Pn:Ky P Γ) {st:St} : ∀(L:List Nat) (a:Act),(∀r∈L,kK ops r=true/\ ∃o v,ops[r]?=some o/\Xx T Γ ops st o=some v/\ ∀d,o.dst=some d->st.get d=v)->LL ops L->
  Bs X π (Sr ops L st) a w-> ∃a',TX ops L a a'/\Bs X π st a' w
 | [],a,_,_,h=>⟨a,rfl,h⟩
 |r::L,a,hs,⟨f1,f2,f3⟩,h=>by
  obtain ⟨hr,o,v,ho,hv,hd⟩:=hs r (Kv ..);have hdo:=dd ho
  have ya:Xx T Γ ops (Sr ops (r::L) st) o=some v:=by
   rw [KE (st:=st) (Rc _ _) λt ht=>(Ss _ _ _).2 λhm=>by
    obtain ⟨q,hq,he⟩:=Mf.1 hm
    exact f1 q hq o t ho he ht]
   exact hv
  obtain ⟨u,_,hu⟩:=rz hT Pn h ho hr ya;have h2:=h.put o.dst hu
  have h3:Bs X π (Sr ops L st) (a.put o.dst u) w:=by
   refine uW h2 ?_ ?_ λt=>?_
   ·rw [kO,Rc,Rc]
   ·rw [oH,Xf,Xf]
   ·obtain ⟨g1,g2⟩:=jm (Sr ops (r::L) st) o.dst v t
    by_cases he:o.dst=some t
    ·have sd:t∉lu ops L:= λhm=>by
      obtain ⟨q,hq,hqe⟩:=Mf.1 hm;exact f2 q hq t (by rw [hdo];exact he) hqe
     rw [(Ss L st t).2 sd,hd t he];rcases g1 he with g|g
     ·exact .inl g.symm
     ·by_cases hl:t<st.tmps.length
      ·refine .inl ?_;rw [he];show v=((Tm (Sr ops (r::L) st).tmps t v).getD t .undef);rw [Ri,Ac ⟨rfl,by rw [Xf];exact hl⟩]
      ·refine .inr ?_;rw [<-hd t he];unfold St.get;rw [Al,Dv (by omega)];rfl
    ·rw [g2 he];have:(Sr ops (r::L) st).get t=(Sr ops L st).get t:=(jm (Sr ops L st) (dP ops r) .undef t).2 (by rw [hdo];exact he);exact .inl this.symm
  obtain ⟨a',hp,iF⟩:=Ahp hT Pn L _ (λq hq=>hs q (At _ hq)) f3 h3;exact ⟨a',⟨u,by rw [hdo];exact hp⟩,iF⟩
theorem Aa3: ∀ {L:List Nat},LL ops L->xF ops L-> ∀ {i:Nat} {o:Oper},i∈L->ops[i]?=some o->(∀q∈L,Region.waitsFor .any ops i q=true->False)-> ∀q∈L,∀d,dP ops q=some d->d∉o.looksAt ops
 | [],_,_,i,_,hi,_,_=>by cases hi
 |r::L,⟨f1,f2,f3⟩,⟨b1,b2⟩,i,o,hi,ho,hw=> λq hq d hd=>by
  by_cases hir:i=r
  ·subst hir;exact f1 q hq o d ho hd
  ·have cO:=(Bd.1 hi).resolve_left hir;rcases Bd.1 hq with rfl|iE
   ·rcases b1 i cO with h|h
    ·exact (hw q hq h).elim
    ·exact h o d ho hd
   ·exact Aa3 f3 b2 cO ho (λq hq=>hw q (At _ hq)) q iE d hd
theorem qN {Aj:Array Bool} (Uj:Aj.size=ops.size): ∀ {E:List Nat} {L:Array Bool} {r:Nat} {Q:List Nat},jJ ops E L=true->(∀j,L.getD j false=true->Aj.getD j false=true)->Ms E Aj=r::Q->r∈Region.ready .any ops Aj
 | [],_,_,_,_,_,h=>by simp [Ms] at h
 |e::E,L,r,Q,hr,hl,hp=>by
  simp only [jJ,Ak,Kc] at hr;unfold Ms at hp;rw [List.filter_cons] at hp
  by_cases he:Aj.getD e false=true
  ·rw [Ai (by rw [he];simp)] at hp;refine qN Uj hr.2 (λj hj=>?_) hp
   by_cases hej:e=j
   ·subst hej;exact he
   ·rw [getD_set_ne false hej] at hj;exact hl j hj
  ·have he:Aj.getD e false=false:=by simpa using he
   rw [Ac (by rw [he];rfl)] at hp
   injection hp with xZ SI
   subst xZ;obtain ⟨_,o,ho,Ma⟩:=mem_ready.1 hr.1
   have Kr:e<Aj.size:=by rw [Uj];exact (Nu.1 ho).1
   exact mem_ready.2 ⟨getD_in Kr he,o,ho,λx hx hb=>hl _ (Ma x hx hb)⟩
theorem fb {Aj:Array Bool} {j:Nat} (h:Aj.getD j true=false):j<Aj.size:=by
 rcases Nat.lt_or_ge j Aj.size with h'|h'
 ·exact h'
 ·simp [Array.getElem?_eq_none h'] at h
theorem xE (hT:Ec P T) (Pn:Ky P Γ) {Q:Exit->Act->World->Prop} (hQ: ∀c a w,¬Q (.panic c) a w) {K:St->Prop} (hK: ∀st a w,K st->Rel X st a w->Q .normal a w) (cc:Region.noSelect ops=true)
  {E:List Nat} {L0:Array Bool} (hE:dv ops E L0=true): ∀(n f:Nat) (Aj LA:Array Bool) (st:St) (a:Act) (w:World),n=f+(Ms E Aj).length->Aj.size=ops.size->LA.size=ops.size->
   (∀j,LA.getD j false=(Aj.getD j false||E.contains j))->Uy ops Aj->(∀j,L0.getD j false=true->Aj.getD j false=true)->rZ T Γ ops E K f LA st->Rel X (Sr ops (Ms E Aj) st) a w->wpAny P .any ops Q n Aj a w:=by
 simp only [dv,Ak,Bk] at hE;obtain ⟨⟨hre,hry⟩,hpr,hap⟩:=hE;obtain ⟨Ap2,qV⟩:=rn hpr
 have key: ∀(n f:Nat) (Aj LA:Array Bool) (st:St) (a:Act) (w:World),n=f+(Ms E Aj).length->Aj.size=ops.size->LA.size=ops.size->
   (∀j,LA.getD j false=(Aj.getD j false||E.contains j))->Uy ops Aj->(∀j,L0.getD j false=true->Aj.getD j false=true)->rZ T Γ ops E K f LA st->Rel X (Sr ops (Ms E Aj) st) a w->
   (∀j,j∈Region.ready .any ops Aj->j∉E->j∈Region.ready .any ops LA)/\(Region.ready .any ops Aj= []->Q .normal a w/\f=0/\Ms E Aj= []):=by
  intro n f Aj LA st a w hn ld wq hLA Ra hL0 jn hrel
  have h1: ∀j,j∈Region.ready .any ops Aj->j∉E->j∈Region.ready .any ops LA:= λj hj hjE=>by
   obtain ⟨pf,o,ho,Ma⟩:=mem_ready.1 hj;have Kr:=fb pf;refine mem_ready.2 ⟨getD_in (by omega) ?_,o,ho,λe he hb=>by rw [hLA,Ma e he hb];rfl⟩;rw [hLA,getD_both pf];simpa using hjE
  refine ⟨h1,λh0=>?_⟩
  cases wJ:Ms E Aj with
  |cons r L=>
   have:=qN ld hry hL0 wJ;rw [h0] at this;cases this
  |nil=>
   have Ma: ∀r,r∈E->Aj.getD r false=true:= λr hr=>by
    have:r∉Ms E Aj:=by rw [wJ];simp
    unfold Ms at this;rw [Ck] at this
    by_cases hl:Aj.getD r false=true
    ·exact hl
    ·exact absurd ⟨hr,by simpa using hl⟩ this
   have hb: ∀j,j∈Region.ready .any ops LA->j∈Region.ready .any ops Aj:= λj hj=>by
    obtain ⟨pf,o,ho,hw⟩:=mem_ready.1 hj;have Kr:=fb pf
    have he: ∀k,LA.getD k false=Aj.getD k false:= λk=>by
     rw [hLA]
     by_cases hk:k∈E
     ·rw [Ma k hk];rfl
     ·rw [show E.contains k=false by simpa using hk,iK]
    exact mem_ready.2 ⟨getD_in (by omega) (by rw [<-he];exact getD_both pf),o,ho,λe hx hbd=>by rw [<-he];exact hw e hx hbd⟩
   cases f with
   |zero=>
    obtain ⟨_,_,hk⟩:=jn;rw [wJ] at hrel;exact ⟨hK _ _ _ hk hrel,rfl,rfl⟩
   |succ f=>
    obtain ⟨_,Ii,_⟩:=jn;obtain ⟨j,hj⟩:=List.exists_mem_of_ne_nil _ Ii;have:=hb j hj;rw [h0] at this;cases this
 intro n
 induction n with
 |zero=>
  intro f Aj LA st a w hn ld wq hLA Ra hL0 jn hrel;obtain ⟨k1,k2⟩:=key 0 f Aj LA st a w hn ld wq hLA Ra hL0 jn hrel
  have hf:f=0:=by omega
  have hp:Ms E Aj= []:=List.length_eq_zero_iff.1 (by omega);subst hf;obtain ⟨_,hr,_⟩:=jn
  have h0:Region.ready .any ops Aj= []:=List.eq_nil_iff_forall_not_mem.2 λj hj=>by
   by_cases hjE:j∈E
   ·have pf:=getD_both (mem_ready.1 hj).1;have:j∈Ms E Aj:=Ck.2 ⟨hjE,by rw [pf];rfl⟩;rw [hp] at this;cases this
   ·have:=k1 j hj hjE;rw [hr] at this;cases this
  exact ⟨h0,(k2 h0).1⟩
 |succ n ih=>
  intro f Aj LA st a w hn ld wq hLA Ra hL0 jn hrel;obtain ⟨k1,k2⟩:=key (n+1) f Aj LA st a w hn ld wq hLA Ra hL0 jn hrel
  have Sd:Acx T Γ ops E LA st:=by cases f<;>exact jn.1
  have Aar: ∀r∈Ms E Aj,r∈E/\Aj.getD r false=false:= λr hr=>by
   obtain ⟨h1,h2⟩:=Ck.1 hr;exact ⟨h1,by simpa using h2⟩
  have Ait: ∀r∈Ms E Aj,kK ops r=true/\ ∃o v,ops[r]?=some o/\Xx T Γ ops st o=some v/\ ∀d,o.dst=some d->st.get d=v:= λr hr=>by
   obtain ⟨h1,h2⟩:=Aar r hr;refine ⟨hre r h1,(Sd r h1).resolve_left λhw=>?_⟩;unfold sP at hw;obtain ⟨j,_,hj⟩:=Eu.1 hw;simp only [Ak,Fy] at hj;obtain ⟨hj1,u6,hj3⟩:=hj;rw [hLA,hj1,iK] at u6;have:=Ra j r u6 hj3;rw [h2] at this;cases this
  refine ⟨λh0=>(k2 h0).1,λi hi=>?_⟩;obtain ⟨π,hrel⟩:=hrel
  have hiw: ∀q∈Ms E Aj,Region.waitsFor .any ops i q=true->False:= λq hq hw=>by
   have:=dw hi hw;rw [(Aar q hq).2] at this;cases this
  obtain ⟨pf,oi,hoi,_⟩:=mem_ready.1 hi;have Kr:=fb pf
  by_cases hiE:i∈E
  ·have YR:i∈Ms E Aj:=Ck.2 ⟨hiE,by rw [getD_both pf];rfl⟩;obtain ⟨hrd,o,v,ho,hv,hd⟩:=Ait i YR;have hnl:=Aa3 (Ap2.filter (p:= λr=>!Aj.getD r false)) (qV.filter (p:= λr=>!Aj.getD r false)) YR ho hiw
   have ya:Xx T Γ ops (Sr ops (Ms E Aj) st) o=some v:=by
    rw [KE (st:=st) (Rc _ _) λt ht=>(Ss _ _ _).2 λhm=>by
     obtain ⟨q,hq,he⟩:=Mf.1 hm
     exact hnl q hq t he ht]
    exact hv
   obtain ⟨u,hy,hu⟩:=rz hT Pn hrel ho hrd ya;refine hy Q _ ?_
   have wJ: ∀q,q∈Ms E (Aj.setIfInBounds i true)↔q∈Ms E Aj/\q≠i:= λq=>by
    unfold Ms;rw [Ck,Ck]
    by_cases hqi:q=i
    ·subst hqi;simp [Kr]
    ·rw [getD_set_ne false (Ha hqi)];exact ⟨λh=>⟨h,hqi⟩,λh=>h.1⟩
   have hlen:(Ms E Aj).length=(Ms E (Aj.setIfInBounds i true)).length+1:=by
    have sd: ∀(E:List Nat) (L:Array Bool),jJ ops E L=true->E.Nodup/\ ∀r∈E,L.getD r true=false:=by
     intro E
     induction E with
     |nil=>exact λL _=>⟨Mc,λr hr=>by cases hr⟩
     |cons e E ihE=>
      intro L h;simp only [jJ,Ak,Kc] at h;obtain ⟨g1,g2⟩:=ihE _ h.2;have he:=(mem_ready.1 h.1).1;have lI:=fb he;refine ⟨Cn.2 ⟨λhm=>?_,g1⟩,λr hr=>?_⟩
      ·have:=g2 e hm;simp [lI] at this
      ·rcases Bd.1 hr with rfl|hr
       ·exact he
       ·have Ii:e≠r:= λe'=>by subst e';have:=g2 e hr;simp [lI] at this
        have:=g2 r hr;rw [getD_set_ne true Ii] at this;exact this
    have hEn:=(sd E L0 hry).1
    have Ax7: ∀L:List Nat,L.Nodup->i∈L->(L.filter λr=>!Aj.getD r false).length=(L.filter λr=>!(Aj.setIfInBounds i true).getD r false).length+1:=by
     intro L
     induction L with
     |nil=>exact λ_ h=>by cases h
     |cons x L ihL=>
      intro hn hm;obtain ⟨hx,hn⟩:=Cn.1 hn;rw [List.filter_cons,List.filter_cons]
      by_cases hxi:x=i
      ·subst hxi;rw [Ac (by rw [getD_both pf];rfl),Ai (by simp [Kr])]
       have:L.filter (λr=>!Aj.getD r false)=L.filter (λr=>!(Aj.setIfInBounds x true).getD r false):=List.filter_congr λq hq=>by
        rw [getD_set_ne false (λe=>hx (by rw [e];exact hq))]
       rw [Aw,this]
      ·have hm:=(Bd.1 hm).resolve_left (Ha hxi);rw [getD_set_ne false (Ha hxi)];split
       ·rw [Aw,Aw,ihL hn hm]
       ·exact ihL hn hm
    exact Ax7 E hEn hiE
   refine ih f (Aj.setIfInBounds i true) LA st _ w (by omega) (by simp [ld]) wq (λj=>?_) (Ra.set hi) (λj hj=>getD_set_true (hL0 j hj)) jn ⟨π,?_⟩
   ·rw [hLA]
    by_cases fU:i=j
    ·subst fU;rw [show E.contains i=true by simpa using hiE,Bool.or_true,Bool.or_true]
    ·rw [getD_set_ne false fU]
   ·have h2:=hrel.put o.dst hu;refine uW h2 ?_ ?_ λt=>?_
    ·rw [kO,Rc,Rc]
    ·rw [oH,Xf,Xf]
    ·have hdo:=dd ho
     by_cases hm:t∈lu ops (Ms E (Aj.setIfInBounds i true))
     ·exact .inr ((Ss _ _ _).1 hm)
     ·rw [(Ss _ _ _).2 hm];obtain ⟨g1,g2⟩:=jm (Sr ops (Ms E Aj) st) o.dst v t
      by_cases he:o.dst=some t
      ·rw [hd t he];rcases g1 he with g|g
       ·exact .inl g.symm
       ·by_cases hl:t<st.tmps.length
        ·refine .inl ?_;rw [he];show v=((Tm (Sr ops (Ms E Aj) st).tmps t v).getD t .undef);rw [Ri,Ac ⟨rfl,by rw [Xf];exact hl⟩]
        ·refine .inr ?_;rw [<-hd t he];unfold St.get;rw [Al,Dv (by omega)];rfl
      ·rw [g2 he];refine .inl ((Ss _ _ _).2 λhm2=>?_).symm;obtain ⟨q,hq,hqe⟩:=Mf.1 hm2
       by_cases hqi:q=i
       ·subst hqi;rw [hdo] at hqe;exact he hqe
       ·exact hm (Mf.2 ⟨q,(wJ q).2 ⟨hq,hqi⟩,hqe⟩)
  ·cases f with
   |zero=>
    obtain ⟨_,hr,_⟩:=jn;have:=k1 i hi hiE;rw [hr] at this;cases this
   |succ f=>
    obtain ⟨_,_,Qt⟩:=jn;obtain ⟨o,st',ho,he,cb⟩:=Qt i (k1 i hi hiE);obtain ⟨a',Aav,ib⟩:=Ahp hT Pn (Ms E Aj) a Ait Ap2.filter hrel
    have Na:wpOp P ops Q i (λa2 w2=>Rel X st' a2 w2) a' w:=by
     unfold wpOp;simp only [ho];exact Wu hT Pn ib o he λa2 w2 h2=>h2
    have zK:=z9 (Q:=Q) ho (λcs b=>Region.noSelect_spec cc i o cs b ho) hQ (Ms E Aj) a a' w (λr hr=>?_) Aav Na
    ·refine wpOp_mono (λa2 w2 hk=>?_) zK;obtain ⟨a3,hp3,π3,hr3⟩:=hk
     have wJ:Ms E (Aj.setIfInBounds i true)=Ms E Aj:=by
      unfold Ms;refine List.filter_congr λq hq=>?_;rw [getD_set_ne false (λe=>hiE (by rw [e];exact hq))]
     refine ih f (Aj.setIfInBounds i true) (LA.setIfInBounds i true) st' a2 w2 (by rw [wJ];omega) (by simp [ld]) (by simp [wq]) (λj=>?_) (Ra.set hi) (λj hj=>getD_set_true (hL0 j hj)) cb ⟨π3,by rw [wJ];exact Acl hp3 hr3⟩
     by_cases fU:i=j
     ·subst fU;simp [Kr,ld▸Kr,wq]
     ·rw [getD_set_ne false fU,getD_set_ne false fU,hLA]
    ·obtain ⟨hrE,GF⟩:=Aar r hr;have h3:=Bk.1 (Bk.1 hap r hrE) i (Ev.2 (by omega));simp only [Kx] at h3;rcases h3 with ((h3|h3)|h3)|h3
     ·exact absurd (by simpa using h3) hiE
     ·have:=hL0 i h3;rw [getD_both pf] at this;cases this
     ·exact (hiw r hr h3).elim
     ·obtain ⟨x,y,hx,hy,hp⟩:=aD h3;rw [ho] at hy;cases hy;exact ⟨x,hx,hp⟩
theorem nU: ∀(E:List Nat) (s0 s1:St),Gt T Γ ops E s0=some s1->s1.heap=s0.heap/\s1.tmps.length=s0.tmps.length/\ ∀t,t∉lu ops E->s1.get t=s0.get t
 | [],s0,s1,h=>by
  simp only [Gt,Aa] at h;subst h;exact ⟨rfl,rfl,λ_ _=>rfl⟩
 |r::E,s0,s1,h=>by
  simp only [Gt] at h;split at h
  ·cases h
  rename_i o ho;split at h
  rotate_left
  ·cases h
  rename_i v hv;obtain ⟨h1,h2,h3⟩:=nU E _ _ h;refine ⟨by rw [h1,kO],by rw [h2,oH],λt ht=>?_⟩;rw [h3 t λhm=>ht (by obtain ⟨q,hq,he⟩:=Mf.1 hm;exact Mf.2 ⟨q,At _ hq,he⟩)];exact (jm s0 o.dst v t).2 λe=>ht (Mf.2 ⟨r,Kv ..,by rw [dd ho];exact e⟩)
theorem yz: ∀ {E:List Nat} {L0:Array Bool},jJ ops E L0=true-> ∀r∈E,L0.getD r true=false
 | [],_,_,_,hr=>by cases hr
 |e::E,L0,h,r,hr=>by
  simp only [jJ,Ak,Kc] at h;have he:=(mem_ready.1 h.1).1;rcases Bd.1 hr with rfl|hr
  ·exact he
  ·have h2:=yz h.2 r hr
   have Ii:e≠r:= λe'=>by subst e';simp [fb he] at h2
   rw [getD_set_ne true Ii] at h2;exact h2
theorem xD (hT:Ec P T) (Pn:Ky P Γ) {Q:Exit->Act->World->Prop} (hQ: ∀c a w,¬Q (.panic c) a w) {K:St->Prop} (hK: ∀st a w,K st->Rel X st a w->Q .normal a w) (cc:Region.noSelect ops=true)
  {E:List Nat} {L0:Array Bool} (hE:dv ops E L0=true) {n:Nat} (hn:E.length<=n) {cP st1:St} (h1:Gt T Γ ops E cP=some st1) (h2:rZ T Γ ops E K (n-E.length) (Et E L0) st1)
  (Uj:L0.size=ops.size) (Ra:Uy ops L0) {a:Act} {w:World} (hr:Rel X cP a w):wpAny P .any ops Q n L0 a w:=by
 have hE':=hE;simp only [dv,Ak] at hE';have pf:=yz hE'.1.2
 have hp:Ms E L0=E:=List.filter_eq_self.2 λr hr=>by rw [getD_both (pf r hr)];rfl
 refine xE hT Pn hQ hK cc hE n (n-E.length) L0 (Et E L0) st1 a w (by rw [hp];omega) Uj (by rw [Xd];exact Uj) (λj=>?_) Ra (λj hj=>hj) h2 ?_
 ·by_cases hj:j∈E
  ·rw [ga E L0 j hj (fb (pf j hj)),show E.contains j=true by simpa using hj,Bool.or_true]
  ·rw [dW E L0 j hj,show E.contains j=false by simpa using hj,iK]
 ·obtain ⟨π,hr⟩:=hr;obtain ⟨g1,g2,g3⟩:=nU E _ _ h1;refine ⟨π,uW hr (by rw [Rc,g1]) (by rw [Xf,g2]) λt=>?_⟩;rw [hp]
  by_cases ht:t∈lu ops E
  ·exact .inr ((Ss _ _ _).1 ht)
  ·exact .inl (((Ss _ _ _).2 ht).trans (g3 t ht))
theorem Yl (live:List Nat): ∀(i:Nat) (l:List AV),(Iq live i l).length=l.length
 |_,[]=>rfl
 |i,v::r=>by simp [Iq,Yl live (i+1) r]
theorem bU (live:List Nat): ∀(i:Nat) (l:List AV) (t:Nat),(Iq live i l).getD t .undef= .undef\/(Iq live i l).getD t .undef=l.getD t .undef
 |_,[],t=> .inr rfl
 |i,v::r,0=>by
  simp only [Iq,Yg];split
  ·exact .inr rfl
  ·exact .inl rfl
 |i,v::r,t+1=>by
  simp only [Iq,Nz];exact bU live (i+1) r t
theorem dS: ∀(l:List Nat) (st:St) (a:Act) (w:World),Rel X st a w->Rel X (bC l st) a w
 | [],_,_,_,h=>h
 |k::r,_,a,w,⟨_,h⟩=>dS r _ a w ⟨_,h.forget k⟩
theorem XI (dead:List Nat) {st:St} {a:Act} {w:World} (h:Rel X st a w):Rel X (st.Qx dead) a w:=by
 obtain ⟨π,h⟩:=h;unfold St.Qx;refine dS _ _ a w ⟨π,h.1,⟨by simp [Yl,h.2.size],h.2.defers,λt=>?_⟩⟩;show Bx X w π st.heap ((Iq _ 0 st.tmps).getD t .undef) _;rcases bU ((List.range st.tmps.length).filter λt=>!dead.contains t) 0 st.tmps t with e|e
 ·rw [e];trivial
 ·rw [e];exact h.2.tmps t
theorem rC (hT:Ec P T) (Pn:Ky P Γ) (hm:P.follows .mixedOrders=true) {Q:Exit->Act->World->Prop} {id:Nat} {draw:Bool} {st:St} {K:St->Prop} {a:Act} (h:Rel X st a w)
  (he:lj T Γ ops draw st K) (hQ: ∀st' a' w',K st'->Rel X st' a' w'->Q .normal a' w'):(Code.region id ops draw).wp P Q a w:=by
 rcases he with ⟨st',h1,h2⟩|⟨rfl,cc,cP,h1,h2⟩
 ·exact pC hT Pn hm h h1 λa' w' h'=>hQ st' a' w' h2 h'
 ·refine wp_mono (Q:= λe a w=>e= .normal/\Q .normal a w) ?_ λe a w h=>h.1▸h.2;refine wp_region_any hm ?_
  have hrel:Rel X st a {w with drawn:=w.drawn+1} :=by
   obtain ⟨π,h⟩:=h;exact ⟨π,h.quiet ⟨rfl,rfl,rfl,Ap _,λ_ _=>rfl⟩⟩
  have hlen:(Lf ops).length<=ops.size:=by
   have:=ec (ops:=ops) (!kC false ops) (List.range ops.size) (Array.replicate ops.size false);rw [cS] at this;exact this
  have Aaj:(Array.replicate ops.size false).size=ops.size:=by simp
  have zO:(Et (Lf ops) (Array.replicate ops.size false)).size=ops.size:=by rw [Xd,Aaj]
  have:=cM hT (!kC false ops) (X:=X) (P:=P) (T:=T) (Γ:=Γ) (Q:= λe a w=>e= .normal/\Q .normal a w) (n:=ops.size-(Lf ops).length) (st1:=cP) (λc a w hq=>by cases hq.1) cc (List.range ops.size) (Array.replicate ops.size false) st a _ h1 hrel λa' w' h'=>by
   rcases h2 with h2|⟨E,st1,hE,hEn,hE1,hE2⟩
   ·exact mb hT Pn (λst' a' w' hk hr=>⟨rfl,hQ st' a' w' hk hr⟩) _ _ _ _ _ h2 h'
   ·exact xD hT Pn (λc a w hq=>by cases hq.1) (λst' a' w' hk hr=>⟨rfl,hQ st' a' w' hk hr⟩) cc hE hEn hE1 hE2 zO (bb _ _ _ qK) h'
  have e:(Jx (!kC false ops) ops (List.range ops.size) (Array.replicate ops.size false)).length+(ops.size-(Lf ops).length)=ops.size:=by
   have e2:(Jx (!kC false ops) ops (List.range ops.size) (Array.replicate ops.size false)).length=(Lf ops).length:=rfl;omega
  rw [e] at this;exact this
theorem PC (hT:Ec P T) (Pn:Ky P Γ) (hm:P.follows .mixedOrders=true) {Q:Exit->Act->World->Prop} {id:Nat} {draw:Bool} {st:St} {K:St->Prop} {a:Act} (h:Rel X st a w)
  (he:ze T Γ ops draw st K) (hQ: ∀st' a' w',K st'->Rel X st' a' w'->Q .normal a' w'):(Code.region id ops draw).wp P Q a w:=by
 rcases he with he|⟨dead,_,he⟩
 ·exact rC hT Pn hm h he hQ
 ·exact rC hT Pn hm h he λst' a' w' hk hr=>hQ _ a' w' hk (XI dead hr)
end
end Go.Proofs.Ytfgfigkbgecfnaa
