/-
  Part 25 of the proof that the statement FnSubgroups holds.
-/
import Derived.Test.YtkkdpknjohcekaaCFSubgroups23
namespace Go.Proofs.Ytkkdpknjohcekaa
open Go.RowKit
section
variable {P:Program} {T:Tab} {Γ:Env} {X:Ctx} {w w':World} {π:Pi} {ops:Array Oper} {hd tl:List Nat}
structure Zo (ops:Array Oper) (tl fl:List Nat) (Aj:Array Bool):Prop where
 size:Aj.size=ops.size
 done: ∀i,i∈fl->Aj.getD i false=true
 closed: ∀j oj,ops[j]?=some oj->Aj.getD j false=true-> ∀e∈oj.after,Region.binds .any e=true->Aj.getD e.on false=true
 tail: ∀t,t∈tl->Aj.getD t true=false
theorem Zo.set {fl:List Nat} {i:Nat} {Aj:Array Bool} (inv:Zo ops tl fl Aj) (hi:i∈Region.ready .any ops Aj) (Rw:i∉tl):Zo ops tl fl (Aj.setIfInBounds i true):=by
 obtain ⟨_,oi,hoi,Kf⟩:=mem_ready.1 hi
 refine ⟨by simp [inv.size],λk hk=>getD_set_true (inv.done k hk),λj oj hj hl e he hb=>?_,λt ht=>by
  have Ig:i≠t:= λe=>Rw (by rw [e];exact ht)
  rw [getD_set_ne true Ig];exact inv.tail t ht⟩
 by_cases fw:i=j
 ·subst fw
  have:oj=oi:=Bd (hj.symm.trans hoi)
  subst this
  exact getD_set_true (Kf e he hb)
 ·rw [getD_set_ne false fw] at hl
  exact getD_set_true (inv.closed j oj hj hl e he hb)
theorem KV (k:Nat) (r:List Nat) (h:(r.all λt=>(k::r).any λk=>Region.waitsFor .any ops t k)=true): ∀t,t∈r-> ∃k',(k'=k\/k'∈r)/\Region.waitsFor .any ops t k'=true:= λt ht=>by
 obtain ⟨k',h1,h2⟩:=Ep.1 (Bf.1 h t ht)
 exact ⟨k',Bc.1 h1,h2⟩
theorem JA {fl:List Nat} {Aj:Array Bool} (hs:uM ops hd tl=true) (inv:Zo ops tl fl Aj) (Uf: ∀i,i∈hd->i<ops.size):
  ∀(d i:Nat),ops.size-i=d->i∈hd->Aj.getD i true=false-> ∀t,t∈tl->t∉Region.ready .any ops Aj:=by
 cases tl with
 |nil=>intro d i _ _ _ t ht;cases ht
 |cons f r=>
  simp only [uM,Ai] at hs
  obtain ⟨kS,vO⟩:=hs
  intro d
  induction d using Nat.strongRecOn with
  |_ d ih=>
   intro i JX hi p6 t ht hr
   obtain ⟨_,ot,hot,Kf⟩:=mem_ready.1 hr
   rcases Bc.1 ht with rfl|nX
   ·have h1:=Bf.1 kS i hi
    obtain ⟨j,hj,hj2⟩:=Ep.1 h1
    simp only [Ai,Qq] at hj2
    obtain ⟨oj,hoj,e,he,hb,hon⟩:=Region.waitsFor_spec hj2.2
    rcases Bc.1 hj with rfl|hjh
    ·have:oj=ot:=Bd (hoj.symm.trans hot)
     subst this
     have h2:=Kf e he hb
     rw [hon,getD_both p6] at h2
     cases h2
    ·cases hl:Aj.getD j false with
     |true=>
      have h2:=inv.closed j oj hoj hl e he hb
      rw [hon,getD_both p6] at h2
      cases h2
     |false=>
      have hjs:j<Aj.size:=by rw [inv.size];exact Uf j hjh
      have:=Uf j hjh
      exact ih (ops.size-j) (by omega) j rfl hjh (getD_in hjs hl) t (by simp) hr
   ·obtain ⟨k',h1,h2⟩:=KV f r vO t nX
    obtain ⟨o',ho',e,he,hb,hon⟩:=Region.waitsFor_spec h2
    have:o'=ot:=Bd (ho'.symm.trans hot)
    subst this
    have h3:=Kf e he hb
    have hk:k'∈f::r:=by rcases h1 with rfl|h1<;>simp [*]
    rw [hon,getD_both (inv.tail k' hk)] at h3
    cases h3
def XW (T:Tab) (Γ:Env) (ops:Array Oper) (hd:List Nat) (L:Array Bool->St->Prop):Nat->Array Bool->St->Prop
 |0,Aj,st=>L Aj st
 |f+1,Aj,st=>
  Region.ready .any ops Aj≠ []/\ ∀i∈Region.ready .any ops Aj,i∈hd/\ ∃o v,ops[i]?=some o/\Xd T Γ ops st o=some v/\XW T Γ ops hd L f (Aj.setIfInBounds i true) (st.put o.dst v)
theorem CZ (hT:Ef P T) (Om:Kq P Γ) {Q:Exit->Act->World->Prop} {K:Act->World->Prop} {st:St} {a:Act} (h:Rel X st a w) {i:Nat} {o:Oper} {v:AV} (ho:ops[i]?=some o) (hv:Xd T Γ ops st o=some v)
  (hK: ∀a' w',Rel X (st.put o.dst v) a' w'->K a' w'):wpOp P ops Q i K a w:=by
 obtain ⟨π,h⟩:=h
 have run:Xf T Γ st o=some v->o.wp P a w K Q:= λhe=>rH (X:=X) (st':=st) (av:=v) (EM hT Om h o v he) hK
 have skip:v= .at .skip->K (a.put o.dst undef) w:= λe=>by subst e;exact hK _ _ ⟨π,h.put o.dst IJ⟩
 unfold wpOp
 simp only [ho]
 unfold Xd at hv
 split at hv
 ·rename_i hg
  rw [Ab (by simp [Region.wanted,hg])]
  exact .inl (run hv)
 ·rename_i j want hg
  split at hv
  ·rename_i b hb
   have hy:=(fg h j).1 b hb
   split at hv
   ·rename_i LN
    rw [Ab (by simp only [Region.wanted,hg,hy];simpa using LN)]
    exact .inl (run hv)
   ·rename_i LN
    rw [Ak (by simp only [Region.wanted,hg,hy];simpa using LN)]
    simp only [Aa] at hv
    exact skip hv.symm
  ·rename_i hb
   have hy:=(fg h j).2 hb
   rw [Ak (by simp [Region.wanted,hg,hy])]
   simp only [Aa] at hv
   exact skip hv.symm
  ·cases hv
theorem lT (hT:Ef P T) (Om:Kq P Γ) {g:Nat} {L:Array Bool->St->Prop} {Q:Exit->Act->World->Prop} (hL: ∀Aj st a w,L Aj st->Rel X st a w->wpAny P .any ops Q g Aj a w):
  ∀(f:Nat) (Aj:Array Bool) (st:St) (a:Act) (w:World),XW T Γ ops hd L f Aj st->Rel X st a w->wpAny P .any ops Q (f+g) Aj a w
 |0,Aj,st,a,w,h,hr=>by rw [Bn];exact hL _ _ _ _ h hr
 |f+1,Aj,st,a,w,h,hr=>by
  rw [show f+1+g=(f+g)+1 by omega]
  refine ⟨λh0=>absurd h0 h.1,λi hi=>?_⟩
  obtain ⟨_,o,v,ho,hv,bN⟩:=h.2 i hi
  exact CZ hT Om hr ho hv λa' w' h'=>lT hT Om hL f _ _ _ _ bN h'
theorem KC {fl:List Nat} {i:Nat} {oi:Oper} {v:AV} {L:Array Bool->St->Prop} (hi:ops[i]?=some oi) (hs:uM ops hd tl=true) (Uf: ∀i,i∈hd->i<ops.size) (Rw:i∈hd)
  (Kf: ∀j,j<ops.size->j∈fl\/j∈hd\/j∈tl) (FI: ∀j,j∈hd->j∉tl) (Ank: ∀Aj st,L Aj st-> ∀j∈Region.ready .any ops Aj,j∈tl):
  ∀(f:Nat) (Aj:Array Bool) (st:St),Zo ops tl fl Aj->
   (∀j oj,ops[j]?=some oj->j≠i->Aj.getD j true=false->(∀e∈oj.after,Region.binds .any e=true->e.on≠i)->oi.apart ops oj=true)->
   i∈Region.ready .any ops Aj->Xd T Γ ops st oi=some v->
   XW T Γ ops hd L f (Aj.setIfInBounds i true) (st.put oi.dst v)->XW T Γ ops hd L (f+1) Aj st:=by
 intro f
 have Apd: ∀Aj,Zo ops tl fl Aj->i∈Region.ready .any ops Aj-> ∀j,j∈Region.ready .any ops Aj->j∈hd:=by
  intro Aj inv hr j hj
  obtain ⟨p6,oj,hoj,_⟩:=mem_ready.1 hj
  rcases Kf j (Mu.1 hoj).1 with h|h|h
  ·have h1:=inv.done j h
   rw [getD_both p6] at h1;cases h1
  ·exact h
  ·exact absurd hj (JA hs inv Uf _ i rfl Rw (mem_ready.1 hr).1 j h)
 induction f with
 |zero=>
  intro Aj st inv _ hr hv Hh
  refine ⟨λh=>(by rw [h] at hr;cases hr),λj hj=>?_⟩
  have hjh:=Apd Aj inv hr j hj
  refine ⟨hjh,?_⟩
  by_cases nf:j=i
  ·subst nf;exact ⟨oi,v,hi,hv,Hh⟩
  ·exact absurd (Ank _ _ Hh j (ready_mono hj nf)) (FI j hjh)
 |succ f ih=>
  intro Aj st inv nV hr hv Hh
  have p6:=(mem_ready.1 hr).1
  refine ⟨λh=>(by rw [h] at hr;cases hr),λj hj=>?_⟩
  have hjh:=Apd Aj inv hr j hj
  refine ⟨hjh,?_⟩
  by_cases nf:j=i
  ·subst nf;exact ⟨oi,v,hi,hv,Hh⟩
  ·obtain ⟨_,oj,vj,hoj,hvj,bN⟩:=Hh.2 j (ready_mono hj nf)
   obtain ⟨Anu,oj',Au9,An6⟩:=mem_ready.1 hj
   have:oj'=oj:=Bd (Au9.symm.trans hoj)
   subst this
   have tG: ∀e∈oj'.after,Region.binds .any e=true->e.on≠i:= λe he hb heq=>by
    have h1:=An6 e he hb
    rw [heq,getD_both p6] at h1
    cases h1
   obtain ⟨p1,p2,p3⟩:=Oper.apart_spec (nV j oj' hoj nf Anu tG)
   rw [JF p1] at hvj
   refine ⟨oj',vj,hoj,hvj,?_⟩
   have Aj9: ∀k ok,ops[k]?=some ok->k≠i->(Aj.setIfInBounds j true).getD k true=false->
     (∀e∈ok.after,Region.binds .any e=true->e.on≠i)->oi.apart ops ok=true:= λk ok hk hki Ap0 hno=>by
    refine nV k ok hk hki ?_ hno
    by_cases hjk:j=k
    ·subst hjk;exact Anu
    ·rw [getD_set_ne true hjk] at Ap0;exact Ap0
   refine ih (Aj.setIfInBounds j true) (st.put oj'.dst vj) (inv.set hj (FI j hjh)) Aj9 (ready_mono hr (Gb nf)) (by rw [JF p3];exact hv) ?_
   rw [Array.setIfInBounds_comm _ _ nf,<-St.put_comm st v vj p2]
   exact bN
theorem rq: ∀(l:List Nat) (Aj:Array Bool),oI ops l Aj=true-> ∀j∈Region.ready .any ops Aj,j∈l
 | [],Aj,h,j,hj=>by simp only [oI,List.isEmpty_iff] at h;rw [h] at hj;cases hj
 |k::r,Aj,h,j,hj=>by
  simp only [oI,Ai,Jz,Qq] at h
  rcases h.1 with h1|h1
  ·rw [h1] at hj
   simp at hj
   simp [hj]
  ·by_cases e:j=k
   ·simp [e]
   ·exact Ar _ (rq r _ h.2 j (ready_mono hj e))
theorem DF {fl:List Nat} (bO:Region.noSelect ops=true) (hs:uM ops hd tl=true) (Uf: ∀i,i∈hd->i<ops.size) (Kf: ∀j,j<ops.size->j∈fl\/j∈hd\/j∈tl) (FI: ∀j,j∈hd->j∉tl) (st':St):
  ∀(l:List Nat) (Aj:Array Bool) (st:St),(∀i,i∈l->i∈hd)->Zo ops tl fl Aj->pA ops tl l Aj=true->Gc T Γ ops l st=some st'->
  XW T Γ ops hd (λzI s=>oI ops tl zI=true/\s=st') l.length Aj st
 | [],Aj,st,_,_,hB,he=>by
  simp only [Gc,Aa] at he
  exact ⟨by simpa [pA] using hB,he⟩
 |k::l,Aj,st,hl,inv,hB,he=>by
  simp only [pA,Ai] at hB
  obtain ⟨⟨hr,hf⟩,hB'⟩:=hB
  have hkh:=hl k (by simp)
  have dQ:k∈Region.ready .any ops Aj:=by simpa using hr
  simp only [Gc] at he
  split at he
  ·cases he
  ·rename_i o ho
   split at he
   ·rename_i v hv
    exact KC ho hs Uf hkh Kf FI (λzI s hL=>rq tl zI hL.1) l.length Aj st inv (Region.free_spec ho hf) dQ hv
     (DF bO hs Uf Kf FI st' l _ _ (λi hi=>hl i (by simp [hi])) (inv.set dQ (FI k hkh)) hB' he)
   ·cases he
theorem zd {Q:Exit->Act->World->Prop} (hQ: ∀e a w,Q e a w->e= .normal) {k i:Nat} {x:Operand} {o:Oper} (ho:ops[k]?=some o) (qO:o.op= .extract x i) (hg:o.guard=none) {K:Act->World->Prop} {a:Act} {w:World}
  (h:wpOp P ops Q k K a w): ∃v,Yields P ops o v a/\K (a.put o.dst v) w:=by
 unfold wpOp at h
 simp only [ho] at h
 have hw:Region.wanted o (yielded ops a.tmps)=true:=by simp [Region.wanted,hg]
 rw [Ab hw] at h
 rcases h with h|⟨_,a',w',h⟩
 ·unfold Oper.wp at h
  have hr: ∀w,(execOp a.eval o).run P w=(do pure (Next.value (<-Instr.extract (a.eval x) i))).run P w:= λw=>by unfold execOp;rw [qO]
  rw [hr] at h
  unfold Instr.extract at h hr
  split at h
  ·rename_i vs hx
   split at h
   ·rename_i v hv
    rw [hx] at hr
    simp only [hv] at hr
    exact ⟨v, .inl ⟨hw,λw=>(hr w).trans rfl⟩,h⟩
   ·exact h.elim
  ·exact h.elim
 ·cases hQ _ _ _ h
theorem dK {Q:Exit->Act->World->Prop} (hQ: ∀e a w,Q e a w->e= .normal) (bO:Region.noSelect ops=true): ∀(l:List Nat) (Aj:Array Bool) (a:Act) (w:World),oI ops l Aj=true->wpOps P ops Q l a w->wpAny P .any ops Q l.length Aj a w
 | [],Aj,a,w,hB,h=>⟨by simpa [oI] using hB,h⟩
 |k::r,Aj,a,w,hB,h=>by
  simp only [oI,Ai,Jz,Qq] at hB
  rw [wpOps_cons] at h
  rcases hB.1 with h0|⟨h1,h2,h3⟩
  ·refine ⟨λh1=>(by rw [h0] at h1;cases h1),λi hi=>?_⟩
   rw [h0] at hi
   have hik:i=k:=by simpa using hi
   subst hik
   exact wpOp_mono (λa' w' h'=>dK hQ bO r _ a' w' hB.2 h') h
  ·unfold Aad at h1
   split at h1
   ·rename_i o ho
    split at h1
    ·rename_i x i qO hg
     obtain ⟨v,hy,hk⟩:=zd hQ ho qO hg h
     exact wpAny_take ho bO h3 h2 (λc a w hq=>by cases hQ _ _ _ hq) hy (dK hQ bO r _ _ w hB.2 hk)
    ·cases h1
   ·cases h1
theorem nQ {P:Program} {o:Oper} {t:Tmp} {a:Act} (h:o.op= .move (.tmp t)) (hg:o.guard=none):Yields P ops o (a.tmps.getD t undef) a:=by
 refine .inl ⟨by simp [Region.wanted,hg],λw=>?_⟩
 unfold execOp
 rw [h]
 rfl
theorem zx {hd tl:List Nat} {i:Nat} (h:nZ ops hd tl i=true): ∃o t,ops[i]?=some o/\o.op= .move (.tmp t)/\o.guard=none:=by
 unfold nZ at h
 split at h
 ·rename_i o ho
  simp only [Ai] at h
  have h1:=h.1
  split at h1
  ·rename_i t h2 h3
   exact ⟨o,t,ho,h2,h3⟩
  ·cases h1
 ·cases h
theorem gZ {q:Bool} {hd:List Nat} {Q:Exit->Act->World->Prop} (hQ: ∀c a w,¬Q (.panic c) a w) (bO:Region.noSelect ops=true) {n:Nat} {st1:St}
  (bN: ∀Aj st a w,(∀j oj,ops[j]?=some oj->Aj.getD j false=true-> ∀e∈oj.after,Region.binds .any e=true->Aj.getD e.on false=true)->Aj.size=ops.size->pA ops tl hd Aj=true->st=st1->Rel X st a w->
   (∀j,Aj.getD j false=true↔j∈Wc q Γ ops)->wpAny P .any ops Q n Aj a w):
  ∀(l dn:List Nat) (Aj:Array Bool) (st:St) (a:Act) (w:World),(∀j,j∈Wc q Γ ops↔j∈dn\/j∈l)->(∀i,i∈l-> ∃o t,ops[i]?=some o/\o.op= .move (.tmp t)/\o.guard=none)->
   (∀j oj,ops[j]?=some oj->Aj.getD j false=true-> ∀e∈oj.after,Region.binds .any e=true->Aj.getD e.on false=true)->Aj.size=ops.size->(∀j,Aj.getD j false=true↔j∈dn)->
   nP ops tl hd l Aj=true->Gc T Γ ops l st=some st1->Rel X st a w->wpAny P .any ops Q (l.length+n) Aj a w
 | [],dn,Aj,st,a,w,hm,_,hc,Uf,hdn,hf,he,hr=>by
  simp only [Gc,Aa] at he
  rw [Di,Bn]
  exact bN Aj st a w hc Uf (by simpa [nP] using hf) he hr λj=>by rw [hdn j,hm j];simp
 |k::l,dn,Aj,st,a,w,hm,hl,hc,Uf,hdn,hf,he,hr=>by
  simp only [nP,Ai] at hf
  obtain ⟨⟨h1,h2⟩,h3⟩:=hf
  obtain ⟨o,t,ho,qO,hg⟩:=hl k (by simp)
  have w6:k∈Region.ready .any ops Aj:=by simpa using h1
  obtain ⟨_,o',ho',Kf⟩:=mem_ready.1 w6
  have ho2:o'=o:=Bd (ho'.symm.trans ho)
  subst ho2
  have hks:k<Aj.size:=by rw [Uf];exact (Mu.1 ho).1
  simp only [Gc,ho] at he
  have hv:Xd T Γ ops st o'=some (st.get t):=by simp only [Xd,hg,Xf,Fl,qO];rfl
  rw [hv] at he
  rw [Av,show l.length+1+n=(l.length+n)+1 by omega]
  refine wpAny_take ho bO h2 h1 (λc a w hq=>absurd hq (hQ c _ w)) (nQ qO hg) ?_
  obtain ⟨π,hr⟩:=hr
  refine gZ hQ bO bN l (k::dn) _ _ _ _ (λj=>by rw [hm j,Bc,Bc];exact ⟨λh=>h.elim (λh=> .inl (.inr h)) (λh=>h.elim (λh=> .inl (.inl h)) .inr),λh=>h.elim (λh=>h.elim (λh=> .inr (.inl h)) .inl) (λh=> .inr (.inr h))⟩) (λi hi=>hl i (by simp [hi])) ?_ (by simp [Uf]) (λj=>?_) h3 he ⟨π,hr.put o'.dst (hr.2.tmps t)⟩
  ·intro j oj hj hlj e hem hb
   by_cases XR:k=j
   ·subst XR
    have:oj=o':=Bd (hj.symm.trans ho)
    subst this
    exact getD_set_true (Kf e hem hb)
   ·rw [getD_set_ne false XR] at hlj
    exact getD_set_true (hc j oj hj hlj e hem hb)
  ·by_cases XR:k=j
   ·subst XR
    refine ⟨λ_=>by simp,λ_=>?_⟩
    simp [hks]
   ·rw [getD_set_ne false XR,hdn j]
    simp [Gb XR]
theorem gG {ops:Array Oper} : ∀(a b:List Nat) (st st':St),Gc T Γ ops (a++b) st=some st'-> ∃s,Gc T Γ ops a st=some s/\Gc T Γ ops b s=some st'
 | [],b,st,st',h=>⟨st,rfl,h⟩
 |i::a,b,st,st',h=>by
  simp only [Mb,Gc] at h⊢
  split at h
  ·cases h
  ·split at h
   ·exact gG a b _ st' h
   ·cases h
theorem po (hT:Ef P T) (Om:Kq P Γ) (hm:P.follows .mixedOrders=true) {Q:Exit->Act->World->Prop} {id:Nat} {draw:Bool} {st st':St} {a:Act} (h:Rel X st a w)
  (he:Rh T Γ ops draw st=some st') (hQ: ∀a' w',Rel X st' a' w'->Q .normal a' w'):(Code.region id ops draw).wp P Q a w:=by
 unfold Rh at he
 cases draw with
 |false=>
  rw [Ak (by simp)] at he
  exact wp_region_list (lf hT Om ops.toList st st' a w h he hQ)
 |true=>
  rw [Ab rfl] at he
  have go: ∀(q:Bool),cT q Γ ops=true->(match Gc T Γ ops (kr q Γ ops) st with
    |some st'=>Mq T Γ ops (Jd q Γ ops) st'
    |none=>none)=some st'->(Code.region id ops true).wp P Q a w:=by
   intro q nh he
   split at he
   ·rename_i st1 h1
    simp only [cT,Ai,aD] at nh
    obtain ⟨⟨⟨bO,hlen⟩,Aj7⟩,Aou⟩:=nh
    refine wp_mono (Q:= λe a w=>e= .normal/\Q .normal a w) ?_ λe a w h=>h.1▸h.2
    refine wp_region_any hm ?_
    have hrel:Rel X st a {w with drawn:=w.drawn+1} :=by
     obtain ⟨π,h⟩:=h
     exact ⟨π,h.quiet ⟨rfl,rfl,rfl,Aq _,λ_ _=>rfl⟩⟩
    obtain ⟨s0,h0,h1⟩:=gG _ _ _ _ h1
    have Rw: ∀i,i∈cM q Γ ops->i<ops.size:= λi hi=>Es.1 (Bm.1 hi).1
    have Uf: ∀i,i∈Wf q Γ ops->i<ops.size:= λi hi=>Rw i (Bm.1 hi).1
    have Kf: ∀j,j<ops.size->j∈Wc q Γ ops\/j∈Wf q Γ ops\/j∈Jd q Γ ops:= λj hj=>by
     by_cases ht:j∈Jd q Γ ops
     ·exact .inr (.inr ht)
     ·have hh:j∈cM q Γ ops:=Bm.2 ⟨Es.2 hj,by simpa using ht⟩
      cases hfl:nZ ops (cM q Γ ops) (Jd q Γ ops) j with
      |true=>exact .inl (Bm.2 ⟨hh,hfl⟩)
      |false=>exact .inr (.inl (Bm.2 ⟨hh,by rw [hfl];rfl⟩))
    have Ahc: ∀j,j∈cM q Γ ops->j∉Jd q Γ ops:= λj hj=>by
     have:=(Bm.1 hj).2
     simpa using this
    have FI: ∀j,j∈Wf q Γ ops->j∉Jd q Γ ops:= λj hj=>Ahc j (Bm.1 hj).1
    have Anh: ∀j,j∈Wc q Γ ops->j∉Jd q Γ ops:= λj hj=>Ahc j (Bm.1 hj).1
    have htl: ∀t,t∈Jd q Γ ops->t<ops.size:=by
     intro t ht
     unfold Jd at ht
     have: ∀(l:List Nat) (acc:List Nat),(∀i,i∈acc->i<ops.size)->(∀i,i∈l->i<ops.size)-> ∀i,i∈l.foldl (init:=acc) (λacc i=>match ops[i]? with
       |some o=>if Aam q Γ o||o.after.any (λe=>Region.binds .any e&&acc.contains e.on) then acc++ [i] else acc
       |none=>acc)->i<ops.size:=by
      intro l
      induction l with
      |nil=>intro acc h1 _ i hi;exact h1 i hi
      |cons x l ih=>
       intro acc h1 h2 i hi
       simp only [Nm] at hi
       refine ih _ ?_ (λi hi=>h2 i (by simp [hi])) i hi
       intro k hk
       split at hk
       ·split at hk
        ·rcases Az.1 hk with hk|hk
         ·exact h1 k hk
         ·simp at hk;rw [hk];exact h2 x (by simp)
        ·exact h1 k hk
       ·exact h1 k hk
     exact this (List.range ops.size) [] (by simp) (λi hi=>Es.1 hi) t ht
    rw [<-hlen]
    refine gZ (q:=q) (X:=X) (T:=T) (Γ:=Γ) (tl:=Jd q Γ ops) (hd:=Wf q Γ ops) (st1:=s0) (λc a w hq=>by cases hq.1) bO ?_ (Wc q Γ ops) [] _ st a _ (λj=>by simp)
     (λi hi=>zx (Bm.1 hi).2) (λj oj _ hl=>(by rw [hlen,getD_replicate_false] at hl;cases hl)) (by simp [hlen]) (λj=>by rw [hlen,getD_replicate_false];simp) (by rw [hlen];exact Aj7) h0 hrel
    intro Aj s a' w' hc xx Anr hs hr hfl
    subst hs
    have Av3:Zo ops (Jd q Γ ops) (Wc q Γ ops) Aj:=
     ⟨xx,λi hi=>(hfl i).2 hi,hc,λt ht=>getD_in (by rw [xx];exact htl t ht) (by
      cases hg:Aj.getD t false with
      |false=>rfl
      |true=>exact absurd ht (Anh t ((hfl t).1 hg)))⟩
    have HA:=DF (T:=T) (Γ:=Γ) bO Aou Uf Kf FI st1 (Wf q Γ ops) _ s (λi hi=>hi) Av3 Anr h1
    exact lT (X:=X) (P:=P) (Q:= λe a w=>e= .normal/\Q .normal a w) (g:=(Jd q Γ ops).length) hT Om (λAj s a' w' hL hr=>by
     obtain ⟨Auj,rfl⟩:=hL
     exact dK (λe a w h=>h.1) bO (Jd q Γ ops) Aj a' w' Auj (l8 hT Om _ _ st' a' w' hr he λa w h=>⟨rfl,hQ a w h⟩)) _ _ _ _ _ HA hr
   ·cases he
  split at he
  ·rename_i nh;exact go false nh he
  ·split at he
   ·rename_i nh;exact go true nh he
   ·cases he
theorem dy (q:Bool): ∀(l:List Nat) (Aj:Array Bool),(Ja q ops l Aj).length<=l.length
 | [],_=>Aq _
 |i::r,Aj=>by
  simp only [Ja]
  split
  ·simp only [Av];have:=dy q r (Aj.setIfInBounds i true);omega
  ·simp only [Av];have:=dy q r Aj;omega
theorem HZ (hT:Ef P T) {st:St} {a:Act} (h:Bl X π st a w) {i:Nat} {o:Oper} (ho:ops[i]?=some o) (hp:ky ops i=true) {v:AV} (hv:Xd T Γ ops st o=some v):
  ∃u,Yields P ops o u a/\Bq X w π st.heap v u:=by
 unfold ky at hp
 rw [ho] at hp
 simp only at hp
 obtain ⟨dst,op,ty,pos,af,gd⟩:=o
 split at hp
 ·rename_i t h3 h4
  simp only at h3 h4;subst h3;subst h4
  refine ⟨a.tmps.getD t undef,nQ rfl rfl,?_⟩
  simp only [Xd,Xf,Fl,Aa] at hv
  subst hv
  exact h.2.tmps t
 ·rename_i x h3 h4
  simp only at h3 h4;subst h3;subst h4
  have e:=Ea h.2 x
  have fin:(∃ad,a.eval x= .pointer (some ad))->Yields P ops ⟨dst, .nilCheck x,ty,pos,af,none⟩ (a.eval x) a:= λ⟨ad,hx⟩=>
   .inl ⟨by simp [Region.wanted],λw=>by simp [execOp,hx]⟩
  simp only [Xd,Xf,Fl] at hv
  split at hv
  ·rename_i fr τ y hx
   simp only [Aa] at hv;subst hv
   rw [hx] at e
   have e':=e
   obtain ⟨cs,hc,hv⟩:=e
   simp only [Cells] at hc
   obtain ⟨g,o,rfl,_⟩:=hc
   simp only [Ce,Ty.Ap,Df,Rb,iA] at hv
   exact ⟨_,fin ⟨_,hv⟩,e'⟩
  ·rename_i fr τ y hx
   simp only [Aa] at hv;subst hv
   rw [hx] at e
   obtain ⟨cs,hc,hv⟩:=e
   simp only [Cells] at hc
   rcases hc with ⟨h0,_⟩|⟨y',g,o,h0,rfl,hr⟩
   ·cases h0
   simp only [Aa] at h0;subst h0
   simp only [Ce,Ty.Ap,Df,Rb,iA] at hv
   exact ⟨_,fin ⟨_,hv⟩,[_],⟨g,o,rfl,hr⟩,by rw [hv];simp [Ce,Ty.Ap]⟩
  ·rename_i l i hx
   simp only [Aa] at hv;subst hv
   rw [hx] at e
   have e':=e
   obtain ⟨r,tid,vs,_,_,hv⟩:=e
   exact ⟨_,fin ⟨_,hv⟩,e'⟩
  ·rename_i l i hx
   simp only [Aa] at hv;subst hv
   rw [hx] at e
   have e':=e
   obtain ⟨r,b,sz,n,_,_,_,_,hv⟩:=e
   exact ⟨_,fin ⟨_,hv⟩,e'⟩
  ·cases hv
 ·rename_i s x f h3 h4
  simp only at h3 h4;subst h3;subst h4
  simp only [Xd,Xf,Fl] at hv
  obtain ⟨u,h1,h2⟩:=cE hT (st:=st) _ _ _ _ v (Ea h.2 x) hv
  refine ⟨u, .inl ⟨by simp [Region.wanted],λw=>?_⟩,h2⟩
  have:=h1 w
  simp only [execOp,Sem.run_bind]
  first
   |(rw [this];rfl)
   |simp [this]
 ·cases hp
theorem AK {i:Nat} (h:zy ops i=true):ky ops i=true:=by
 unfold zy at h
 unfold ky
 split at h
 ·rename_i o ho
  split at h
  ·rename_i h1 h2
   simp only [h1,h2]
  ·cases h
 ·cases h
theorem ck (hT:Ef P T) (q:Bool) {Q:Exit->Act->World->Prop} (hQ: ∀c a w,¬Q (.panic c) a w) (bO:Region.noSelect ops=true) {n:Nat} {st1:St} :
  ∀(l:List Nat) (Aj:Array Bool) (st:St) (a:Act) (w:World),Gc T Γ ops (Ja q ops l Aj) st=some st1->Rel X st a w->
   (∀a w,Rel X st1 a w->wpAny P .any ops Q n (Eo (Ja q ops l Aj) Aj) a w)->wpAny P .any ops Q ((Ja q ops l Aj).length+n) Aj a w
 | [],Aj,st,a,w,he,hr,hK=>by
  simp only [Ja,Gc,Aa] at he
  subst he
  simp only [Ja,Di,Bn]
  exact hK a w hr
 |k::l,Aj,st,a,w,he,hr,hK=>by
  simp only [Ja] at he hK⊢
  split
  ·rename_i hc
   rw [Ab hc] at he hK
   simp only [Ai] at hc
   obtain ⟨h0,h1,h2⟩:=hc
   have hp:ky ops k=true:=by
    cases q with
    |true=>exact h0
    |false=>exact AK h0
   simp only [Gc] at he
   split at he
   ·cases he
   rename_i o ho
   split at he
   rotate_left
   ·cases he
   rename_i v hv
   obtain ⟨π,hr⟩:=hr
   obtain ⟨u,hy,hu⟩:=HZ (Γ:=Γ) hT hr ho hp hv
   rw [Av,show (Ja q ops l (Aj.setIfInBounds k true)).length+1+n=((Ja q ops l (Aj.setIfInBounds k true)).length+n)+1 by omega]
   refine wpAny_take ho bO h2 h1 (λc a w hq=>absurd hq (hQ c _ w)) hy ?_
   exact ck hT q hQ bO l _ _ _ _ he ⟨π,hr.put o.dst hu⟩ hK
  ·rename_i hc
   rw [Ak hc] at he hK
   exact ck hT q hQ bO l Aj st a w he hr hK
theorem lU (hT:Ef P T) (Om:Kq P Γ) {Q:Exit->Act->World->Prop} {K:St->Prop} (hK: ∀st a w,K st->Rel X st a w->Q .normal a w):
  ∀(f:Nat) (Aj:Array Bool) (st:St) (a:Act) (w:World),anyS T Γ ops K f Aj st->Rel X st a w->wpAny P .any ops Q f Aj a w
 |0,Aj,st,a,w,h,hr=>⟨h.1,hK _ _ _ h.2 hr⟩
 |f+1,Aj,st,a,w,h,hr=>by
  refine ⟨λh0=>absurd h0 h.1,λi hi=>?_⟩
  obtain ⟨o,st',ho,he,bN⟩:=h.2 i hi
  obtain ⟨π,hr⟩:=hr
  unfold wpOp
  simp only [ho]
  exact Wa hT Om hr o he λa' w' h'=>lU hT Om hK f _ _ _ _ bN h'
def Uc (ops:Array Oper) (Aj:Array Bool):Prop:= ∀k a,Aj.getD k false=true->Region.waitsFor .any ops k a=true->Aj.getD a false=true
theorem cV {Aj:Array Bool} {i a:Nat} (h:i∈Region.ready .any ops Aj) (hw:Region.waitsFor .any ops i a=true):Aj.getD a false=true:=by
 obtain ⟨_,o,ho,Kf⟩:=mem_ready.1 h
 obtain ⟨o',ho',e,he,hb,rfl⟩:=Region.waitsFor_spec hw
 rw [ho] at ho'
 cases ho'
 exact Kf e he hb
theorem Uc.set {Aj:Array Bool} (hc:Uc ops Aj) {i:Nat} (hi:i∈Region.ready .any ops Aj):Uc ops (Aj.setIfInBounds i true):= λk a hk hw=>by
 by_cases hik:i=k
 ·subst hik
  exact getD_set_true (cV hi hw)
 ·rw [getD_set_ne false hik] at hk
  exact getD_set_true (hc k a hk hw)
theorem qC:Uc ops (Array.replicate ops.size false):= λk a hk _=>by
 rw [getD_replicate_false] at hk
 cases hk
theorem aO (q:Bool): ∀(l:List Nat) (Aj:Array Bool),Uc ops Aj->Uc ops (Eo (Ja q ops l Aj) Aj)
 | [],Aj,h=>h
 |i::r,Aj,h=>by
  simp only [Ja]
  split
  ·rename_i hc
   rw [Ai,Ai] at hc
   have hi:i∈Region.ready .any ops Aj:=by simpa using hc.2.1
   exact aO q r _ (h.set hi)
  ·exact aO q r Aj h
theorem Wi: ∀(l:List Nat) (Aj:Array Bool),(Eo l Aj).size=Aj.size
 | [],_=>rfl
 |i::r,Aj=>by simp only [Eo];rw [Wi r];simp
theorem fF: ∀(l:List Nat) (Aj:Array Bool) (k:Nat),k∈l->k<Aj.size->(Eo l Aj).getD k false=true
 |i::r,Aj,k,h,hk=>by
  simp only [Eo]
  by_cases hr:k∈r
  ·exact fF r _ k hr (by simpa using hk)
  ·have:k=i:=(Bc.1 h).resolve_right hr
   subst this
   have hs: ∀(l:List Nat) (A:Array Bool),A.getD k false=true->(Eo l A).getD k false=true:=by
    intro l
    induction l with
    |nil=>exact λA h=>h
    |cons j l ih=>exact λA h=>ih _ (getD_set_true h)
   exact hs r _ (by simp [hk])
theorem dx: ∀(l:List Nat) (Aj:Array Bool) (k:Nat),k∉l->(Eo l Aj).getD k false=Aj.getD k false
 | [],_,_,_=>rfl
 |i::r,Aj,k,h=>by
  simp only [Eo]
  rw [dx r _ k λhk=>h (Ar _ hk),getD_set_ne false (λe=>h (by rw [e];simp))]
def Lw (E:List Nat) (Aj:Array Bool):List Nat:=E.filter λr=>!Aj.getD r false
def dp (ops:Array Oper) (r:Nat):Option Tmp:=(ops[r]?).bind (·.dst)
def l7 (ops:Array Oper) (Q:List Nat):List Nat:=Q.filterMap (dp ops)
def Ro (ops:Array Oper):List Nat->St->St
 | [],st=>st
 |r::Q,st=>(Ro ops Q st).put (dp ops r) .undef
def SV (ops:Array Oper):List Nat->Act->Act->Prop
 | [],a,a'=>a'=a
 |r::Q,a,a'=> ∃u,SV ops Q (a.put (dp ops r) u) a'
theorem Acw {H:List (Nat×OB)} {v:Value} :Bq X w π H .undef v:=trivial
theorem j5 (s:St) (d:Option Tmp) (v:AV) (t:Nat):(d=some t->(s.put d v).get t=v\/(s.put d v).get t= .undef)/\(d≠some t->(s.put d v).get t=s.get t):=by
 cases d with
 |none=>exact ⟨λh=>(by cases h),λ_=>rfl⟩
 |some e=>
  have key:(s.put (some e) v).get t=if e=t/\t<s.tmps.length then v else s.get t:=Qo _ _ _ _ _
  refine ⟨λh=>?_,λh=>?_⟩
  ·cases h
   rw [key]
   by_cases hl:t<s.tmps.length
   ·rw [Ab ⟨rfl,hl⟩];exact .inl rfl
   ·rw [Ak (λh=>hl h.2)]
    exact .inr (by unfold St.get;rw [Al,Ee (by omega)];rfl)
  ·rw [key,Ak]
   rintro ⟨rfl,_⟩
   exact h rfl
theorem kC (s:St) (d:Option Tmp) (v:AV):(s.put d v).heap=s.heap:=by cases d<;>rfl
theorem oB (s:St) (d:Option Tmp) (v:AV):(s.put d v).tmps.length=s.tmps.length:=by
 cases d with
 |none=>rfl
 |some d=>exact ae _ _ _
theorem Qi: ∀(Q:List Nat) (st:St),(Ro ops Q st).heap=st.heap
 | [],_=>rfl
 |r::Q,st=>by simp only [Ro];rw [kC,Qi Q]
theorem Wl: ∀(Q:List Nat) (st:St),(Ro ops Q st).tmps.length=st.tmps.length
 | [],_=>rfl
 |r::Q,st=>by simp only [Ro];rw [oB,Wl Q]
theorem Lj {Q:List Nat} {t:Nat} :t∈l7 ops Q↔ ∃r∈Q,dp ops r=some t:=List.mem_filterMap
theorem Rp: ∀(Q:List Nat) (st:St) (t:Nat),(t∈l7 ops Q->(Ro ops Q st).get t= .undef)/\(t∉l7 ops Q->(Ro ops Q st).get t=st.get t)
 | [],st,t=>⟨λh=>by simp [l7] at h,λ_=>rfl⟩
 |r::Q,st,t=>by
  obtain ⟨h1,h2⟩:=Rp Q st t
  obtain ⟨g1,g2⟩:=j5 (Ro ops Q st) (dp ops r) .undef t
  simp only [Ro]
  by_cases hd:dp ops r=some t
  ·refine ⟨λ_=>(g1 hd).elim id id,λh=>absurd (Lj.2 ⟨r,Lr ..,hd⟩) h⟩
  ·refine ⟨λh=>?_,λh=>?_⟩
   ·rw [g2 hd]
    obtain ⟨q,hq,he⟩:=Lj.1 h
    rcases Bc.1 hq with rfl|hq
    ·exact absurd he hd
    ·exact h1 (Lj.2 ⟨q,hq,he⟩)
   ·rw [g2 hd]
    exact h2 λhm=>by
     obtain ⟨q,hq,he⟩:=Lj.1 hm
     exact h (Lj.2 ⟨q,Ar _ hq,he⟩)
theorem uz {st s:St} {a:Act} (h:Bl X π st a w) (hh:s.heap=st.heap) (hl:s.tmps.length=st.tmps.length) (hg: ∀t,s.get t=st.get t\/s.get t= .undef):Bl X π s a w:=by
 refine ⟨by rw [hh];exact h.1,⟨by rw [hl];exact h.2.size,h.2.defers,λt=>?_⟩⟩
 rw [hh]
 rcases hg t with e|e
 ·rw [e];exact h.2.tmps t
 ·rw [e];exact Acw
theorem JE {st s:St} {o:Oper} (hh:s.heap=st.heap) (hg: ∀t,t∈o.looksAt ops->s.get t=st.get t):Xd T Γ ops s o=Xd T Γ ops st o:=by
 obtain ⟨ts,H⟩:=s
 obtain ⟨ts',H'⟩:=st
 simp only at hh
 subst hh
 exact yE hg
theorem ri (hT:Ef P T) (Om:Kq P Γ) {st:St} {a:Act} (h:Bl X π st a w) {i:Nat} {o:Oper} (ho:ops[i]?=some o) (hp:kz ops i=true) {v:AV} (hv:Xd T Γ ops st o=some v):
  ∃u,(∀(Q:Exit->Act->World->Prop) (K:Act->World->Prop),K (a.put o.dst u) w->wpOp P ops Q i K a w)/\Bq X w π st.heap v u:=by
 unfold kz at hp
 rw [ho] at hp
 simp only at hp
 have hgd:o.guard=none:=by
  obtain ⟨dst,op,ty,pos,af,gd⟩:=o
  cases gd with
  |none=>rfl
  |some g=>split at hp<;>first|rfl|(rename_i h4;cases h4)|cases hp
 have hb:Xf T Γ st o=some v:=by
  unfold Xd at hv
  rw [hgd] at hv
  exact hv
 have hw:Region.wanted o (yielded ops a.tmps)=true:=by simp [Region.wanted,hgd]
 have fin: ∀s:Sem Value,execOp a.eval o=(do pure (.value (<-s)))->Fl T Γ st o=some v-> ∃u,(∀(Q:Exit->Act->World->Prop) (K:Act->World->Prop),K (a.put o.dst u) w->wpOp P ops Q i K a w)/\Bq X w π st.heap v u:=by
  intro s he hq
  have hg:=iT hT Om h o v hq
  rw [he,Sem.run_bind] at hg
  cases hr:s.run P w with
  |ok u w'=>
   rw [hr] at hg
   obtain ⟨e,hu⟩:=(show w'=w/\Bq X w π st.heap v u from hg)
   subst e
   refine ⟨u,λQ K hK=>?_,hu⟩
   unfold wpOp
   simp only [ho]
   rw [Ab hw]
   refine .inl ?_
   unfold Oper.wp
   rw [he,Sem.run_bind,hr]
   exact hK
  |halt x w'=>rw [hr] at hg;exact hg.elim
 obtain ⟨dst,op,ty,pos,af,gd⟩:=o
 simp only at hgd
 subst hgd
 split at hp
 ·rename_i x h3 h4
  simp only at h3;subst h3
  exact fin (pure (a.eval x)) (by simp [execOp]) hb
 ·rename_i x h3 h4
  simp only at h3;subst h3
  exact fin _ rfl hb
 ·rename_i x h3 h4
  simp only at h3;subst h3
  exact fin _ rfl hb
 ·rename_i x h3 h4
  simp only at h3;subst h3
  exact fin _ rfl hb
 ·cases hp
theorem XH {j:Nat} {oi oj:Oper} {v:Value} (hj:ops[j]?=some oj) (hap:oi.apart ops oj=true) (hsj: ∀cs b,oj.op≠ .select cs b)
  {Q:Exit->Act->World->Prop} (hQ: ∀c a w,¬Q (.panic c) a w) {K:Act->World->Prop} {a:Act} {w:World} (h:wpOp P ops Q j K (a.put oi.dst v) w):
  wpOp P ops Q j (λa' w'=>K (a'.put oi.dst v) w') a w:=by
 obtain ⟨h1,h2,h3⟩:=Oper.apart_spec hap
 unfold wpOp at*
 simp only [hj] at*
 rw [wanted_put oj a oi.dst v h1] at h
 split
 ·rename_i hw
  simp only [hw,Ny] at h
  rcases h with h|⟨Ah7,Anz⟩
  case inr=>exact .inr ⟨by unfold Oper.asks at*;rw [execOp_put oj hsj a oi.dst v h1] at Ah7;exact Ah7,Anz⟩
  refine .inl ?_
  unfold Oper.wp at*
  rw [execOp_put oj hsj a oi.dst v h1] at h
  generalize (execOp a.eval oj).run P w=r at*
  cases r with
  |ok n w'=>
   cases n<;>simp only [Oper.upon] at h⊢
   case value u=>rw [<-Act.put_comm a v u h2];exact h
   case skip=>rw [<-Act.put_comm a v undef h2];exact h
   case defer d=>
    rw [<-Act.put_comm _ v undef h2,<-Act.put_defers]
    exact h
   case enter f args=>
    refine Calls.mono h λe rE he=>?_
    cases e with
    |returned u=>show K ((a.put oj.dst u).put oi.dst v) rE;rw [<-Act.put_comm a v u h2];exact he
    |panicked c=>exact absurd he (hQ _ _ _)
    |outgrown=>exact he
   case row row args=>exact Rows.mono h λu rE he=>by rw [<-Act.put_comm a v u h2];exact he
  |halt x w'=>
   cases x<;>simp only [Oper.upon] at h⊢
   case panic u=>exact absurd h (hQ _ _ _)
 ·rename_i hw
  simp only [hw] at h
  rw [<-Act.put_comm a v undef h2];exact h
theorem yd: ∀ {Q:List Nat} {a a':Act},SV ops Q a a'->a'.defers=a.defers/\a'.tmps.size=a.tmps.size/\ ∀t,t∉l7 ops Q->a'.tmps.getD t undef=a.tmps.getD t undef
 | [],a,a',h=>by cases h;exact ⟨rfl,rfl,λ_ _=>rfl⟩
 |r::Q,a,a',⟨u,h⟩=>by
  obtain ⟨h1,h2,h3⟩:=yd h
  have hp:(a.put (dp ops r) u).defers=a.defers/\(a.put (dp ops r) u).tmps.size=a.tmps.size:=by cases dp ops r<;>simp [Act.put]
  refine ⟨h1.trans hp.1,h2.trans hp.2,λt ht=>?_⟩
  have hn:dp ops r≠some t:= λe=>ht (Lj.2 ⟨r,Lr ..,e⟩)
  rw [h3 t λhm=>ht (by obtain ⟨q,hq,he⟩:=Lj.1 hm;exact Lj.2 ⟨q,Ar _ hq,he⟩)]
  cases hd:dp ops r with
  |none=>rfl
  |some d=>
   have Ig:d≠t:= λe=>hn (by rw [hd,e])
   simp [Act.put,Array.getElem?_setIfInBounds_ne Ig]
theorem Abq {Q:List Nat} {st:St} {a a':Act} (hp:SV ops Q a a') (h:Bl X π st a' w):Bl X π (Ro ops Q st) a w:=by
 obtain ⟨h1,h2,h3⟩:=yd hp
 refine ⟨by rw [Qi];exact h.1,⟨by rw [Wl,<-h2];exact h.2.size,by rw [<-h1];exact h.2.defers,λt=>?_⟩⟩
 rw [Qi]
 by_cases ht:t∈l7 ops Q
 ·rw [(Rp Q st t).1 ht];exact Acw
 ·rw [(Rp Q st t).2 ht,<-h3 t ht];exact h.2.tmps t
theorem yH {j:Nat} {oj:Oper} (hj:ops[j]?=some oj) (hsj: ∀cs b,oj.op≠ .select cs b) {Q:Exit->Act->World->Prop} (hQ: ∀c a w,¬Q (.panic c) a w) {K:Act->World->Prop} :
  ∀(L:List Nat) (a a':Act) (w:World),(∀r∈L,∃o,ops[r]?=some o/\o.apart ops oj=true)->SV ops L a a'->wpOp P ops Q j K a' w->wpOp P ops Q j (λa2 w2=> ∃a3,SV ops L a2 a3/\K a3 w2) a w
 | [],a,a',w,_,hp,h=>by cases hp;exact wpOp_mono (λa2 w2 hk=>⟨a2,rfl,hk⟩) h
 |r::L,a,a',w,hap,⟨u,hp⟩,h=>by
  obtain ⟨o,ho,ha⟩:=hap r (Lr ..)
  have hd:dp ops r=o.dst:=by unfold dp;rw [ho];rfl
  rw [hd] at hp
  have ih:=yH hj hsj hQ L _ a' w (λq hq=>hap q (Ar _ hq)) hp h
  exact wpOp_mono (λa2 w2 ⟨a3,h1,h2⟩=>⟨a3,⟨u,by rw [hd];exact h1⟩,h2⟩) (XH hj ha hsj hQ ih)
def KE (ops:Array Oper):List Nat->Prop
 | []=>True
 |r::L=>(∀q∈r::L,∀o d,ops[r]?=some o->dp ops q=some d->d∉o.looksAt ops)/\(∀q∈L,∀d,dp ops r=some d->dp ops q≠some d)/\KE ops L
def x7 (ops:Array Oper):List Nat->Prop
 | []=>True
 |r::L=>(∀q∈L,Region.waitsFor .any ops q r=true\/ ∀o d,ops[q]?=some o->dp ops r=some d->d∉o.looksAt ops)/\x7 ops L
theorem KE.filter {p:Nat->Bool} : ∀ {L:List Nat},KE ops L->KE ops (L.filter p)
 | [],_=>trivial
 |r::L,⟨h1,h2,h3⟩=>by
  rw [List.filter_cons]
  split
  ·exact ⟨λq hq=>h1 q (by rcases Bc.1 hq with rfl|hq;exact Lr ..;exact Ar _ (Bm.1 hq).1),λq hq=>h2 q (Bm.1 hq).1,h3.filter⟩
  ·exact h3.filter
theorem x7.filter {p:Nat->Bool} : ∀ {L:List Nat},x7 ops L->x7 ops (L.filter p)
 | [],_=>trivial
 |r::L,⟨h1,h3⟩=>by
  rw [List.filter_cons]
  split
  ·exact ⟨λq hq=>h1 q (Bm.1 hq).1,h3.filter⟩
  ·exact h3.filter
theorem ah {i j:Nat} {p:Oper->Oper->Bool} (h:qo ops i j p=true): ∃x y,ops[i]?=some x/\ops[j]?=some y/\p x y=true:=by
 unfold qo at h
 split at h
 ·rename_i x y h1 h2;exact ⟨x,y,h1,h2,h⟩
 ·cases h
theorem gq {x y:Oper} (h:oQ ops x y=true): ∀d,x.dst=some d->d∉y.looksAt ops:= λd hd=>by
 unfold oQ at h
 rw [hd] at h
 simpa using h
theorem EL {x y:Oper} (h:LF x y=true): ∀d,x.dst=some d->y.dst≠some d:= λd hd=>by
 unfold LF at h
 rw [hd] at h
 simpa using h
theorem cD {r:Nat} {o:Oper} (h:ops[r]?=some o):dp ops r=o.dst:=by unfold dp;rw [h];rfl
theorem r8: ∀ {E:List Nat},AH ops E=true->KE ops E/\x7 ops E
 | [],_=>⟨trivial,trivial⟩
 |r::E,h=>by
  simp only [AH,Ai,Bf] at h
  obtain ⟨⟨h1,h2⟩,h3⟩:=h
  obtain ⟨g1,g2⟩:=r8 h3
  refine ⟨⟨λq hq o d ho hd=>?_,λq hq d hd=>?_,g1⟩,λq hq=>?_,g2⟩
  ·rcases Bc.1 hq with rfl|hq
   ·obtain ⟨x,y,hx,hy,hp⟩:=ah h1
    rw [ho] at hx hy;cases hx;cases hy
    rw [cD ho] at hd
    exact gq hp d hd
   ·obtain ⟨x,y,hx,hy,hp⟩:=ah (h2 q hq).1
    rw [ho] at hx;cases hx
    rw [cD hy] at hd
    exact gq (Ct.1 hp).2 d hd
  ·obtain ⟨x,y,hx,hy,hp⟩:=ah (h2 q hq).1
   rw [cD hx] at hd
   rw [cD hy]
   exact EL (Ct.1 hp).1 d hd
  ·have h4:=(h2 q hq).2
   rw [Jz] at h4
   rcases h4 with h4|h4
   ·exact .inl h4
   ·refine .inr λo d ho hd=>?_
    obtain ⟨x,y,hx,hy,hp⟩:=ah h4
    rw [ho] at hy;cases hy
    rw [cD hx] at hd
    exact gq hp d hd
theorem Agx (hT:Ef P T) (Om:Kq P Γ) {st:St} : ∀(L:List Nat) (a:Act),(∀r∈L,kz ops r=true/\ ∃o v,ops[r]?=some o/\Xd T Γ ops st o=some v/\ ∀d,o.dst=some d->st.get d=v)->KE ops L->
  Bl X π (Ro ops L st) a w-> ∃a',SV ops L a a'/\Bl X π st a' w
 | [],a,_,_,h=>⟨a,rfl,h⟩
 |r::L,a,hs,⟨f1,f2,f3⟩,h=>by
  obtain ⟨hr,o,v,ho,hv,hd⟩:=hs r (Lr ..)
  have hdo:=cD ho
  have tJ:Xd T Γ ops (Ro ops (r::L) st) o=some v:=by
   rw [JE (st:=st) (Qi _ _) λt ht=>(Rp _ _ _).2 λhm=>by
    obtain ⟨q,hq,he⟩:=Lj.1 hm
    exact f1 q hq o t ho he ht]
   exact hv
  obtain ⟨u,_,hu⟩:=ri hT Om h ho hr tJ
  have h2:=h.put o.dst hu
  have h3:Bl X π (Ro ops L st) (a.put o.dst u) w:=by
   refine uz h2 ?_ ?_ λt=>?_
   ·rw [kC,Qi,Qi]
   ·rw [oB,Wl,Wl]
   ·obtain ⟨g1,g2⟩:=j5 (Ro ops (r::L) st) o.dst v t
    by_cases he:o.dst=some t
    ·have rS:t∉l7 ops L:= λhm=>by
      obtain ⟨q,hq,hqe⟩:=Lj.1 hm
      exact f2 q hq t (by rw [hdo];exact he) hqe
     rw [(Rp L st t).2 rS,hd t he]
     rcases g1 he with g|g
     ·exact .inl g.symm
     ·by_cases hl:t<st.tmps.length
      ·refine .inl ?_
       rw [he]
       show v=((Sn (Ro ops (r::L) st).tmps t v).getD t .undef)
       rw [Qo,Ab ⟨rfl,by rw [Wl];exact hl⟩]
      ·refine .inr ?_
       rw [<-hd t he]
       unfold St.get
       rw [Al,Ee (by omega)]
       rfl
    ·rw [g2 he]
     have:(Ro ops (r::L) st).get t=(Ro ops L st).get t:=(j5 (Ro ops L st) (dp ops r) .undef t).2 (by rw [hdo];exact he)
     exact .inl this.symm
  obtain ⟨a',hp,ib⟩:=Agx hT Om L _ (λq hq=>hs q (Ar _ hq)) f3 h3
  exact ⟨a',⟨u,by rw [hdo];exact hp⟩,ib⟩
theorem ZB: ∀ {L:List Nat},KE ops L->x7 ops L-> ∀ {i:Nat} {o:Oper},i∈L->ops[i]?=some o->(∀q∈L,Region.waitsFor .any ops i q=true->False)-> ∀q∈L,∀d,dp ops q=some d->d∉o.looksAt ops
 | [],_,_,i,_,hi,_,_=>by cases hi
 |r::L,⟨f1,f2,f3⟩,⟨b1,b2⟩,i,o,hi,ho,hw=> λq hq d hd=>by
  by_cases hir:i=r
  ·subst hir
   exact f1 q hq o d ho hd
  ·have dP:=(Bc.1 hi).resolve_left hir
   rcases Bc.1 hq with rfl|gJ
   ·rcases b1 i dP with h|h
    ·exact (hw q hq h).elim
    ·exact h o d ho hd
   ·exact ZB f3 b2 dP ho (λq hq=>hw q (Ar _ hq)) q gJ d hd
theorem qF {Aj:Array Bool} (Uf:Aj.size=ops.size): ∀ {E:List Nat} {L:Array Bool} {r:Nat} {Q:List Nat},jz ops E L=true->(∀j,L.getD j false=true->Aj.getD j false=true)->Lw E Aj=r::Q->r∈Region.ready .any ops Aj
 | [],_,_,_,_,_,h=>by simp [Lw] at h
 |e::E,L,r,Q,hr,hl,hp=>by
  simp only [jz,Ai,Je] at hr
  unfold Lw at hp
  rw [List.filter_cons] at hp
  by_cases he:Aj.getD e false=true
  ·rw [Ak (by rw [he];simp)] at hp
   refine qF Uf hr.2 (λj hj=>?_) hp
   by_cases hej:e=j
   ·subst hej;exact he
   ·rw [getD_set_ne false hej] at hj;exact hl j hj
  ·have he:Aj.getD e false=false:=by simpa using he
   rw [Ab (by rw [he];rfl)] at hp
   injection hp with tH RI
   subst tH
   obtain ⟨_,o,ho,Kf⟩:=mem_ready.1 hr.1
   have Jc:e<Aj.size:=by rw [Uf];exact (Mu.1 ho).1
   exact mem_ready.2 ⟨getD_in Jc he,o,ho,λx hx hb=>hl _ (Kf x hx hb)⟩
theorem eH {Aj:Array Bool} {j:Nat} (h:Aj.getD j true=false):j<Aj.size:=by
 rcases Nat.lt_or_ge j Aj.size with h'|h'
 ·exact h'
 ·simp [Array.getElem?_eq_none h'] at h
theorem x6 (hT:Ef P T) (Om:Kq P Γ) {Q:Exit->Act->World->Prop} (hQ: ∀c a w,¬Q (.panic c) a w) {K:St->Prop} (hK: ∀st a w,K st->Rel X st a w->Q .normal a w) (bO:Region.noSelect ops=true)
  {E:List Nat} {L0:Array Bool} (hE:cU ops E L0=true): ∀(n f:Nat) (Aj LA:Array Bool) (st:St) (a:Act) (w:World),n=f+(Lw E Aj).length->Aj.size=ops.size->LA.size=ops.size->
   (∀j,LA.getD j false=(Aj.getD j false||E.contains j))->Uc ops Aj->(∀j,L0.getD j false=true->Aj.getD j false=true)->rK T Γ ops E K f LA st->Rel X (Ro ops (Lw E Aj) st) a w->wpAny P .any ops Q n Aj a w:=by
 simp only [cU,Ai,Bf] at hE
 obtain ⟨⟨hre,hry⟩,hpr,hap⟩:=hE
 obtain ⟨Anm,qL⟩:=r8 hpr
 have key: ∀(n f:Nat) (Aj LA:Array Bool) (st:St) (a:Act) (w:World),n=f+(Lw E Aj).length->Aj.size=ops.size->LA.size=ops.size->
   (∀j,LA.getD j false=(Aj.getD j false||E.contains j))->Uc ops Aj->(∀j,L0.getD j false=true->Aj.getD j false=true)->rK T Γ ops E K f LA st->Rel X (Ro ops (Lw E Aj) st) a w->
   (∀j,j∈Region.ready .any ops Aj->j∉E->j∈Region.ready .any ops LA)/\(Region.ready .any ops Aj= []->Q .normal a w/\f=0/\Lw E Aj= []):=by
  intro n f Aj LA st a w hn kS vO hLA Qf hL0 j6 hrel
  have h1: ∀j,j∈Region.ready .any ops Aj->j∉E->j∈Region.ready .any ops LA:= λj hj hjE=>by
   obtain ⟨p6,o,ho,Kf⟩:=mem_ready.1 hj
   have Jc:=eH p6
   refine mem_ready.2 ⟨getD_in (by omega) ?_,o,ho,λe he hb=>by rw [hLA,Kf e he hb];rfl⟩
   rw [hLA,getD_both p6]
   simpa using hjE
  refine ⟨h1,λh0=>?_⟩
  cases XS:Lw E Aj with
  |cons r L=>
   have:=qF kS hry hL0 XS
   rw [h0] at this
   cases this
  |nil=>
   have Kf: ∀r,r∈E->Aj.getD r false=true:= λr hr=>by
    have:r∉Lw E Aj:=by rw [XS];simp
    unfold Lw at this
    rw [Bm] at this
    by_cases hl:Aj.getD r false=true
    ·exact hl
    ·exact absurd ⟨hr,by simpa using hl⟩ this
   have hb: ∀j,j∈Region.ready .any ops LA->j∈Region.ready .any ops Aj:= λj hj=>by
    obtain ⟨p6,o,ho,hw⟩:=mem_ready.1 hj
    have Jc:=eH p6
    have he: ∀k,LA.getD k false=Aj.getD k false:= λk=>by
     rw [hLA]
     by_cases hk:k∈E
     ·rw [Kf k hk];rfl
     ·rw [show E.contains k=false by simpa using hk,il]
    exact mem_ready.2 ⟨getD_in (by omega) (by rw [<-he];exact getD_both p6),o,ho,λe hx hbd=>by rw [<-he];exact hw e hx hbd⟩
   cases f with
   |zero=>
    obtain ⟨_,_,hk⟩:=j6
    rw [XS] at hrel
    exact ⟨hK _ _ _ hk hrel,rfl,rfl⟩
   |succ f=>
    obtain ⟨_,Ig,_⟩:=j6
    obtain ⟨j,hj⟩:=List.exists_mem_of_ne_nil _ Ig
    have:=hb j hj
    rw [h0] at this
    cases this
 intro n
 induction n with
 |zero=>
  intro f Aj LA st a w hn kS vO hLA Qf hL0 j6 hrel
  obtain ⟨k1,k2⟩:=key 0 f Aj LA st a w hn kS vO hLA Qf hL0 j6 hrel
  have hf:f=0:=by omega
  have hp:Lw E Aj= []:=List.length_eq_zero_iff.1 (by omega)
  subst hf
  obtain ⟨_,hr,_⟩:=j6
  have h0:Region.ready .any ops Aj= []:=List.eq_nil_iff_forall_not_mem.2 λj hj=>by
   by_cases hjE:j∈E
   ·have p6:=getD_both (mem_ready.1 hj).1
    have:j∈Lw E Aj:=Bm.2 ⟨hjE,by rw [p6];rfl⟩
    rw [hp] at this
    cases this
   ·have:=k1 j hj hjE
    rw [hr] at this
    cases this
  exact ⟨h0,(k2 h0).1⟩
 |succ n ih=>
  intro f Aj LA st a w hn kS vO hLA Qf hL0 j6 hrel
  obtain ⟨k1,k2⟩:=key (n+1) f Aj LA st a w hn kS vO hLA Qf hL0 j6 hrel
  have Rj:Ac2 T Γ ops E LA st:=by cases f<;>exact j6.1
  have ZV: ∀r∈Lw E Aj,r∈E/\Aj.getD r false=false:= λr hr=>by
   obtain ⟨h1,h2⟩:=Bm.1 hr
   exact ⟨h1,by simpa using h2⟩
  have Ai0: ∀r∈Lw E Aj,kz ops r=true/\ ∃o v,ops[r]?=some o/\Xd T Γ ops st o=some v/\ ∀d,o.dst=some d->st.get d=v:= λr hr=>by
   obtain ⟨h1,h2⟩:=ZV r hr
   refine ⟨hre r h1,(Rj r h1).resolve_left λhw=>?_⟩
   unfold sv at hw
   obtain ⟨j,_,hj⟩:=Ep.1 hw
   simp only [Ai,Ew] at hj
   obtain ⟨hj1,hj2,hj3⟩:=hj
   rw [hLA,hj1,il] at hj2
   have:=Qf j r hj2 hj3
   rw [h2] at this
   cases this
  refine ⟨λh0=>(k2 h0).1,λi hi=>?_⟩
  obtain ⟨π,hrel⟩:=hrel
  have hiw: ∀q∈Lw E Aj,Region.waitsFor .any ops i q=true->False:= λq hq hw=>by
   have:=cV hi hw
   rw [(ZV q hq).2] at this
   cases this
  obtain ⟨p6,oi,hoi,_⟩:=mem_ready.1 hi
  have Jc:=eH p6
  by_cases hiE:i∈E
  ·have XO:i∈Lw E Aj:=Bm.2 ⟨hiE,by rw [getD_both p6];rfl⟩
   obtain ⟨hrd,o,v,ho,hv,hd⟩:=Ai0 i XO
   have hnl:=ZB (Anm.filter (p:= λr=>!Aj.getD r false)) (qL.filter (p:= λr=>!Aj.getD r false)) XO ho hiw
   have tJ:Xd T Γ ops (Ro ops (Lw E Aj) st) o=some v:=by
    rw [JE (st:=st) (Qi _ _) λt ht=>(Rp _ _ _).2 λhm=>by
     obtain ⟨q,hq,he⟩:=Lj.1 hm
     exact hnl q hq t he ht]
    exact hv
   obtain ⟨u,hy,hu⟩:=ri hT Om hrel ho hrd tJ
   refine hy Q _ ?_
   have XS: ∀q,q∈Lw E (Aj.setIfInBounds i true)↔q∈Lw E Aj/\q≠i:= λq=>by
    unfold Lw
    rw [Bm,Bm]
    by_cases hqi:q=i
    ·subst hqi
     simp [Jc]
    ·rw [getD_set_ne false (Gb hqi)]
     exact ⟨λh=>⟨h,hqi⟩,λh=>h.1⟩
   have hlen:(Lw E Aj).length=(Lw E (Aj.setIfInBounds i true)).length+1:=by
    have rS: ∀(E:List Nat) (L:Array Bool),jz ops E L=true->E.Nodup/\ ∀r∈E,L.getD r true=false:=by
     intro E
     induction E with
     |nil=>exact λL _=>⟨Mv,λr hr=>by cases hr⟩
     |cons e E ihE=>
      intro L h
      simp only [jz,Ai,Je] at h
      obtain ⟨g1,g2⟩:=ihE _ h.2
      have he:=(mem_ready.1 h.1).1
      have ll:=eH he
      refine ⟨Cg.2 ⟨λhm=>?_,g1⟩,λr hr=>?_⟩
      ·have:=g2 e hm
       simp [ll] at this
      ·rcases Bc.1 hr with rfl|hr
       ·exact he
       ·have Ig:e≠r:= λe'=>by subst e';have:=g2 e hr;simp [ll] at this
        have:=g2 r hr
        rw [getD_set_ne true Ig] at this
        exact this
    have hEn:=(rS E L0 hry).1
    have Av4: ∀L:List Nat,L.Nodup->i∈L->(L.filter λr=>!Aj.getD r false).length=(L.filter λr=>!(Aj.setIfInBounds i true).getD r false).length+1:=by
     intro L
     induction L with
     |nil=>exact λ_ h=>by cases h
     |cons x L ihL=>
      intro hn hm
      obtain ⟨hx,hn⟩:=Cg.1 hn
      rw [List.filter_cons,List.filter_cons]
      by_cases hxi:x=i
      ·subst hxi
       rw [Ab (by rw [getD_both p6];rfl),Ak (by simp [Jc])]
       have:L.filter (λr=>!Aj.getD r false)=L.filter (λr=>!(Aj.setIfInBounds x true).getD r false):=List.filter_congr λq hq=>by
        rw [getD_set_ne false (λe=>hx (by rw [e];exact hq))]
       rw [Av,this]
      ·have hm:=(Bc.1 hm).resolve_left (Gb hxi)
       rw [getD_set_ne false (Gb hxi)]
       split
       ·rw [Av,Av,ihL hn hm]
       ·exact ihL hn hm
    exact Av4 E hEn hiE
   refine ih f (Aj.setIfInBounds i true) LA st _ w (by omega) (by simp [kS]) vO (λj=>?_) (Qf.set hi) (λj hj=>getD_set_true (hL0 j hj)) j6 ⟨π,?_⟩
   ·rw [hLA]
    by_cases fw:i=j
    ·subst fw
     rw [show E.contains i=true by simpa using hiE,Bool.or_true,Bool.or_true]
    ·rw [getD_set_ne false fw]
   ·have h2:=hrel.put o.dst hu
    refine uz h2 ?_ ?_ λt=>?_
    ·rw [kC,Qi,Qi]
    ·rw [oB,Wl,Wl]
    ·have hdo:=cD ho
     by_cases hm:t∈l7 ops (Lw E (Aj.setIfInBounds i true))
     ·exact .inr ((Rp _ _ _).1 hm)
     ·rw [(Rp _ _ _).2 hm]
      obtain ⟨g1,g2⟩:=j5 (Ro ops (Lw E Aj) st) o.dst v t
      by_cases he:o.dst=some t
      ·rw [hd t he]
       rcases g1 he with g|g
       ·exact .inl g.symm
       ·by_cases hl:t<st.tmps.length
        ·refine .inl ?_
         rw [he]
         show v=((Sn (Ro ops (Lw E Aj) st).tmps t v).getD t .undef)
         rw [Qo,Ab ⟨rfl,by rw [Wl];exact hl⟩]
        ·refine .inr ?_
         rw [<-hd t he]
         unfold St.get
         rw [Al,Ee (by omega)]
         rfl
      ·rw [g2 he]
       refine .inl ((Rp _ _ _).2 λhm2=>?_).symm
       obtain ⟨q,hq,hqe⟩:=Lj.1 hm2
       by_cases hqi:q=i
       ·subst hqi
        rw [hdo] at hqe
        exact he hqe
       ·exact hm (Lj.2 ⟨q,(XS q).2 ⟨hq,hqi⟩,hqe⟩)
  ·cases f with
   |zero=>
    obtain ⟨_,hr,_⟩:=j6
    have:=k1 i hi hiE
    rw [hr] at this
    cases this
   |succ f=>
    obtain ⟨_,_,Ao8⟩:=j6
    obtain ⟨o,st',ho,he,bN⟩:=Ao8 i (k1 i hi hiE)
    obtain ⟨a',ZY,RC⟩:=Agx hT Om (Lw E Aj) a Ai0 Anm.filter hrel
    have lr:wpOp P ops Q i (λa2 w2=>Rel X st' a2 w2) a' w:=by
     unfold wpOp
     simp only [ho]
     exact Wa hT Om RC o he λa2 w2 h2=>h2
    have FJ:=yH (Q:=Q) ho (λcs b=>Region.noSelect_spec bO i o cs b ho) hQ (Lw E Aj) a a' w (λr hr=>?_) ZY lr
    ·refine wpOp_mono (λa2 w2 hk=>?_) FJ
     obtain ⟨a3,hp3,π3,hr3⟩:=hk
     have XS:Lw E (Aj.setIfInBounds i true)=Lw E Aj:=by
      unfold Lw
      refine List.filter_congr λq hq=>?_
      rw [getD_set_ne false (λe=>hiE (by rw [e];exact hq))]
     refine ih f (Aj.setIfInBounds i true) (LA.setIfInBounds i true) st' a2 w2 (by rw [XS];omega) (by simp [kS]) (by simp [vO]) (λj=>?_) (Qf.set hi) (λj hj=>getD_set_true (hL0 j hj)) bN ⟨π3,by rw [XS];exact Abq hp3 hr3⟩
     by_cases fw:i=j
     ·subst fw
      simp [Jc,kS▸Jc,vO]
     ·rw [getD_set_ne false fw,getD_set_ne false fw,hLA]
    ·obtain ⟨hrE,KA⟩:=ZV r hr
     have h3:=Bf.1 (Bf.1 hap r hrE) i (Es.2 (by omega))
     simp only [Jz] at h3
     rcases h3 with ((h3|h3)|h3)|h3
     ·exact absurd (by simpa using h3) hiE
     ·have:=hL0 i h3
      rw [getD_both p6] at this
      cases this
     ·exact (hiw r hr h3).elim
     ·obtain ⟨x,y,hx,hy,hp⟩:=ah h3
      rw [ho] at hy;cases hy
      exact ⟨x,hx,hp⟩
theorem nK: ∀(E:List Nat) (s0 s1:St),Gc T Γ ops E s0=some s1->s1.heap=s0.heap/\s1.tmps.length=s0.tmps.length/\ ∀t,t∉l7 ops E->s1.get t=s0.get t
 | [],s0,s1,h=>by
  simp only [Gc,Aa] at h
  subst h
  exact ⟨rfl,rfl,λ_ _=>rfl⟩
 |r::E,s0,s1,h=>by
  simp only [Gc] at h
  split at h
  ·cases h
  rename_i o ho
  split at h
  rotate_left
  ·cases h
  rename_i v hv
  obtain ⟨h1,h2,h3⟩:=nK E _ _ h
  refine ⟨by rw [h1,kC],by rw [h2,oB],λt ht=>?_⟩
  rw [h3 t λhm=>ht (by obtain ⟨q,hq,he⟩:=Lj.1 hm;exact Lj.2 ⟨q,Ar _ hq,he⟩)]
  exact (j5 s0 o.dst v t).2 λe=>ht (Lj.2 ⟨r,Lr ..,by rw [cD ho];exact e⟩)
theorem xX: ∀ {E:List Nat} {L0:Array Bool},jz ops E L0=true-> ∀r∈E,L0.getD r true=false
 | [],_,_,_,hr=>by cases hr
 |e::E,L0,h,r,hr=>by
  simp only [jz,Ai,Je] at h
  have he:=(mem_ready.1 h.1).1
  rcases Bc.1 hr with rfl|hr
  ·exact he
  ·have h2:=xX h.2 r hr
   have Ig:e≠r:= λe'=>by subst e';simp [eH he] at h2
   rw [getD_set_ne true Ig] at h2
   exact h2
theorem x5 (hT:Ef P T) (Om:Kq P Γ) {Q:Exit->Act->World->Prop} (hQ: ∀c a w,¬Q (.panic c) a w) {K:St->Prop} (hK: ∀st a w,K st->Rel X st a w->Q .normal a w) (bO:Region.noSelect ops=true)
  {E:List Nat} {L0:Array Bool} (hE:cU ops E L0=true) {n:Nat} (hn:E.length<=n) {cp st1:St} (h1:Gc T Γ ops E cp=some st1) (h2:rK T Γ ops E K (n-E.length) (Eo E L0) st1)
  (Uf:L0.size=ops.size) (Qf:Uc ops L0) {a:Act} {w:World} (hr:Rel X cp a w):wpAny P .any ops Q n L0 a w:=by
 have hE':=hE
 simp only [cU,Ai] at hE'
 have p6:=xX hE'.1.2
 have hp:Lw E L0=E:=List.filter_eq_self.2 λr hr=>by rw [getD_both (p6 r hr)];rfl
 refine x6 hT Om hQ hK bO hE n (n-E.length) L0 (Eo E L0) st1 a w (by rw [hp];omega) Uf (by rw [Wi];exact Uf) (λj=>?_) Qf (λj hj=>hj) h2 ?_
 ·by_cases hj:j∈E
  ·rw [fF E L0 j hj (eH (p6 j hj)),show E.contains j=true by simpa using hj,Bool.or_true]
  ·rw [dx E L0 j hj,show E.contains j=false by simpa using hj,il]
 ·obtain ⟨π,hr⟩:=hr
  obtain ⟨g1,g2,g3⟩:=nK E _ _ h1
  refine ⟨π,uz hr (by rw [Qi,g1]) (by rw [Wl,g2]) λt=>?_⟩
  rw [hp]
  by_cases ht:t∈l7 ops E
  ·exact .inr ((Rp _ _ _).1 ht)
  ·exact .inl (((Rp _ _ _).2 ht).trans (g3 t ht))
theorem Xm (live:List Nat): ∀(i:Nat) (l:List AV),(Ia live i l).length=l.length
 |_,[]=>rfl
 |i,v::r=>by simp [Ia,Xm live (i+1) r]
theorem bC (live:List Nat): ∀(i:Nat) (l:List AV) (t:Nat),(Ia live i l).getD t .undef= .undef\/(Ia live i l).getD t .undef=l.getD t .undef
 |_,[],t=> .inr rfl
 |i,v::r,0=>by
  simp only [Ia,Xh]
  split
  ·exact .inr rfl
  ·exact .inl rfl
 |i,v::r,t+1=>by
  simp only [Ia,Nb]
  exact bC live (i+1) r t
theorem dr: ∀(l:List Nat) (st:St) (a:Act) (w:World),Rel X st a w->Rel X (bg l st) a w
 | [],_,_,_,h=>h
 |k::r,_,a,w,⟨_,h⟩=>dr r _ a w ⟨_,h.forget k⟩
theorem WJ (dead:List Nat) {st:St} {a:Act} {w:World} (h:Rel X st a w):Rel X (st.Qc dead) a w:=by
 obtain ⟨π,h⟩:=h
 unfold St.Qc
 refine dr _ _ a w ⟨π,h.1,⟨by simp [Xm,h.2.size],h.2.defers,λt=>?_⟩⟩
 show Bq X w π st.heap ((Ia _ 0 st.tmps).getD t .undef) _
 rcases bC ((List.range st.tmps.length).filter λt=>!dead.contains t) 0 st.tmps t with e|e
 ·rw [e];trivial
 ·rw [e];exact h.2.tmps t
theorem rj (hT:Ef P T) (Om:Kq P Γ) (hm:P.follows .mixedOrders=true) {Q:Exit->Act->World->Prop} {id:Nat} {draw:Bool} {st:St} {K:St->Prop} {a:Act} (h:Rel X st a w)
  (he:kY T Γ ops draw st K) (hQ: ∀st' a' w',K st'->Rel X st' a' w'->Q .normal a' w'):(Code.region id ops draw).wp P Q a w:=by
 rcases he with ⟨st',h1,h2⟩|⟨rfl,bO,cp,h1,h2⟩
 ·exact po hT Om hm h h1 λa' w' h'=>hQ st' a' w' h2 h'
 ·refine wp_mono (Q:= λe a w=>e= .normal/\Q .normal a w) ?_ λe a w h=>h.1▸h.2
  refine wp_region_any hm ?_
  have hrel:Rel X st a {w with drawn:=w.drawn+1} :=by
   obtain ⟨π,h⟩:=h
   exact ⟨π,h.quiet ⟨rfl,rfl,rfl,Aq _,λ_ _=>rfl⟩⟩
  have hlen:(Ki ops).length<=ops.size:=by
   have:=dy (ops:=ops) (!ki false ops) (List.range ops.size) (Array.replicate ops.size false)
   rw [Vt] at this
   exact this
  have ZU:(Array.replicate ops.size false).size=ops.size:=by simp
  have hmv:(Eo (Ki ops) (Array.replicate ops.size false)).size=ops.size:=by rw [Wi,ZU]
  have:=ck hT (!ki false ops) (X:=X) (P:=P) (T:=T) (Γ:=Γ) (Q:= λe a w=>e= .normal/\Q .normal a w) (n:=ops.size-(Ki ops).length) (st1:=cp) (λc a w hq=>by cases hq.1) bO (List.range ops.size) (Array.replicate ops.size false) st a _ h1 hrel λa' w' h'=>by
   rcases h2 with h2|⟨E,st1,hE,hEn,hE1,hE2⟩
   ·exact lU hT Om (λst' a' w' hk hr=>⟨rfl,hQ st' a' w' hk hr⟩) _ _ _ _ _ h2 h'
   ·exact x5 hT Om (λc a w hq=>by cases hq.1) (λst' a' w' hk hr=>⟨rfl,hQ st' a' w' hk hr⟩) bO hE hEn hE1 hE2 hmv (aO _ _ _ qC) h'
  have e:(Ja (!ki false ops) ops (List.range ops.size) (Array.replicate ops.size false)).length+(ops.size-(Ki ops).length)=ops.size:=by
   have e2:(Ja (!ki false ops) ops (List.range ops.size) (Array.replicate ops.size false)).length=(Ki ops).length:=rfl
   omega
  rw [e] at this
  exact this
theorem NT (hT:Ef P T) (Om:Kq P Γ) (hm:P.follows .mixedOrders=true) {Q:Exit->Act->World->Prop} {id:Nat} {draw:Bool} {st:St} {K:St->Prop} {a:Act} (h:Rel X st a w)
  (he:yK T Γ ops draw st K) (hQ: ∀st' a' w',K st'->Rel X st' a' w'->Q .normal a' w'):(Code.region id ops draw).wp P Q a w:=by
 rcases he with he|⟨dead,_,he⟩
 ·exact rj hT Om hm h he hQ
 ·exact rj hT Om hm h he λst' a' w' hk hr=>hQ _ a' w' hk (WJ dead hr)
end
end Go.Proofs.Ytkkdpknjohcekaa
