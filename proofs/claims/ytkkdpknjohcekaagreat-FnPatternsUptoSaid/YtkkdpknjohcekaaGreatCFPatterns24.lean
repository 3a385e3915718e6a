/-
  Part 25 of the proof that the statement FnPatterns holds.
-/
import Derived.Test.YtkkdpknjohcekaaGreatCFPatterns23
namespace Go.Proofs.YtkkdpknjohcekaaGreat
open Go.RowKit
section
variable {P:Program} {T:Tab} {Γ:Env} {X:Ctx} {w w':World} {π:Pi} {ops:Array Oper} {hd tl:List Nat}
structure Zq (ops:Array Oper) (tl fl:List Nat) (Ah:Array Bool):Prop where
 size:Ah.size=ops.size
 done: ∀i,i∈fl->Ah.getD i false=true
 closed: ∀j oj,ops[j]?=some oj->Ah.getD j false=true-> ∀e∈oj.after,Region.binds .any e=true->Ah.getD e.on false=true
 tail: ∀t,t∈tl->Ah.getD t true=false
theorem Zq.set {fl:List Nat} {i:Nat} {Ah:Array Bool} (inv:Zq ops tl fl Ah) (hi:i∈Region.ready .any ops Ah) (Zw:i∉tl):Zq ops tl fl (Ah.setIfInBounds i true):=by
 obtain ⟨_,oi,hoi,Ky⟩:=mem_ready.1 hi
 refine ⟨by simp [inv.size],λk hk=>getD_set_true (inv.done k hk),λj oj hj hl e he hb=>?_,λt ht=>by
  have Iz:i≠t:= λe=>Zw (by rw [e];exact ht)
  rw [getD_set_ne true Iz];exact inv.tail t ht⟩
 by_cases jZ:i=j
 ·subst jZ
  have:oj=oi:=Bd (hj.symm.trans hoi)
  subst this
  exact getD_set_true (Ky e he hb)
 ·rw [getD_set_ne false jZ] at hl
  exact getD_set_true (inv.closed j oj hj hl e he hb)
theorem KW (k:Nat) (r:List Nat) (h:(r.all λt=>(k::r).any λk=>Region.waitsFor .any ops t k)=true): ∀t,t∈r-> ∃k',(k'=k\/k'∈r)/\Region.waitsFor .any ops t k'=true:= λt ht=>by
 obtain ⟨k',h1,h2⟩:=Ey.1 (Bf.1 h t ht)
 exact ⟨k',Be.1 h1,h2⟩
theorem JC {fl:List Nat} {Ah:Array Bool} (hs:uI ops hd tl=true) (inv:Zq ops tl fl Ah) (aB: ∀i,i∈hd->i<ops.size):
  ∀(d i:Nat),ops.size-i=d->i∈hd->Ah.getD i true=false-> ∀t,t∈tl->t∉Region.ready .any ops Ah:=by
 cases tl with
 |nil=>intro d i _ _ _ t ht;cases ht
 |cons f r=>
  simp only [uI,Ag] at hs
  obtain ⟨kG,vJ⟩:=hs
  intro d
  induction d using Nat.strongRecOn with
  |_ d ih=>
   intro i KA hi oE t ht hr
   obtain ⟨_,ot,hot,Ky⟩:=mem_ready.1 hr
   rcases Be.1 ht with rfl|nB
   ·have h1:=Bf.1 kG i hi
    obtain ⟨j,hj,hj2⟩:=Ey.1 h1
    simp only [Ag,Ng] at hj2
    obtain ⟨oj,hoj,e,he,hb,hon⟩:=Region.waitsFor_spec hj2.2
    rcases Be.1 hj with rfl|hjh
    ·have:oj=ot:=Bd (hoj.symm.trans hot)
     subst this
     have h2:=Ky e he hb
     rw [hon,getD_both oE] at h2
     cases h2
    ·cases hl:Ah.getD j false with
     |true=>
      have h2:=inv.closed j oj hoj hl e he hb
      rw [hon,getD_both oE] at h2
      cases h2
     |false=>
      have hjs:j<Ah.size:=by rw [inv.size];exact aB j hjh
      have:=aB j hjh
      exact ih (ops.size-j) (by omega) j rfl hjh (getD_in hjs hl) t (by simp) hr
   ·obtain ⟨k',h1,h2⟩:=KW f r vJ t nB
    obtain ⟨o',ho',e,he,hb,hon⟩:=Region.waitsFor_spec h2
    have:o'=ot:=Bd (ho'.symm.trans hot)
    subst this
    have h3:=Ky e he hb
    have hk:k'∈f::r:=by rcases h1 with rfl|h1<;>simp [*]
    rw [hon,getD_both (inv.tail k' hk)] at h3
    cases h3
def YH (T:Tab) (Γ:Env) (ops:Array Oper) (hd:List Nat) (L:Array Bool->St->Prop):Nat->Array Bool->St->Prop
 |0,Ah,st=>L Ah st
 |f+1,Ah,st=>
  Region.ready .any ops Ah≠ []/\ ∀i∈Region.ready .any ops Ah,i∈hd/\ ∃o v,ops[i]?=some o/\Xl T Γ ops st o=some v/\YH T Γ ops hd L f (Ah.setIfInBounds i true) (st.put o.dst v)
theorem DA (hT:Eb P T) (Ot:Kv P Γ) {Q:Exit->Act->World->Prop} {K:Act->World->Prop} {st:St} {a:Act} (h:Rel X st a w) {i:Nat} {o:Oper} {v:AV} (ho:ops[i]?=some o) (hv:Xl T Γ ops st o=some v)
  (hK: ∀a' w',Rel X (st.put o.dst v) a' w'->K a' w'):wpOp P ops Q i K a w:=by
 obtain ⟨π,h⟩:=h
 have run:Xn T Γ st o=some v->o.wp P a w K Q:= λhe=>qY (X:=X) (st':=st) (av:=v) (EN hT Ot h o v he) hK
 have skip:v= .at .skip->K (a.put o.dst undef) w:= λe=>by subst e;exact hK _ _ ⟨π,h.put o.dst II⟩
 unfold wpOp
 simp only [ho]
 unfold Xl at hv
 split at hv
 ·rename_i hg
  rw [Ab (by simp [Region.wanted,hg])]
  exact .inl (run hv)
 ·rename_i j want hg
  split at hv
  ·rename_i b hb
   have hy:=(fc h j).1 b hb
   split at hv
   ·rename_i LO
    rw [Ab (by simp only [Region.wanted,hg,hy];simpa using LO)]
    exact .inl (run hv)
   ·rename_i LO
    rw [Ak (by simp only [Region.wanted,hg,hy];simpa using LO)]
    simp only [Aa] at hv
    exact skip hv.symm
  ·rename_i hb
   have hy:=(fc h j).2 hb
   rw [Ak (by simp [Region.wanted,hg,hy])]
   simp only [Aa] at hv
   exact skip hv.symm
  ·cases hv
theorem lD (hT:Eb P T) (Ot:Kv P Γ) {g:Nat} {L:Array Bool->St->Prop} {Q:Exit->Act->World->Prop} (hL: ∀Ah st a w,L Ah st->Rel X st a w->wpAny P .any ops Q g Ah a w):
  ∀(f:Nat) (Ah:Array Bool) (st:St) (a:Act) (w:World),YH T Γ ops hd L f Ah st->Rel X st a w->wpAny P .any ops Q (f+g) Ah a w
 |0,Ah,st,a,w,h,hr=>by rw [Bo];exact hL _ _ _ _ h hr
 |f+1,Ah,st,a,w,h,hr=>by
  rw [show f+1+g=(f+g)+1 by omega]
  refine ⟨λh0=>absurd h0 h.1,λi hi=>?_⟩
  obtain ⟨_,o,v,ho,hv,gC⟩:=h.2 i hi
  exact DA hT Ot hr ho hv λa' w' h'=>lD hT Ot hL f _ _ _ _ gC h'
theorem KG {fl:List Nat} {i:Nat} {oi:Oper} {v:AV} {L:Array Bool->St->Prop} (hi:ops[i]?=some oi) (hs:uI ops hd tl=true) (aB: ∀i,i∈hd->i<ops.size) (Zw:i∈hd)
  (Ky: ∀j,j<ops.size->j∈fl\/j∈hd\/j∈tl) (FI: ∀j,j∈hd->j∉tl) (Amf: ∀Ah st,L Ah st-> ∀j∈Region.ready .any ops Ah,j∈tl):
  ∀(f:Nat) (Ah:Array Bool) (st:St),Zq ops tl fl Ah->
   (∀j oj,ops[j]?=some oj->j≠i->Ah.getD j true=false->(∀e∈oj.after,Region.binds .any e=true->e.on≠i)->oi.apart ops oj=true)->
   i∈Region.ready .any ops Ah->Xl T Γ ops st oi=some v->
   YH T Γ ops hd L f (Ah.setIfInBounds i true) (st.put oi.dst v)->YH T Γ ops hd L (f+1) Ah st:=by
 intro f
 have Ao5: ∀Ah,Zq ops tl fl Ah->i∈Region.ready .any ops Ah-> ∀j,j∈Region.ready .any ops Ah->j∈hd:=by
  intro Ah inv hr j hj
  obtain ⟨oE,oj,hoj,_⟩:=mem_ready.1 hj
  rcases Ky j (Nc.1 hoj).1 with h|h|h
  ·have h1:=inv.done j h
   rw [getD_both oE] at h1;cases h1
  ·exact h
  ·exact absurd hj (JC hs inv aB _ i rfl Zw (mem_ready.1 hr).1 j h)
 induction f with
 |zero=>
  intro Ah st inv _ hr hv Hh
  refine ⟨λh=>(by rw [h] at hr;cases hr),λj hj=>?_⟩
  have hjh:=Ao5 Ah inv hr j hj
  refine ⟨hjh,?_⟩
  by_cases rR:j=i
  ·subst rR;exact ⟨oi,v,hi,hv,Hh⟩
  ·exact absurd (Amf _ _ Hh j (ready_mono hj rR)) (FI j hjh)
 |succ f ih=>
  intro Ah st inv nw hr hv Hh
  have oE:=(mem_ready.1 hr).1
  refine ⟨λh=>(by rw [h] at hr;cases hr),λj hj=>?_⟩
  have hjh:=Ao5 Ah inv hr j hj
  refine ⟨hjh,?_⟩
  by_cases rR:j=i
  ·subst rR;exact ⟨oi,v,hi,hv,Hh⟩
  ·obtain ⟨_,oj,vj,hoj,hvj,gC⟩:=Hh.2 j (ready_mono hj rR)
   obtain ⟨Amo,oj',At7,Am4⟩:=mem_ready.1 hj
   have:oj'=oj:=Bd (At7.symm.trans hoj)
   subst this
   have tq: ∀e∈oj'.after,Region.binds .any e=true->e.on≠i:= λe he hb heq=>by
    have h1:=Am4 e he hb
    rw [heq,getD_both oE] at h1
    cases h1
   obtain ⟨p1,p2,p3⟩:=Oper.apart_spec (nw j oj' hoj rR Amo tq)
   rw [JG p1] at hvj
   refine ⟨oj',vj,hoj,hvj,?_⟩
   have Ail: ∀k ok,ops[k]?=some ok->k≠i->(Ah.setIfInBounds j true).getD k true=false->
     (∀e∈ok.after,Region.binds .any e=true->e.on≠i)->oi.apart ops ok=true:= λk ok hk hki Anr hno=>by
    refine nw k ok hk hki ?_ hno
    by_cases hjk:j=k
    ·subst hjk;exact Amo
    ·rw [getD_set_ne true hjk] at Anr;exact Anr
   refine ih (Ah.setIfInBounds j true) (st.put oj'.dst vj) (inv.set hj (FI j hjh)) Ail (ready_mono hr (Gg rR)) (by rw [JG p3];exact hv) ?_
   rw [Array.setIfInBounds_comm _ _ rR,<-St.put_comm st v vj p2]
   exact gC
theorem qP: ∀(l:List Nat) (Ah:Array Bool),o5 ops l Ah=true-> ∀j∈Region.ready .any ops Ah,j∈l
 | [],Ah,h,j,hj=>by simp only [o5,List.isEmpty_iff] at h;rw [h] at hj;cases hj
 |k::r,Ah,h,j,hj=>by
  simp only [o5,Ag,Kn,Ng] at h
  rcases h.1 with h1|h1
  ·rw [h1] at hj
   simp at hj
   simp [hj]
  ·by_cases e:j=k
   ·simp [e]
   ·exact Aq _ (qP r _ h.2 j (ready_mono hj e))
theorem DH {fl:List Nat} (bQ:Region.noSelect ops=true) (hs:uI ops hd tl=true) (aB: ∀i,i∈hd->i<ops.size) (Ky: ∀j,j<ops.size->j∈fl\/j∈hd\/j∈tl) (FI: ∀j,j∈hd->j∉tl) (st':St):
  ∀(l:List Nat) (Ah:Array Bool) (st:St),(∀i,i∈l->i∈hd)->Zq ops tl fl Ah->p6 ops tl l Ah=true->Gj T Γ ops l st=some st'->
  YH T Γ ops hd (λzN s=>o5 ops tl zN=true/\s=st') l.length Ah st
 | [],Ah,st,_,_,hB,he=>by
  simp only [Gj,Aa] at he
  exact ⟨by simpa [p6] using hB,he⟩
 |k::l,Ah,st,hl,inv,hB,he=>by
  simp only [p6,Ag] at hB
  obtain ⟨⟨hr,hf⟩,hB'⟩:=hB
  have hkh:=hl k (by simp)
  have dO:k∈Region.ready .any ops Ah:=by simpa using hr
  simp only [Gj] at he
  split at he
  ·cases he
  ·rename_i o ho
   split at he
   ·rename_i v hv
    exact KG ho hs aB hkh Ky FI (λzN s hL=>qP tl zN hL.1) l.length Ah st inv (Region.free_spec ho hf) dO hv
     (DH bQ hs aB Ky FI st' l _ _ (λi hi=>hl i (by simp [hi])) (inv.set dO (FI k hkh)) hB' he)
   ·cases he
theorem zh {Q:Exit->Act->World->Prop} (hQ: ∀e a w,Q e a w->e= .normal) {k i:Nat} {x:Operand} {o:Oper} (ho:ops[k]?=some o) (rT:o.op= .extract x i) (hg:o.guard=none) {K:Act->World->Prop} {a:Act} {w:World}
  (h:wpOp P ops Q k K a w): ∃v,Yields P ops o v a/\K (a.put o.dst v) w:=by
 unfold wpOp at h
 simp only [ho] at h
 have hw:Region.wanted o (yielded ops a.tmps)=true:=by simp [Region.wanted,hg]
 rw [Ab hw] at h
 rcases h with h|⟨_,a',w',h⟩
 ·unfold Oper.wp at h
  have hr: ∀w,(execOp a.eval o).run P w=(do pure (Next.value (<-Instr.extract (a.eval x) i))).run P w:= λw=>by unfold execOp;rw [rT]
  rw [hr] at h
  unfold Instr.extract at h hr
  split at h
  ·rename_i vs hx
   split at h
   ·rename_i v hv
    rw [hx] at hr
    simp only [hv] at hr
    exact ⟨v, .inl ⟨hw,λw=>(hr w).trans rfl⟩,h⟩
   ·exact h.elim
  ·exact h.elim
 ·cases hQ _ _ _ h
theorem dK {Q:Exit->Act->World->Prop} (hQ: ∀e a w,Q e a w->e= .normal) (bQ:Region.noSelect ops=true): ∀(l:List Nat) (Ah:Array Bool) (a:Act) (w:World),o5 ops l Ah=true->wpOps P ops Q l a w->wpAny P .any ops Q l.length Ah a w
 | [],Ah,a,w,hB,h=>⟨by simpa [o5] using hB,h⟩
 |k::r,Ah,a,w,hB,h=>by
  simp only [o5,Ag,Kn,Ng] at hB
  rw [wpOps_cons] at h
  rcases hB.1 with h0|⟨h1,h2,h3⟩
  ·refine ⟨λh1=>(by rw [h0] at h1;cases h1),λi hi=>?_⟩
   rw [h0] at hi
   have hik:i=k:=by simpa using hi
   subst hik
   exact wpOp_mono (λa' w' h'=>dK hQ bQ r _ a' w' hB.2 h') h
  ·unfold Aai at h1
   split at h1
   ·rename_i o ho
    split at h1
    ·rename_i x i rT hg
     obtain ⟨v,hy,hk⟩:=zh hQ ho rT hg h
     exact wpAny_take ho bQ h3 h2 (λc a w hq=>by cases hQ _ _ _ hq) hy (dK hQ bQ r _ _ w hB.2 hk)
    ·cases h1
   ·cases h1
theorem nq {P:Program} {o:Oper} {t:Tmp} {a:Act} (h:o.op= .move (.tmp t)) (hg:o.guard=none):Yields P ops o (a.tmps.getD t undef) a:=by
 refine .inl ⟨by simp [Region.wanted,hg],λw=>?_⟩
 unfold execOp
 rw [h]
 rfl
theorem zC {hd tl:List Nat} {i:Nat} (h:nD ops hd tl i=true): ∃o t,ops[i]?=some o/\o.op= .move (.tmp t)/\o.guard=none:=by
 unfold nD at h
 split at h
 ·rename_i o ho
  simp only [Ag] at h
  have h1:=h.1
  split at h1
  ·rename_i t h2 h3
   exact ⟨o,t,ho,h2,h3⟩
  ·cases h1
 ·cases h
theorem gR {q:Bool} {hd:List Nat} {Q:Exit->Act->World->Prop} (hQ: ∀c a w,¬Q (.panic c) a w) (bQ:Region.noSelect ops=true) {n:Nat} {st1:St}
  (gC: ∀Ah st a w,(∀j oj,ops[j]?=some oj->Ah.getD j false=true-> ∀e∈oj.after,Region.binds .any e=true->Ah.getD e.on false=true)->Ah.size=ops.size->p6 ops tl hd Ah=true->st=st1->Rel X st a w->
   (∀j,Ah.getD j false=true↔j∈Wg q Γ ops)->wpAny P .any ops Q n Ah a w):
  ∀(l dn:List Nat) (Ah:Array Bool) (st:St) (a:Act) (w:World),(∀j,j∈Wg q Γ ops↔j∈dn\/j∈l)->(∀i,i∈l-> ∃o t,ops[i]?=some o/\o.op= .move (.tmp t)/\o.guard=none)->
   (∀j oj,ops[j]?=some oj->Ah.getD j false=true-> ∀e∈oj.after,Region.binds .any e=true->Ah.getD e.on false=true)->Ah.size=ops.size->(∀j,Ah.getD j false=true↔j∈dn)->
   np ops tl hd l Ah=true->Gj T Γ ops l st=some st1->Rel X st a w->wpAny P .any ops Q (l.length+n) Ah a w
 | [],dn,Ah,st,a,w,hm,_,hc,aB,hdn,hf,he,hr=>by
  simp only [Gj,Aa] at he
  rw [Fb,Bo]
  exact gC Ah st a w hc aB (by simpa [np] using hf) he hr λj=>by rw [hdn j,hm j];simp
 |k::l,dn,Ah,st,a,w,hm,hl,hc,aB,hdn,hf,he,hr=>by
  simp only [np,Ag] at hf
  obtain ⟨⟨h1,h2⟩,h3⟩:=hf
  obtain ⟨o,t,ho,rT,hg⟩:=hl k (by simp)
  have vZ:k∈Region.ready .any ops Ah:=by simpa using h1
  obtain ⟨_,o',ho',Ky⟩:=mem_ready.1 vZ
  have ho2:o'=o:=Bd (ho'.symm.trans ho)
  subst ho2
  have hks:k<Ah.size:=by rw [aB];exact (Nc.1 ho).1
  simp only [Gj,ho] at he
  have hv:Xl T Γ ops st o'=some (st.get t):=by simp only [Xl,hg,Xn,Fh,rT];rfl
  rw [hv] at he
  rw [Aw,show l.length+1+n=(l.length+n)+1 by omega]
  refine wpAny_take ho bQ h2 h1 (λc a w hq=>absurd hq (hQ c _ w)) (nq rT hg) ?_
  obtain ⟨π,hr⟩:=hr
  refine gR hQ bQ gC l (k::dn) _ _ _ _ (λj=>by rw [hm j,Be,Be];exact ⟨λh=>h.elim (λh=> .inl (.inr h)) (λh=>h.elim (λh=> .inl (.inl h)) .inr),λh=>h.elim (λh=>h.elim (λh=> .inr (.inl h)) .inl) (λh=> .inr (.inr h))⟩) (λi hi=>hl i (by simp [hi])) ?_ (by simp [aB]) (λj=>?_) h3 he ⟨π,hr.put o'.dst (hr.2.tmps t)⟩
  ·intro j oj hj hlj e hem hb
   by_cases YC:k=j
   ·subst YC
    have:oj=o':=Bd (hj.symm.trans ho)
    subst this
    exact getD_set_true (Ky e hem hb)
   ·rw [getD_set_ne false YC] at hlj
    exact getD_set_true (hc j oj hj hlj e hem hb)
  ·by_cases YC:k=j
   ·subst YC
    refine ⟨λ_=>by simp,λ_=>?_⟩
    simp [hks]
   ·rw [getD_set_ne false YC,hdn j]
    simp [Gg YC]
theorem gy {ops:Array Oper} : ∀(a b:List Nat) (st st':St),Gj T Γ ops (a++b) st=some st'-> ∃s,Gj T Γ ops a st=some s/\Gj T Γ ops b s=some st'
 | [],b,st,st',h=>⟨st,rfl,h⟩
 |i::a,b,st,st',h=>by
  simp only [Oz,Gj] at h⊢
  split at h
  ·cases h
  ·split at h
   ·exact gy a b _ st' h
   ·cases h
theorem oT (hT:Eb P T) (Ot:Kv P Γ) (hm:P.follows .mixedOrders=true) {Q:Exit->Act->World->Prop} {id:Nat} {draw:Bool} {st st':St} {a:Act} (h:Rel X st a w)
  (he:Ru T Γ ops draw st=some st') (hQ: ∀a' w',Rel X st' a' w'->Q .normal a' w'):(Code.region id ops draw).wp P Q a w:=by
 unfold Ru at he
 cases draw with
 |false=>
  rw [Ak (by simp)] at he
  exact wp_region_list (kT hT Ot ops.toList st st' a w h he hQ)
 |true=>
  rw [Ab rfl] at he
  have go: ∀(q:Bool),cU q Γ ops=true->(match Gj T Γ ops (jV q Γ ops) st with
    |some st'=>Mx T Γ ops (Jq q Γ ops) st'
    |none=>none)=some st'->(Code.region id ops true).wp P Q a w:=by
   intro q l4 he
   split at he
   ·rename_i st1 h1
    simp only [cU,Ag,Xg] at l4
    obtain ⟨⟨⟨bQ,hlen⟩,Aij⟩,Anm⟩:=l4
    refine wp_mono (Q:= λe a w=>e= .normal/\Q .normal a w) ?_ λe a w h=>h.1▸h.2
    refine wp_region_any hm ?_
    have hrel:Rel X st a {w with drawn:=w.drawn+1} :=by
     obtain ⟨π,h⟩:=h
     exact ⟨π,h.quiet ⟨rfl,rfl,rfl,Ao _,λ_ _=>rfl⟩⟩
    obtain ⟨s0,h0,h1⟩:=gy _ _ _ _ h1
    have Zw: ∀i,i∈cL q Γ ops->i<ops.size:= λi hi=>Eu.1 (Bt.1 hi).1
    have aB: ∀i,i∈Wj q Γ ops->i<ops.size:= λi hi=>Zw i (Bt.1 hi).1
    have Ky: ∀j,j<ops.size->j∈Wg q Γ ops\/j∈Wj q Γ ops\/j∈Jq q Γ ops:= λj hj=>by
     by_cases ht:j∈Jq q Γ ops
     ·exact .inr (.inr ht)
     ·have hh:j∈cL q Γ ops:=Bt.2 ⟨Eu.2 hj,by simpa using ht⟩
      cases hfl:nD ops (cL q Γ ops) (Jq q Γ ops) j with
      |true=>exact .inl (Bt.2 ⟨hh,hfl⟩)
      |false=>exact .inr (.inl (Bt.2 ⟨hh,by rw [hfl];rfl⟩))
    have Agp: ∀j,j∈cL q Γ ops->j∉Jq q Γ ops:= λj hj=>by
     have:=(Bt.1 hj).2
     simpa using this
    have FI: ∀j,j∈Wj q Γ ops->j∉Jq q Γ ops:= λj hj=>Agp j (Bt.1 hj).1
    have Amd: ∀j,j∈Wg q Γ ops->j∉Jq q Γ ops:= λj hj=>Agp j (Bt.1 hj).1
    have htl: ∀t,t∈Jq q Γ ops->t<ops.size:=by
     intro t ht
     unfold Jq at ht
     have: ∀(l:List Nat) (acc:List Nat),(∀i,i∈acc->i<ops.size)->(∀i,i∈l->i<ops.size)-> ∀i,i∈l.foldl (init:=acc) (λacc i=>match ops[i]? with
       |some o=>if Aar q Γ o||o.after.any (λe=>Region.binds .any e&&acc.contains e.on) then acc++ [i] else acc
       |none=>acc)->i<ops.size:=by
      intro l
      induction l with
      |nil=>intro acc h1 _ i hi;exact h1 i hi
      |cons x l ih=>
       intro acc h1 h2 i hi
       simp only [Qx] at hi
       refine ih _ ?_ (λi hi=>h2 i (by simp [hi])) i hi
       intro k hk
       split at hk
       ·split at hk
        ·rcases Az.1 hk with hk|hk
         ·exact h1 k hk
         ·simp at hk;rw [hk];exact h2 x (by simp)
        ·exact h1 k hk
       ·exact h1 k hk
     exact this (List.range ops.size) [] (by simp) (λi hi=>Eu.1 hi) t ht
    rw [<-hlen]
    refine gR (q:=q) (X:=X) (T:=T) (Γ:=Γ) (tl:=Jq q Γ ops) (hd:=Wj q Γ ops) (st1:=s0) (λc a w hq=>by cases hq.1) bQ ?_ (Wg q Γ ops) [] _ st a _ (λj=>by simp)
     (λi hi=>zC (Bt.1 hi).2) (λj oj _ hl=>(by rw [hlen,getD_replicate_false] at hl;cases hl)) (by simp [hlen]) (λj=>by rw [hlen,getD_replicate_false];simp) (by rw [hlen];exact Aij) h0 hrel
    intro Ah s a' w' hc rj Amn hs hr hfl
    subst hs
    have Au2:Zq ops (Jq q Γ ops) (Wg q Γ ops) Ah:=
     ⟨rj,λi hi=>(hfl i).2 hi,hc,λt ht=>getD_in (by rw [rj];exact htl t ht) (by
      cases hg:Ah.getD t false with
      |false=>rfl
      |true=>exact absurd ht (Amd t ((hfl t).1 hg)))⟩
    have HA:=DH (T:=T) (Γ:=Γ) bQ Anm aB Ky FI st1 (Wj q Γ ops) _ s (λi hi=>hi) Au2 Amn h1
    exact lD (X:=X) (P:=P) (Q:= λe a w=>e= .normal/\Q .normal a w) (g:=(Jq q Γ ops).length) hT Ot (λAh s a' w' hL hr=>by
     obtain ⟨Ath,rfl⟩:=hL
     exact dK (λe a w h=>h.1) bQ (Jq q Γ ops) Ah a' w' Ath (kP hT Ot _ _ st' a' w' hr he λa w h=>⟨rfl,hQ a w h⟩)) _ _ _ _ _ HA hr
   ·cases he
  split at he
  ·rename_i l4;exact go false l4 he
  ·split at he
   ·rename_i l4;exact go true l4 he
   ·cases he
theorem dz (q:Bool): ∀(l:List Nat) (Ah:Array Bool),(Jo q ops l Ah).length<=l.length
 | [],_=>Ao _
 |i::r,Ah=>by
  simp only [Jo]
  split
  ·simp only [Aw];have:=dz q r (Ah.setIfInBounds i true);omega
  ·simp only [Aw];have:=dz q r Ah;omega
theorem HX (hT:Eb P T) {st:St} {a:Act} (h:Bi X π st a w) {i:Nat} {o:Oper} (ho:ops[i]?=some o) (hp:ka ops i=true) {v:AV} (hv:Xl T Γ ops st o=some v):
  ∃u,Yields P ops o u a/\Bs X w π st.heap v u:=by
 unfold ka at hp
 rw [ho] at hp
 simp only at hp
 obtain ⟨dst,op,ty,pos,af,gd⟩:=o
 split at hp
 ·rename_i t h3 h4
  simp only at h3 h4;subst h3;subst h4
  refine ⟨a.tmps.getD t undef,nq rfl rfl,?_⟩
  simp only [Xl,Xn,Fh,Aa] at hv
  subst hv
  exact h.2.tmps t
 ·rename_i x h3 h4
  simp only at h3 h4;subst h3;subst h4
  have e:=Du h.2 x
  have fin:(∃ad,a.eval x= .pointer (some ad))->Yields P ops ⟨dst, .nilCheck x,ty,pos,af,none⟩ (a.eval x) a:= λ⟨ad,hx⟩=>
   .inl ⟨by simp [Region.wanted],λw=>by simp [execOp,hx]⟩
  simp only [Xl,Xn,Fh] at hv
  split at hv
  ·rename_i fr τ y hx
   simp only [Aa] at hv;subst hv
   rw [hx] at e
   have e':=e
   obtain ⟨cs,hc,hv⟩:=e
   simp only [Cells] at hc
   obtain ⟨g,o,rfl,_⟩:=hc
   simp only [Cd,Ty.Ap,Dd,Rl,ik] at hv
   exact ⟨_,fin ⟨_,hv⟩,e'⟩
  ·rename_i fr τ y hx
   simp only [Aa] at hv;subst hv
   rw [hx] at e
   obtain ⟨cs,hc,hv⟩:=e
   simp only [Cells] at hc
   rcases hc with ⟨h0,_⟩|⟨y',g,o,h0,rfl,hr⟩
   ·cases h0
   simp only [Aa] at h0;subst h0
   simp only [Cd,Ty.Ap,Dd,Rl,ik] at hv
   exact ⟨_,fin ⟨_,hv⟩,[_],⟨g,o,rfl,hr⟩,by rw [hv];simp [Cd,Ty.Ap]⟩
  ·rename_i l i hx
   simp only [Aa] at hv;subst hv
   rw [hx] at e
   have e':=e
   obtain ⟨r,tid,vs,_,_,hv⟩:=e
   exact ⟨_,fin ⟨_,hv⟩,e'⟩
  ·rename_i l i hx
   simp only [Aa] at hv;subst hv
   rw [hx] at e
   have e':=e
   obtain ⟨r,b,sz,n,_,_,_,_,hv⟩:=e
   exact ⟨_,fin ⟨_,hv⟩,e'⟩
  ·cases hv
 ·rename_i s x f h3 h4
  simp only at h3 h4;subst h3;subst h4
  simp only [Xl,Xn,Fh] at hv
  obtain ⟨u,h1,h2⟩:=cF hT (st:=st) _ _ _ _ v (Du h.2 x) hv
  refine ⟨u, .inl ⟨by simp [Region.wanted],λw=>?_⟩,h2⟩
  have:=h1 w
  simp only [execOp,Sem.run_bind]
  first
   |(rw [this];rfl)
   |simp [this]
 ·cases hp
theorem AQ {i:Nat} (h:zD ops i=true):ka ops i=true:=by
 unfold zD at h
 unfold ka
 split at h
 ·rename_i o ho
  split at h
  ·rename_i h1 h2
   simp only [h1,h2]
  ·cases h
 ·cases h
theorem cm (hT:Eb P T) (q:Bool) {Q:Exit->Act->World->Prop} (hQ: ∀c a w,¬Q (.panic c) a w) (bQ:Region.noSelect ops=true) {n:Nat} {st1:St} :
  ∀(l:List Nat) (Ah:Array Bool) (st:St) (a:Act) (w:World),Gj T Γ ops (Jo q ops l Ah) st=some st1->Rel X st a w->
   (∀a w,Rel X st1 a w->wpAny P .any ops Q n (Em (Jo q ops l Ah) Ah) a w)->wpAny P .any ops Q ((Jo q ops l Ah).length+n) Ah a w
 | [],Ah,st,a,w,he,hr,hK=>by
  simp only [Jo,Gj,Aa] at he
  subst he
  simp only [Jo,Fb,Bo]
  exact hK a w hr
 |k::l,Ah,st,a,w,he,hr,hK=>by
  simp only [Jo] at he hK⊢
  split
  ·rename_i hc
   rw [Ab hc] at he hK
   simp only [Ag] at hc
   obtain ⟨h0,h1,h2⟩:=hc
   have hp:ka ops k=true:=by
    cases q with
    |true=>exact h0
    |false=>exact AQ h0
   simp only [Gj] at he
   split at he
   ·cases he
   rename_i o ho
   split at he
   rotate_left
   ·cases he
   rename_i v hv
   obtain ⟨π,hr⟩:=hr
   obtain ⟨u,hy,hu⟩:=HX (Γ:=Γ) hT hr ho hp hv
   rw [Aw,show (Jo q ops l (Ah.setIfInBounds k true)).length+1+n=((Jo q ops l (Ah.setIfInBounds k true)).length+n)+1 by omega]
   refine wpAny_take ho bQ h2 h1 (λc a w hq=>absurd hq (hQ c _ w)) hy ?_
   exact cm hT q hQ bQ l _ _ _ _ he ⟨π,hr.put o.dst hu⟩ hK
  ·rename_i hc
   rw [Ak hc] at he hK
   exact cm hT q hQ bQ l Ah st a w he hr hK
theorem lE (hT:Eb P T) (Ot:Kv P Γ) {Q:Exit->Act->World->Prop} {K:St->Prop} (hK: ∀st a w,K st->Rel X st a w->Q .normal a w):
  ∀(f:Nat) (Ah:Array Bool) (st:St) (a:Act) (w:World),anyS T Γ ops K f Ah st->Rel X st a w->wpAny P .any ops Q f Ah a w
 |0,Ah,st,a,w,h,hr=>⟨h.1,hK _ _ _ h.2 hr⟩
 |f+1,Ah,st,a,w,h,hr=>by
  refine ⟨λh0=>absurd h0 h.1,λi hi=>?_⟩
  obtain ⟨o,st',ho,he,gC⟩:=h.2 i hi
  obtain ⟨π,hr⟩:=hr
  unfold wpOp
  simp only [ho]
  exact Wf hT Ot hr o he λa' w' h'=>lE hT Ot hK f _ _ _ _ gC h'
def Uf (ops:Array Oper) (Ah:Array Bool):Prop:= ∀k a,Ah.getD k false=true->Region.waitsFor .any ops k a=true->Ah.getD a false=true
theorem cW {Ah:Array Bool} {i a:Nat} (h:i∈Region.ready .any ops Ah) (hw:Region.waitsFor .any ops i a=true):Ah.getD a false=true:=by
 obtain ⟨_,o,ho,Ky⟩:=mem_ready.1 h
 obtain ⟨o',ho',e,he,hb,rfl⟩:=Region.waitsFor_spec hw
 rw [ho] at ho'
 cases ho'
 exact Ky e he hb
theorem Uf.set {Ah:Array Bool} (hc:Uf ops Ah) {i:Nat} (hi:i∈Region.ready .any ops Ah):Uf ops (Ah.setIfInBounds i true):= λk a hk hw=>by
 by_cases hik:i=k
 ·subst hik
  exact getD_set_true (cW hi hw)
 ·rw [getD_set_ne false hik] at hk
  exact getD_set_true (hc k a hk hw)
theorem q8:Uf ops (Array.replicate ops.size false):= λk a hk _=>by
 rw [getD_replicate_false] at hk
 cases hk
theorem aM (q:Bool): ∀(l:List Nat) (Ah:Array Bool),Uf ops Ah->Uf ops (Em (Jo q ops l Ah) Ah)
 | [],Ah,h=>h
 |i::r,Ah,h=>by
  simp only [Jo]
  split
  ·rename_i hc
   rw [Ag,Ag] at hc
   have hi:i∈Region.ready .any ops Ah:=by simpa using hc.2.1
   exact aM q r _ (h.set hi)
  ·exact aM q r Ah h
theorem Wm: ∀(l:List Nat) (Ah:Array Bool),(Em l Ah).size=Ah.size
 | [],_=>rfl
 |i::r,Ah=>by simp only [Em];rw [Wm r];simp
theorem fz: ∀(l:List Nat) (Ah:Array Bool) (k:Nat),k∈l->k<Ah.size->(Em l Ah).getD k false=true
 |i::r,Ah,k,h,hk=>by
  simp only [Em]
  by_cases hr:k∈r
  ·exact fz r _ k hr (by simpa using hk)
  ·have:k=i:=(Be.1 h).resolve_right hr
   subst this
   have hs: ∀(l:List Nat) (A:Array Bool),A.getD k false=true->(Em l A).getD k false=true:=by
    intro l
    induction l with
    |nil=>exact λA h=>h
    |cons j l ih=>exact λA h=>ih _ (getD_set_true h)
   exact hs r _ (by simp [hk])
theorem dx: ∀(l:List Nat) (Ah:Array Bool) (k:Nat),k∉l->(Em l Ah).getD k false=Ah.getD k false
 | [],_,_,_=>rfl
 |i::r,Ah,k,h=>by
  simp only [Em]
  rw [dx r _ k λhk=>h (Aq _ hk),getD_set_ne false (λe=>h (by rw [e];simp))]
def Mg (E:List Nat) (Ah:Array Bool):List Nat:=E.filter λr=>!Ah.getD r false
def dr (ops:Array Oper) (r:Nat):Option Tmp:=(ops[r]?).bind (·.dst)
def kO (ops:Array Oper) (Q:List Nat):List Nat:=Q.filterMap (dr ops)
def Rw (ops:Array Oper):List Nat->St->St
 | [],st=>st
 |r::Q,st=>(Rw ops Q st).put (dr ops r) .undef
def TA (ops:Array Oper):List Nat->Act->Act->Prop
 | [],a,a'=>a'=a
 |r::Q,a,a'=> ∃u,TA ops Q (a.put (dr ops r) u) a'
theorem Acv {H:List (Nat×OB)} {v:Value} :Bs X w π H .undef v:=trivial
theorem iU (s:St) (d:Option Tmp) (v:AV) (t:Nat):(d=some t->(s.put d v).get t=v\/(s.put d v).get t= .undef)/\(d≠some t->(s.put d v).get t=s.get t):=by
 cases d with
 |none=>exact ⟨λh=>(by cases h),λ_=>rfl⟩
 |some e=>
  have key:(s.put (some e) v).get t=if e=t/\t<s.tmps.length then v else s.get t:=Qu _ _ _ _ _
  refine ⟨λh=>?_,λh=>?_⟩
  ·cases h
   rw [key]
   by_cases hl:t<s.tmps.length
   ·rw [Ab ⟨rfl,hl⟩];exact .inl rfl
   ·rw [Ak (λh=>hl h.2)]
    exact .inr (by unfold St.get;rw [Ai,Dz (by omega)];rfl)
  ·rw [key,Ak]
   rintro ⟨rfl,_⟩
   exact h rfl
theorem kh (s:St) (d:Option Tmp) (v:AV):(s.put d v).heap=s.heap:=by cases d<;>rfl
theorem nX (s:St) (d:Option Tmp) (v:AV):(s.put d v).tmps.length=s.tmps.length:=by
 cases d with
 |none=>rfl
 |some d=>exact aa _ _ _
theorem Qq: ∀(Q:List Nat) (st:St),(Rw ops Q st).heap=st.heap
 | [],_=>rfl
 |r::Q,st=>by simp only [Rw];rw [kh,Qq Q]
theorem Wo: ∀(Q:List Nat) (st:St),(Rw ops Q st).tmps.length=st.tmps.length
 | [],_=>rfl
 |r::Q,st=>by simp only [Rw];rw [nX,Wo Q]
theorem Ls {Q:List Nat} {t:Nat} :t∈kO ops Q↔ ∃r∈Q,dr ops r=some t:=List.mem_filterMap
theorem Rx: ∀(Q:List Nat) (st:St) (t:Nat),(t∈kO ops Q->(Rw ops Q st).get t= .undef)/\(t∉kO ops Q->(Rw ops Q st).get t=st.get t)
 | [],st,t=>⟨λh=>by simp [kO] at h,λ_=>rfl⟩
 |r::Q,st,t=>by
  obtain ⟨h1,h2⟩:=Rx Q st t
  obtain ⟨g1,g2⟩:=iU (Rw ops Q st) (dr ops r) .undef t
  simp only [Rw]
  by_cases hd:dr ops r=some t
  ·refine ⟨λ_=>(g1 hd).elim id id,λh=>absurd (Ls.2 ⟨r,Mc ..,hd⟩) h⟩
  ·refine ⟨λh=>?_,λh=>?_⟩
   ·rw [g2 hd]
    obtain ⟨q,hq,he⟩:=Ls.1 h
    rcases Be.1 hq with rfl|hq
    ·exact absurd he hd
    ·exact h1 (Ls.2 ⟨q,hq,he⟩)
   ·rw [g2 hd]
    exact h2 λhm=>by
     obtain ⟨q,hq,he⟩:=Ls.1 hm
     exact h (Ls.2 ⟨q,Aq _ hq,he⟩)
theorem uq {st s:St} {a:Act} (h:Bi X π st a w) (hh:s.heap=st.heap) (hl:s.tmps.length=st.tmps.length) (hg: ∀t,s.get t=st.get t\/s.get t= .undef):Bi X π s a w:=by
 refine ⟨by rw [hh];exact h.1,⟨by rw [hl];exact h.2.size,h.2.defers,λt=>?_⟩⟩
 rw [hh]
 rcases hg t with e|e
 ·rw [e];exact h.2.tmps t
 ·rw [e];exact Acv
theorem JF {st s:St} {o:Oper} (hh:s.heap=st.heap) (hg: ∀t,t∈o.looksAt ops->s.get t=st.get t):Xl T Γ ops s o=Xl T Γ ops st o:=by
 obtain ⟨ts,H⟩:=s
 obtain ⟨ts',H'⟩:=st
 simp only at hh
 subst hh
 exact yH hg
theorem qL (hT:Eb P T) (Ot:Kv P Γ) {st:St} {a:Act} (h:Bi X π st a w) {i:Nat} {o:Oper} (ho:ops[i]?=some o) (hp:kb ops i=true) {v:AV} (hv:Xl T Γ ops st o=some v):
  ∃u,(∀(Q:Exit->Act->World->Prop) (K:Act->World->Prop),K (a.put o.dst u) w->wpOp P ops Q i K a w)/\Bs X w π st.heap v u:=by
 unfold kb at hp
 rw [ho] at hp
 simp only at hp
 have hgd:o.guard=none:=by
  obtain ⟨dst,op,ty,pos,af,gd⟩:=o
  cases gd with
  |none=>rfl
  |some g=>split at hp<;>first|rfl|(rename_i h4;cases h4)|cases hp
 have hb:Xn T Γ st o=some v:=by
  unfold Xl at hv
  rw [hgd] at hv
  exact hv
 have hw:Region.wanted o (yielded ops a.tmps)=true:=by simp [Region.wanted,hgd]
 have fin: ∀s:Sem Value,execOp a.eval o=(do pure (.value (<-s)))->Fh T Γ st o=some v-> ∃u,(∀(Q:Exit->Act->World->Prop) (K:Act->World->Prop),K (a.put o.dst u) w->wpOp P ops Q i K a w)/\Bs X w π st.heap v u:=by
  intro s he hq
  have hg:=iL hT Ot h o v hq
  rw [he,Sem.run_bind] at hg
  cases hr:s.run P w with
  |ok u w'=>
   rw [hr] at hg
   obtain ⟨e,hu⟩:=(show w'=w/\Bs X w π st.heap v u from hg)
   subst e
   refine ⟨u,λQ K hK=>?_,hu⟩
   unfold wpOp
   simp only [ho]
   rw [Ab hw]
   refine .inl ?_
   unfold Oper.wp
   rw [he,Sem.run_bind,hr]
   exact hK
  |halt x w'=>rw [hr] at hg;exact hg.elim
 obtain ⟨dst,op,ty,pos,af,gd⟩:=o
 simp only at hgd
 subst hgd
 split at hp
 ·rename_i x h3 h4
  simp only at h3;subst h3
  exact fin (pure (a.eval x)) (by simp [execOp]) hb
 ·rename_i x h3 h4
  simp only at h3;subst h3
  exact fin _ rfl hb
 ·rename_i x h3 h4
  simp only at h3;subst h3
  exact fin _ rfl hb
 ·rename_i x h3 h4
  simp only at h3;subst h3
  exact fin _ rfl hb
 ·cases hp
theorem XV {j:Nat} {oi oj:Oper} {v:Value} (hj:ops[j]?=some oj) (hap:oi.apart ops oj=true) (hsj: ∀cs b,oj.op≠ .select cs b)
  {Q:Exit->Act->World->Prop} (hQ: ∀c a w,¬Q (.panic c) a w) {K:Act->World->Prop} {a:Act} {w:World} (h:wpOp P ops Q j K (a.put oi.dst v) w):
  wpOp P ops Q j (λa' w'=>K (a'.put oi.dst v) w') a w:=by
 obtain ⟨h1,h2,h3⟩:=Oper.apart_spec hap
 unfold wpOp at*
 simp only [hj] at*
 rw [wanted_put oj a oi.dst v h1] at h
 split
 ·rename_i hw
  simp only [hw,Ph] at h
  rcases h with h|⟨Agk,Amq⟩
  case inr=>exact .inr ⟨by unfold Oper.asks at*;rw [execOp_put oj hsj a oi.dst v h1] at Agk;exact Agk,Amq⟩
  refine .inl ?_
  unfold Oper.wp at*
  rw [execOp_put oj hsj a oi.dst v h1] at h
  generalize (execOp a.eval oj).run P w=r at*
  cases r with
  |ok n w'=>
   cases n<;>simp only [Oper.upon] at h⊢
   case value u=>rw [<-Act.put_comm a v u h2];exact h
   case skip=>rw [<-Act.put_comm a v undef h2];exact h
   case defer d=>
    rw [<-Act.put_comm _ v undef h2,<-Act.put_defers]
    exact h
   case enter f args=>
    refine Calls.mono h λe qX he=>?_
    cases e with
    |returned u=>show K ((a.put oj.dst u).put oi.dst v) qX;rw [<-Act.put_comm a v u h2];exact he
    |panicked c=>exact absurd he (hQ _ _ _)
    |outgrown=>exact he
   case row row args=>exact Rows.mono h λu qX he=>by rw [<-Act.put_comm a v u h2];exact he
  |halt x w'=>
   cases x<;>simp only [Oper.upon] at h⊢
   case panic u=>exact absurd h (hQ _ _ _)
 ·rename_i hw
  simp only [hw] at h
  rw [<-Act.put_comm a v undef h2];exact h
theorem yj: ∀ {Q:List Nat} {a a':Act},TA ops Q a a'->a'.defers=a.defers/\a'.tmps.size=a.tmps.size/\ ∀t,t∉kO ops Q->a'.tmps.getD t undef=a.tmps.getD t undef
 | [],a,a',h=>by cases h;exact ⟨rfl,rfl,λ_ _=>rfl⟩
 |r::Q,a,a',⟨u,h⟩=>by
  obtain ⟨h1,h2,h3⟩:=yj h
  have hp:(a.put (dr ops r) u).defers=a.defers/\(a.put (dr ops r) u).tmps.size=a.tmps.size:=by cases dr ops r<;>simp [Act.put]
  refine ⟨h1.trans hp.1,h2.trans hp.2,λt ht=>?_⟩
  have hn:dr ops r≠some t:= λe=>ht (Ls.2 ⟨r,Mc ..,e⟩)
  rw [h3 t λhm=>ht (by obtain ⟨q,hq,he⟩:=Ls.1 hm;exact Ls.2 ⟨q,Aq _ hq,he⟩)]
  cases hd:dr ops r with
  |none=>rfl
  |some d=>
   have Iz:d≠t:= λe=>hn (by rw [hd,e])
   simp [Act.put,Array.getElem?_setIfInBounds_ne Iz]
theorem Abr {Q:List Nat} {st:St} {a a':Act} (hp:TA ops Q a a') (h:Bi X π st a' w):Bi X π (Rw ops Q st) a w:=by
 obtain ⟨h1,h2,h3⟩:=yj hp
 refine ⟨by rw [Qq];exact h.1,⟨by rw [Wo,<-h2];exact h.2.size,by rw [<-h1];exact h.2.defers,λt=>?_⟩⟩
 rw [Qq]
 by_cases ht:t∈kO ops Q
 ·rw [(Rx Q st t).1 ht];exact Acv
 ·rw [(Rx Q st t).2 ht,<-h3 t ht];exact h.2.tmps t
theorem yJ {j:Nat} {oj:Oper} (hj:ops[j]?=some oj) (hsj: ∀cs b,oj.op≠ .select cs b) {Q:Exit->Act->World->Prop} (hQ: ∀c a w,¬Q (.panic c) a w) {K:Act->World->Prop} :
  ∀(L:List Nat) (a a':Act) (w:World),(∀r∈L,∃o,ops[r]?=some o/\o.apart ops oj=true)->TA ops L a a'->wpOp P ops Q j K a' w->wpOp P ops Q j (λa2 w2=> ∃a3,TA ops L a2 a3/\K a3 w2) a w
 | [],a,a',w,_,hp,h=>by cases hp;exact wpOp_mono (λa2 w2 hk=>⟨a2,rfl,hk⟩) h
 |r::L,a,a',w,hap,⟨u,hp⟩,h=>by
  obtain ⟨o,ho,ha⟩:=hap r (Mc ..)
  have hd:dr ops r=o.dst:=by unfold dr;rw [ho];rfl
  rw [hd] at hp
  have ih:=yJ hj hsj hQ L _ a' w (λq hq=>hap q (Aq _ hq)) hp h
  exact wpOp_mono (λa2 w2 ⟨a3,h1,h2⟩=>⟨a3,⟨u,by rw [hd];exact h1⟩,h2⟩) (XV hj ha hsj hQ ih)
def KH (ops:Array Oper):List Nat->Prop
 | []=>True
 |r::L=>(∀q∈r::L,∀o d,ops[r]?=some o->dr ops q=some d->d∉o.looksAt ops)/\(∀q∈L,∀d,dr ops r=some d->dr ops q≠some d)/\KH ops L
def xg (ops:Array Oper):List Nat->Prop
 | []=>True
 |r::L=>(∀q∈L,Region.waitsFor .any ops q r=true\/ ∀o d,ops[q]?=some o->dr ops r=some d->d∉o.looksAt ops)/\xg ops L
theorem KH.filter {p:Nat->Bool} : ∀ {L:List Nat},KH ops L->KH ops (L.filter p)
 | [],_=>trivial
 |r::L,⟨h1,h2,h3⟩=>by
  rw [List.filter_cons]
  split
  ·exact ⟨λq hq=>h1 q (by rcases Be.1 hq with rfl|hq;exact Mc ..;exact Aq _ (Bt.1 hq).1),λq hq=>h2 q (Bt.1 hq).1,h3.filter⟩
  ·exact h3.filter
theorem xg.filter {p:Nat->Bool} : ∀ {L:List Nat},xg ops L->xg ops (L.filter p)
 | [],_=>trivial
 |r::L,⟨h1,h3⟩=>by
  rw [List.filter_cons]
  split
  ·exact ⟨λq hq=>h1 q (Bt.1 hq).1,h3.filter⟩
  ·exact h3.filter
theorem ab {i j:Nat} {p:Oper->Oper->Bool} (h:pU ops i j p=true): ∃x y,ops[i]?=some x/\ops[j]?=some y/\p x y=true:=by
 unfold pU at h
 split at h
 ·rename_i x y h1 h2;exact ⟨x,y,h1,h2,h⟩
 ·cases h
theorem gg {x y:Oper} (h:ov ops x y=true): ∀d,x.dst=some d->d∉y.looksAt ops:= λd hd=>by
 unfold ov at h
 rw [hd] at h
 simpa using h
theorem EM {x y:Oper} (h:LG x y=true): ∀d,x.dst=some d->y.dst≠some d:= λd hd=>by
 unfold LG at h
 rw [hd] at h
 simpa using h
theorem cE {r:Nat} {o:Oper} (h:ops[r]?=some o):dr ops r=o.dst:=by unfold dr;rw [h];rfl
theorem qG: ∀ {E:List Nat},AL ops E=true->KH ops E/\xg ops E
 | [],_=>⟨trivial,trivial⟩
 |r::E,h=>by
  simp only [AL,Ag,Bf] at h
  obtain ⟨⟨h1,h2⟩,h3⟩:=h
  obtain ⟨g1,g2⟩:=qG h3
  refine ⟨⟨λq hq o d ho hd=>?_,λq hq d hd=>?_,g1⟩,λq hq=>?_,g2⟩
  ·rcases Be.1 hq with rfl|hq
   ·obtain ⟨x,y,hx,hy,hp⟩:=ab h1
    rw [ho] at hx hy;cases hx;cases hy
    rw [cE ho] at hd
    exact gg hp d hd
   ·obtain ⟨x,y,hx,hy,hp⟩:=ab (h2 q hq).1
    rw [ho] at hx;cases hx
    rw [cE hy] at hd
    exact gg (Bc.1 hp).2 d hd
  ·obtain ⟨x,y,hx,hy,hp⟩:=ab (h2 q hq).1
   rw [cE hx] at hd
   rw [cE hy]
   exact EM (Bc.1 hp).1 d hd
  ·have h4:=(h2 q hq).2
   rw [Kn] at h4
   rcases h4 with h4|h4
   ·exact .inl h4
   ·refine .inr λo d ho hd=>?_
    obtain ⟨x,y,hx,hy,hp⟩:=ab h4
    rw [ho] at hy;cases hy
    rw [cE hx] at hd
    exact gg hp d hd
theorem Aga (hT:Eb P T) (Ot:Kv P Γ) {st:St} : ∀(L:List Nat) (a:Act),(∀r∈L,kb ops r=true/\ ∃o v,ops[r]?=some o/\Xl T Γ ops st o=some v/\ ∀d,o.dst=some d->st.get d=v)->KH ops L->
  Bi X π (Rw ops L st) a w-> ∃a',TA ops L a a'/\Bi X π st a' w
 | [],a,_,_,h=>⟨a,rfl,h⟩
 |r::L,a,hs,⟨f1,f2,f3⟩,h=>by
  obtain ⟨hr,o,v,ho,hv,hd⟩:=hs r (Mc ..)
  have hdo:=cE ho
  have FT:Xl T Γ ops (Rw ops (r::L) st) o=some v:=by
   rw [JF (st:=st) (Qq _ _) λt ht=>(Rx _ _ _).2 λhm=>by
    obtain ⟨q,hq,he⟩:=Ls.1 hm
    exact f1 q hq o t ho he ht]
   exact hv
  obtain ⟨u,_,hu⟩:=qL hT Ot h ho hr FT
  have h2:=h.put o.dst hu
  have h3:Bi X π (Rw ops L st) (a.put o.dst u) w:=by
   refine uq h2 ?_ ?_ λt=>?_
   ·rw [kh,Qq,Qq]
   ·rw [nX,Wo,Wo]
   ·obtain ⟨g1,g2⟩:=iU (Rw ops (r::L) st) o.dst v t
    by_cases he:o.dst=some t
    ·have KD:t∉kO ops L:= λhm=>by
      obtain ⟨q,hq,hqe⟩:=Ls.1 hm
      exact f2 q hq t (by rw [hdo];exact he) hqe
     rw [(Rx L st t).2 KD,hd t he]
     rcases g1 he with g|g
     ·exact .inl g.symm
     ·by_cases hl:t<st.tmps.length
      ·refine .inl ?_
       rw [he]
       show v=((Sr (Rw ops (r::L) st).tmps t v).getD t .undef)
       rw [Qu,Ab ⟨rfl,by rw [Wo];exact hl⟩]
      ·refine .inr ?_
       rw [<-hd t he]
       unfold St.get
       rw [Ai,Dz (by omega)]
       rfl
    ·rw [g2 he]
     have:(Rw ops (r::L) st).get t=(Rw ops L st).get t:=(iU (Rw ops L st) (dr ops r) .undef t).2 (by rw [hdo];exact he)
     exact .inl this.symm
  obtain ⟨a',hp,gX⟩:=Aga hT Ot L _ (λq hq=>hs q (Aq _ hq)) f3 h3
  exact ⟨a',⟨u,by rw [hdo];exact hp⟩,gX⟩
theorem ZF: ∀ {L:List Nat},KH ops L->xg ops L-> ∀ {i:Nat} {o:Oper},i∈L->ops[i]?=some o->(∀q∈L,Region.waitsFor .any ops i q=true->False)-> ∀q∈L,∀d,dr ops q=some d->d∉o.looksAt ops
 | [],_,_,i,_,hi,_,_=>by cases hi
 |r::L,⟨f1,f2,f3⟩,⟨b1,b2⟩,i,o,hi,ho,hw=> λq hq d hd=>by
  by_cases hir:i=r
  ·subst hir
   exact f1 q hq o d ho hd
  ·have kZ:=(Be.1 hi).resolve_left hir
   rcases Be.1 hq with rfl|gB
   ·rcases b1 i kZ with h|h
    ·exact (hw q hq h).elim
    ·exact h o d ho hd
   ·exact ZF f3 b2 kZ ho (λq hq=>hw q (Aq _ hq)) q gB d hd
theorem qd {Ah:Array Bool} (aB:Ah.size=ops.size): ∀ {E:List Nat} {L:Array Bool} {r:Nat} {Q:List Nat},ji ops E L=true->(∀j,L.getD j false=true->Ah.getD j false=true)->Mg E Ah=r::Q->r∈Region.ready .any ops Ah
 | [],_,_,_,_,_,h=>by simp [Mg] at h
 |e::E,L,r,Q,hr,hl,hp=>by
  simp only [ji,Ag,Js] at hr
  unfold Mg at hp
  rw [List.filter_cons] at hp
  by_cases he:Ah.getD e false=true
  ·rw [Ak (by rw [he];simp)] at hp
   refine qd aB hr.2 (λj hj=>?_) hp
   by_cases hej:e=j
   ·subst hej;exact he
   ·rw [getD_set_ne false hej] at hj;exact hl j hj
  ·have he:Ah.getD e false=false:=by simpa using he
   rw [Ab (by rw [he];rfl)] at hp
   injection hp with tt RT
   subst tt
   obtain ⟨_,o,ho,Ky⟩:=mem_ready.1 hr.1
   have Jj:e<Ah.size:=by rw [aB];exact (Nc.1 ho).1
   exact mem_ready.2 ⟨getD_in Jj he,o,ho,λx hx hb=>hl _ (Ky x hx hb)⟩
theorem eH {Ah:Array Bool} {j:Nat} (h:Ah.getD j true=false):j<Ah.size:=by
 rcases Nat.lt_or_ge j Ah.size with h'|h'
 ·exact h'
 ·simp [Array.getElem?_eq_none h'] at h
theorem xf (hT:Eb P T) (Ot:Kv P Γ) {Q:Exit->Act->World->Prop} (hQ: ∀c a w,¬Q (.panic c) a w) {K:St->Prop} (hK: ∀st a w,K st->Rel X st a w->Q .normal a w) (bQ:Region.noSelect ops=true)
  {E:List Nat} {L0:Array Bool} (hE:cV ops E L0=true): ∀(n f:Nat) (Ah LA:Array Bool) (st:St) (a:Act) (w:World),n=f+(Mg E Ah).length->Ah.size=ops.size->LA.size=ops.size->
   (∀j,LA.getD j false=(Ah.getD j false||E.contains j))->Uf ops Ah->(∀j,L0.getD j false=true->Ah.getD j false=true)->r7 T Γ ops E K f LA st->Rel X (Rw ops (Mg E Ah) st) a w->wpAny P .any ops Q n Ah a w:=by
 simp only [cV,Ag,Bf] at hE
 obtain ⟨⟨hre,hry⟩,hpr,hap⟩:=hE
 obtain ⟨Amh,qk⟩:=qG hpr
 have key: ∀(n f:Nat) (Ah LA:Array Bool) (st:St) (a:Act) (w:World),n=f+(Mg E Ah).length->Ah.size=ops.size->LA.size=ops.size->
   (∀j,LA.getD j false=(Ah.getD j false||E.contains j))->Uf ops Ah->(∀j,L0.getD j false=true->Ah.getD j false=true)->r7 T Γ ops E K f LA st->Rel X (Rw ops (Mg E Ah) st) a w->
   (∀j,j∈Region.ready .any ops Ah->j∉E->j∈Region.ready .any ops LA)/\(Region.ready .any ops Ah= []->Q .normal a w/\f=0/\Mg E Ah= []):=by
  intro n f Ah LA st a w hn kG vJ hLA Pc ZJ sX hrel
  have h1: ∀j,j∈Region.ready .any ops Ah->j∉E->j∈Region.ready .any ops LA:= λj hj hjE=>by
   obtain ⟨oE,o,ho,Ky⟩:=mem_ready.1 hj
   have Jj:=eH oE
   refine mem_ready.2 ⟨getD_in (by omega) ?_,o,ho,λe he hb=>by rw [hLA,Ky e he hb];rfl⟩
   rw [hLA,getD_both oE]
   simpa using hjE
  refine ⟨h1,λh0=>?_⟩
  cases hpe:Mg E Ah with
  |cons r L=>
   have:=qd kG hry ZJ hpe
   rw [h0] at this
   cases this
  |nil=>
   have Ky: ∀r,r∈E->Ah.getD r false=true:= λr hr=>by
    have:r∉Mg E Ah:=by rw [hpe];simp
    unfold Mg at this
    rw [Bt] at this
    by_cases hl:Ah.getD r false=true
    ·exact hl
    ·exact absurd ⟨hr,by simpa using hl⟩ this
   have hb: ∀j,j∈Region.ready .any ops LA->j∈Region.ready .any ops Ah:= λj hj=>by
    obtain ⟨oE,o,ho,hw⟩:=mem_ready.1 hj
    have Jj:=eH oE
    have he: ∀k,LA.getD k false=Ah.getD k false:= λk=>by
     rw [hLA]
     by_cases hk:k∈E
     ·rw [Ky k hk];rfl
     ·rw [show E.contains k=false by simpa using hk,hZ]
    exact mem_ready.2 ⟨getD_in (by omega) (by rw [<-he];exact getD_both oE),o,ho,λe hx hbd=>by rw [<-he];exact hw e hx hbd⟩
   cases f with
   |zero=>
    obtain ⟨_,_,hk⟩:=sX
    rw [hpe] at hrel
    exact ⟨hK _ _ _ hk hrel,rfl,rfl⟩
   |succ f=>
    obtain ⟨_,Iz,_⟩:=sX
    obtain ⟨j,hj⟩:=List.exists_mem_of_ne_nil _ Iz
    have:=hb j hj
    rw [h0] at this
    cases this
 intro n
 induction n with
 |zero=>
  intro f Ah LA st a w hn kG vJ hLA Pc ZJ sX hrel
  obtain ⟨k1,k2⟩:=key 0 f Ah LA st a w hn kG vJ hLA Pc ZJ sX hrel
  have hf:f=0:=by omega
  have hp:Mg E Ah= []:=List.length_eq_zero_iff.1 (by omega)
  subst hf
  obtain ⟨_,hr,_⟩:=sX
  have h0:Region.ready .any ops Ah= []:=List.eq_nil_iff_forall_not_mem.2 λj hj=>by
   by_cases hjE:j∈E
   ·have oE:=getD_both (mem_ready.1 hj).1
    have:j∈Mg E Ah:=Bt.2 ⟨hjE,by rw [oE];rfl⟩
    rw [hp] at this
    cases this
   ·have:=k1 j hj hjE
    rw [hr] at this
    cases this
  exact ⟨h0,(k2 h0).1⟩
 |succ n ih=>
  intro f Ah LA st a w hn kG vJ hLA Pc ZJ sX hrel
  obtain ⟨k1,k2⟩:=key (n+1) f Ah LA st a w hn kG vJ hLA Pc ZJ sX hrel
  have Uh:Ac1 T Γ ops E LA st:=by cases f<;>exact sX.1
  have Aa1: ∀r∈Mg E Ah,r∈E/\Ah.getD r false=false:= λr hr=>by
   obtain ⟨h1,h2⟩:=Bt.1 hr
   exact ⟨h1,by simpa using h2⟩
  have Aha: ∀r∈Mg E Ah,kb ops r=true/\ ∃o v,ops[r]?=some o/\Xl T Γ ops st o=some v/\ ∀d,o.dst=some d->st.get d=v:= λr hr=>by
   obtain ⟨h1,h2⟩:=Aa1 r hr
   refine ⟨hre r h1,(Uh r h1).resolve_left λhw=>?_⟩
   unfold rZ at hw
   obtain ⟨j,_,hj⟩:=Ey.1 hw
   simp only [Ag,Es] at hj
   obtain ⟨hj1,hj2,hj3⟩:=hj
   rw [hLA,hj1,hZ] at hj2
   have:=Pc j r hj2 hj3
   rw [h2] at this
   cases this
  refine ⟨λh0=>(k2 h0).1,λi hi=>?_⟩
  obtain ⟨π,hrel⟩:=hrel
  have hiw: ∀q∈Mg E Ah,Region.waitsFor .any ops i q=true->False:= λq hq hw=>by
   have:=cW hi hw
   rw [(Aa1 q hq).2] at this
   cases this
  obtain ⟨oE,oi,hoi,_⟩:=mem_ready.1 hi
  have Jj:=eH oE
  by_cases hiE:i∈E
  ·have YB:i∈Mg E Ah:=Bt.2 ⟨hiE,by rw [getD_both oE];rfl⟩
   obtain ⟨hrd,o,v,ho,hv,hd⟩:=Aha i YB
   have hnl:=ZF (Amh.filter (p:= λr=>!Ah.getD r false)) (qk.filter (p:= λr=>!Ah.getD r false)) YB ho hiw
   have FT:Xl T Γ ops (Rw ops (Mg E Ah) st) o=some v:=by
    rw [JF (st:=st) (Qq _ _) λt ht=>(Rx _ _ _).2 λhm=>by
     obtain ⟨q,hq,he⟩:=Ls.1 hm
     exact hnl q hq t he ht]
    exact hv
   obtain ⟨u,hy,hu⟩:=qL hT Ot hrel ho hrd FT
   refine hy Q _ ?_
   have hpe: ∀q,q∈Mg E (Ah.setIfInBounds i true)↔q∈Mg E Ah/\q≠i:= λq=>by
    unfold Mg
    rw [Bt,Bt]
    by_cases hqi:q=i
    ·subst hqi
     simp [Jj]
    ·rw [getD_set_ne false (Gg hqi)]
     exact ⟨λh=>⟨h,hqi⟩,λh=>h.1⟩
   have hlen:(Mg E Ah).length=(Mg E (Ah.setIfInBounds i true)).length+1:=by
    have KD: ∀(E:List Nat) (L:Array Bool),ji ops E L=true->E.Nodup/\ ∀r∈E,L.getD r true=false:=by
     intro E
     induction E with
     |nil=>exact λL _=>⟨Nd,λr hr=>by cases hr⟩
     |cons e E ihE=>
      intro L h
      simp only [ji,Ag,Js] at h
      obtain ⟨g1,g2⟩:=ihE _ h.2
      have he:=(mem_ready.1 h.1).1
      have kY:=eH he
      refine ⟨Ce.2 ⟨λhm=>?_,g1⟩,λr hr=>?_⟩
      ·have:=g2 e hm
       simp [kY] at this
      ·rcases Be.1 hr with rfl|hr
       ·exact he
       ·have Iz:e≠r:= λe'=>by subst e';have:=g2 e hr;simp [kY] at this
        have:=g2 r hr
        rw [getD_set_ne true Iz] at this
        exact this
    have hEn:=(KD E L0 hry).1
    have Au4: ∀L:List Nat,L.Nodup->i∈L->(L.filter λr=>!Ah.getD r false).length=(L.filter λr=>!(Ah.setIfInBounds i true).getD r false).length+1:=by
     intro L
     induction L with
     |nil=>exact λ_ h=>by cases h
     |cons x L ihL=>
      intro hn hm
      obtain ⟨hx,hn⟩:=Ce.1 hn
      rw [List.filter_cons,List.filter_cons]
      by_cases hxi:x=i
      ·subst hxi
       rw [Ab (by rw [getD_both oE];rfl),Ak (by simp [Jj])]
       have:L.filter (λr=>!Ah.getD r false)=L.filter (λr=>!(Ah.setIfInBounds x true).getD r false):=List.filter_congr λq hq=>by
        rw [getD_set_ne false (λe=>hx (by rw [e];exact hq))]
       rw [Aw,this]
      ·have hm:=(Be.1 hm).resolve_left (Gg hxi)
       rw [getD_set_ne false (Gg hxi)]
       split
       ·rw [Aw,Aw,ihL hn hm]
       ·exact ihL hn hm
    exact Au4 E hEn hiE
   refine ih f (Ah.setIfInBounds i true) LA st _ w (by omega) (by simp [kG]) vJ (λj=>?_) (Pc.set hi) (λj hj=>getD_set_true (ZJ j hj)) sX ⟨π,?_⟩
   ·rw [hLA]
    by_cases jZ:i=j
    ·subst jZ
     rw [show E.contains i=true by simpa using hiE,Bool.or_true,Bool.or_true]
    ·rw [getD_set_ne false jZ]
   ·have h2:=hrel.put o.dst hu
    refine uq h2 ?_ ?_ λt=>?_
    ·rw [kh,Qq,Qq]
    ·rw [nX,Wo,Wo]
    ·have hdo:=cE ho
     by_cases hm:t∈kO ops (Mg E (Ah.setIfInBounds i true))
     ·exact .inr ((Rx _ _ _).1 hm)
     ·rw [(Rx _ _ _).2 hm]
      obtain ⟨g1,g2⟩:=iU (Rw ops (Mg E Ah) st) o.dst v t
      by_cases he:o.dst=some t
      ·rw [hd t he]
       rcases g1 he with g|g
       ·exact .inl g.symm
       ·by_cases hl:t<st.tmps.length
        ·refine .inl ?_
         rw [he]
         show v=((Sr (Rw ops (Mg E Ah) st).tmps t v).getD t .undef)
         rw [Qu,Ab ⟨rfl,by rw [Wo];exact hl⟩]
        ·refine .inr ?_
         rw [<-hd t he]
         unfold St.get
         rw [Ai,Dz (by omega)]
         rfl
      ·rw [g2 he]
       refine .inl ((Rx _ _ _).2 λhm2=>?_).symm
       obtain ⟨q,hq,hqe⟩:=Ls.1 hm2
       by_cases hqi:q=i
       ·subst hqi
        rw [hdo] at hqe
        exact he hqe
       ·exact hm (Ls.2 ⟨q,(hpe q).2 ⟨hq,hqi⟩,hqe⟩)
  ·cases f with
   |zero=>
    obtain ⟨_,hr,_⟩:=sX
    have:=k1 i hi hiE
    rw [hr] at this
    cases this
   |succ f=>
    obtain ⟨_,_,Amy⟩:=sX
    obtain ⟨o,st',ho,he,gC⟩:=Amy i (k1 i hi hiE)
    obtain ⟨a',Aa4,Vh⟩:=Aga hT Ot (Mg E Ah) a Aha Amh.filter hrel
    have tv:wpOp P ops Q i (λa2 w2=>Rel X st' a2 w2) a' w:=by
     unfold wpOp
     simp only [ho]
     exact Wf hT Ot Vh o he λa2 w2 h2=>h2
    have zp:=yJ (Q:=Q) ho (λcs b=>Region.noSelect_spec bQ i o cs b ho) hQ (Mg E Ah) a a' w (λr hr=>?_) Aa4 tv
    ·refine wpOp_mono (λa2 w2 hk=>?_) zp
     obtain ⟨a3,hp3,π3,hr3⟩:=hk
     have hpe:Mg E (Ah.setIfInBounds i true)=Mg E Ah:=by
      unfold Mg
      refine List.filter_congr λq hq=>?_
      rw [getD_set_ne false (λe=>hiE (by rw [e];exact hq))]
     refine ih f (Ah.setIfInBounds i true) (LA.setIfInBounds i true) st' a2 w2 (by rw [hpe];omega) (by simp [kG]) (by simp [vJ]) (λj=>?_) (Pc.set hi) (λj hj=>getD_set_true (ZJ j hj)) gC ⟨π3,by rw [hpe];exact Abr hp3 hr3⟩
     by_cases jZ:i=j
     ·subst jZ
      simp [Jj,kG▸Jj,vJ]
     ·rw [getD_set_ne false jZ,getD_set_ne false jZ,hLA]
    ·obtain ⟨hrE,KE⟩:=Aa1 r hr
     have h3:=Bf.1 (Bf.1 hap r hrE) i (Eu.2 (by omega))
     simp only [Kn] at h3
     rcases h3 with ((h3|h3)|h3)|h3
     ·exact absurd (by simpa using h3) hiE
     ·have:=ZJ i h3
      rw [getD_both oE] at this
      cases this
     ·exact (hiw r hr h3).elim
     ·obtain ⟨x,y,hx,hy,hp⟩:=ab h3
      rw [ho] at hy;cases hy
      exact ⟨x,hx,hp⟩
theorem nh: ∀(E:List Nat) (s0 s1:St),Gj T Γ ops E s0=some s1->s1.heap=s0.heap/\s1.tmps.length=s0.tmps.length/\ ∀t,t∉kO ops E->s1.get t=s0.get t
 | [],s0,s1,h=>by
  simp only [Gj,Aa] at h
  subst h
  exact ⟨rfl,rfl,λ_ _=>rfl⟩
 |r::E,s0,s1,h=>by
  simp only [Gj] at h
  split at h
  ·cases h
  rename_i o ho
  split at h
  rotate_left
  ·cases h
  rename_i v hv
  obtain ⟨h1,h2,h3⟩:=nh E _ _ h
  refine ⟨by rw [h1,kh],by rw [h2,nX],λt ht=>?_⟩
  rw [h3 t λhm=>ht (by obtain ⟨q,hq,he⟩:=Ls.1 hm;exact Ls.2 ⟨q,Aq _ hq,he⟩)]
  exact (iU s0 o.dst v t).2 λe=>ht (Ls.2 ⟨r,Mc ..,by rw [cE ho];exact e⟩)
theorem yc: ∀ {E:List Nat} {L0:Array Bool},ji ops E L0=true-> ∀r∈E,L0.getD r true=false
 | [],_,_,_,hr=>by cases hr
 |e::E,L0,h,r,hr=>by
  simp only [ji,Ag,Js] at h
  have he:=(mem_ready.1 h.1).1
  rcases Be.1 hr with rfl|hr
  ·exact he
  ·have h2:=yc h.2 r hr
   have Iz:e≠r:= λe'=>by subst e';simp [eH he] at h2
   rw [getD_set_ne true Iz] at h2
   exact h2
theorem xe (hT:Eb P T) (Ot:Kv P Γ) {Q:Exit->Act->World->Prop} (hQ: ∀c a w,¬Q (.panic c) a w) {K:St->Prop} (hK: ∀st a w,K st->Rel X st a w->Q .normal a w) (bQ:Region.noSelect ops=true)
  {E:List Nat} {L0:Array Bool} (hE:cV ops E L0=true) {n:Nat} (hn:E.length<=n) {cp st1:St} (h1:Gj T Γ ops E cp=some st1) (h2:r7 T Γ ops E K (n-E.length) (Em E L0) st1)
  (aB:L0.size=ops.size) (Pc:Uf ops L0) {a:Act} {w:World} (hr:Rel X cp a w):wpAny P .any ops Q n L0 a w:=by
 have hE':=hE
 simp only [cV,Ag] at hE'
 have oE:=yc hE'.1.2
 have hp:Mg E L0=E:=List.filter_eq_self.2 λr hr=>by rw [getD_both (oE r hr)];rfl
 refine xf hT Ot hQ hK bQ hE n (n-E.length) L0 (Em E L0) st1 a w (by rw [hp];omega) aB (by rw [Wm];exact aB) (λj=>?_) Pc (λj hj=>hj) h2 ?_
 ·by_cases hj:j∈E
  ·rw [fz E L0 j hj (eH (oE j hj)),show E.contains j=true by simpa using hj,Bool.or_true]
  ·rw [dx E L0 j hj,show E.contains j=false by simpa using hj,hZ]
 ·obtain ⟨π,hr⟩:=hr
  obtain ⟨g1,g2,g3⟩:=nh E _ _ h1
  refine ⟨π,uq hr (by rw [Qq,g1]) (by rw [Wo,g2]) λt=>?_⟩
  rw [hp]
  by_cases ht:t∈kO ops E
  ·exact .inr ((Rx _ _ _).1 ht)
  ·exact .inl (((Rx _ _ _).2 ht).trans (g3 t ht))
theorem Xx (live:List Nat): ∀(i:Nat) (l:List AV),(Iq live i l).length=l.length
 |_,[]=>rfl
 |i,v::r=>by simp [Iq,Xx live (i+1) r]
theorem bH (live:List Nat): ∀(i:Nat) (l:List AV) (t:Nat),(Iq live i l).getD t .undef= .undef\/(Iq live i l).getD t .undef=l.getD t .undef
 |_,[],t=> .inr rfl
 |i,v::r,0=>by
  simp only [Iq,Xr]
  split
  ·exact .inr rfl
  ·exact .inl rfl
 |i,v::r,t+1=>by
  simp only [Iq,Nm]
  exact bH live (i+1) r t
theorem dt: ∀(l:List Nat) (st:St) (a:Act) (w:World),Rel X st a w->Rel X (bf l st) a w
 | [],_,_,_,h=>h
 |k::r,_,a,w,⟨_,h⟩=>dt r _ a w ⟨_,h.forget k⟩
theorem WV (dead:List Nat) {st:St} {a:Act} {w:World} (h:Rel X st a w):Rel X (st.Qk dead) a w:=by
 obtain ⟨π,h⟩:=h
 unfold St.Qk
 refine dt _ _ a w ⟨π,h.1,⟨by simp [Xx,h.2.size],h.2.defers,λt=>?_⟩⟩
 show Bs X w π st.heap ((Iq _ 0 st.tmps).getD t .undef) _
 rcases bH ((List.range st.tmps.length).filter λt=>!dead.contains t) 0 st.tmps t with e|e
 ·rw [e];trivial
 ·rw [e];exact h.2.tmps t
theorem qM (hT:Eb P T) (Ot:Kv P Γ) (hm:P.follows .mixedOrders=true) {Q:Exit->Act->World->Prop} {id:Nat} {draw:Bool} {st:St} {K:St->Prop} {a:Act} (h:Rel X st a w)
  (he:kK T Γ ops draw st K) (hQ: ∀st' a' w',K st'->Rel X st' a' w'->Q .normal a' w'):(Code.region id ops draw).wp P Q a w:=by
 rcases he with ⟨st',h1,h2⟩|⟨rfl,bQ,cp,h1,h2⟩
 ·exact oT hT Ot hm h h1 λa' w' h'=>hQ st' a' w' h2 h'
 ·refine wp_mono (Q:= λe a w=>e= .normal/\Q .normal a w) ?_ λe a w h=>h.1▸h.2
  refine wp_region_any hm ?_
  have hrel:Rel X st a {w with drawn:=w.drawn+1} :=by
   obtain ⟨π,h⟩:=h
   exact ⟨π,h.quiet ⟨rfl,rfl,rfl,Ao _,λ_ _=>rfl⟩⟩
  have hlen:(Kr ops).length<=ops.size:=by
   have:=dz (ops:=ops) (!jQ false ops) (List.range ops.size) (Array.replicate ops.size false)
   rw [cv] at this
   exact this
  have ZZ:(Array.replicate ops.size false).size=ops.size:=by simp
  have hmv:(Em (Kr ops) (Array.replicate ops.size false)).size=ops.size:=by rw [Wm,ZZ]
  have:=cm hT (!jQ false ops) (X:=X) (P:=P) (T:=T) (Γ:=Γ) (Q:= λe a w=>e= .normal/\Q .normal a w) (n:=ops.size-(Kr ops).length) (st1:=cp) (λc a w hq=>by cases hq.1) bQ (List.range ops.size) (Array.replicate ops.size false) st a _ h1 hrel λa' w' h'=>by
   rcases h2 with h2|⟨E,st1,hE,hEn,hE1,hE2⟩
   ·exact lE hT Ot (λst' a' w' hk hr=>⟨rfl,hQ st' a' w' hk hr⟩) _ _ _ _ _ h2 h'
   ·exact xe hT Ot (λc a w hq=>by cases hq.1) (λst' a' w' hk hr=>⟨rfl,hQ st' a' w' hk hr⟩) bQ hE hEn hE1 hE2 hmv (aM _ _ _ q8) h'
  have e:(Jo (!jQ false ops) ops (List.range ops.size) (Array.replicate ops.size false)).length+(ops.size-(Kr ops).length)=ops.size:=by
   have e2:(Jo (!jQ false ops) ops (List.range ops.size) (Array.replicate ops.size false)).length=(Kr ops).length:=rfl
   omega
  rw [e] at this
  exact this
theorem OF (hT:Eb P T) (Ot:Kv P Γ) (hm:P.follows .mixedOrders=true) {Q:Exit->Act->World->Prop} {id:Nat} {draw:Bool} {st:St} {K:St->Prop} {a:Act} (h:Rel X st a w)
  (he:yN T Γ ops draw st K) (hQ: ∀st' a' w',K st'->Rel X st' a' w'->Q .normal a' w'):(Code.region id ops draw).wp P Q a w:=by
 rcases he with he|⟨dead,_,he⟩
 ·exact qM hT Ot hm h he hQ
 ·exact qM hT Ot hm h he λst' a' w' hk hr=>hQ _ a' w' hk (WV dead hr)
end
end Go.Proofs.YtkkdpknjohcekaaGreat
