/-
  Part 25 of the proof that the statement FnExactIterationNodes holds.
-/
import Derived.Test.YtfolipnappekaaaGreatCIterationNodes23
namespace Go.Proofs.YtfolipnappekaaaGreat
open Go.RowKit
section
variable {P:Program} {T:Tab} {Γ:Env} {X:Ctx} {w w':World} {π:Pi} {ops:Array Oper} {hd tl:List Nat}
structure Zs (ops:Array Oper) (tl fl:List Nat) (Ah:Array Bool):Prop where
 size:Ah.size=ops.size
 done: ∀i,i∈fl->Ah.getD i false=true
 closed: ∀j oj,ops[j]?=some oj->Ah.getD j false=true-> ∀e∈oj.after,Region.binds .any e=true->Ah.getD e.on false=true
 tail: ∀t,t∈tl->Ah.getD t true=false
theorem Zs.set {fl:List Nat} {i:Nat} {Ah:Array Bool} (inv:Zs ops tl fl Ah) (hi:i∈Region.ready .any ops Ah) (iX:i∉tl):Zs ops tl fl (Ah.setIfInBounds i true):=by
 obtain ⟨_,oi,hoi,Kf⟩:=mem_ready.1 hi
 refine ⟨by simp [inv.size],λk hk=>getD_set_true (inv.done k hk),λj oj hj hl e he hb=>?_,λt ht=>by
  have Ik:i≠t:= λe=>iX (by rw [e];exact ht)
  rw [getD_set_ne true Ik];exact inv.tail t ht⟩
 by_cases iW:i=j
 ·subst iW
  have:oj=oi:=Ba (hj.symm.trans hoi)
  subst this
  exact getD_set_true (Kf e he hb)
 ·rw [getD_set_ne false iW] at hl
  exact getD_set_true (inv.closed j oj hj hl e he hb)
theorem MH (k:Nat) (r:List Nat) (h:(r.all λt=>(k::r).any λk=>Region.waitsFor .any ops t k)=true): ∀t,t∈r-> ∃k',(k'=k\/k'∈r)/\Region.waitsFor .any ops t k'=true:= λt ht=>by
 obtain ⟨k',h1,h2⟩:=Kk.1 (Bd.1 h t ht)
 exact ⟨k',Be.1 h1,h2⟩
theorem KA {fl:List Nat} {Ah:Array Bool} (hs:vI ops hd tl=true) (inv:Zs ops tl fl Ah) (aO: ∀i,i∈hd->i<ops.size):
  ∀(d i:Nat),ops.size-i=d->i∈hd->Ah.getD i true=false-> ∀t,t∈tl->t∉Region.ready .any ops Ah:=by
 cases tl with
 |nil=>intro d i _ _ _ t ht;cases ht
 |cons f r=>
  simp only [vI,Af] at hs
  obtain ⟨fi,mU⟩:=hs
  intro d
  induction d using Nat.strongRecOn with
  |_ d ih=>
   intro i hd' hi p6 t ht hr
   obtain ⟨_,ot,hot,Kf⟩:=mem_ready.1 hr
   rcases Be.1 ht with rfl|nN
   ·have h1:=Bd.1 fi i hi
    obtain ⟨j,hj,hj2⟩:=Kk.1 h1
    simp only [Af,Nj] at hj2
    obtain ⟨oj,hoj,e,he,hb,hon⟩:=Region.waitsFor_spec hj2.2
    rcases Be.1 hj with rfl|hjh
    ·have:oj=ot:=Ba (hoj.symm.trans hot)
     subst this
     have h2:=Kf e he hb
     rw [hon,getD_both p6] at h2
     cases h2
    ·cases hl:Ah.getD j false with
     |true=>
      have h2:=inv.closed j oj hoj hl e he hb
      rw [hon,getD_both p6] at h2
      cases h2
     |false=>
      have hjs:j<Ah.size:=by rw [inv.size];exact aO j hjh
      have:=aO j hjh
      exact ih (ops.size-j) (by omega) j rfl hjh (getD_in hjs hl) t (by simp) hr
   ·obtain ⟨k',h1,h2⟩:=MH f r mU t nN
    obtain ⟨o',ho',e,he,hb,hon⟩:=Region.waitsFor_spec h2
    have:o'=ot:=Ba (ho'.symm.trans hot)
    subst this
    have h3:=Kf e he hb
    have hk:k'∈f::r:=by rcases h1 with rfl|h1<;>simp [*]
    rw [hon,getD_both (inv.tail k' hk)] at h3
    cases h3
def YW (T:Tab) (Γ:Env) (ops:Array Oper) (hd:List Nat) (L:Array Bool->St->Prop):Nat->Array Bool->St->Prop
 |0,Ah,st=>L Ah st
 |f+1,Ah,st=>
  Region.ready .any ops Ah≠ []/\ ∀i∈Region.ready .any ops Ah,i∈hd/\ ∃o v,ops[i]?=some o/\Xi T Γ ops st o=some v/\YW T Γ ops hd L f (Ah.setIfInBounds i true) (st.put o.dst v)
theorem ED (hT:Eb P T) (Pl:Kj P Γ) {Q:Exit->Act->World->Prop} {K:Act->World->Prop} {st:St} {a:Act} (h:Rel X st a w) {i:Nat} {o:Oper} {v:AV} (ho:ops[i]?=some o) (hv:Xi T Γ ops st o=some v)
  (hK: ∀a' w',Rel X (st.put o.dst v) a' w'->K a' w'):wpOp P ops Q i K a w:=by
 obtain ⟨π,h⟩:=h
 have run:Xl T Γ st o=some v->o.wp P a w K Q:= λhe=>rT (X:=X) (st':=st) (av:=v) (FM hT Pl h o v he) hK
 have skip:v= .at .skip->K (a.put o.dst undef) w:= λe=>by subst e;exact hK _ _ ⟨π,h.put o.dst JH⟩
 unfold wpOp
 simp only [ho]
 unfold Xi at hv
 split at hv
 ·rename_i hg
  rw [Ab (by simp [Region.wanted,hg])]
  exact .inl (run hv)
 ·rename_i j want hg
  split at hv
  ·rename_i b hb
   have hy:=(eY h j).1 b hb
   split at hv
   ·rename_i hbw
    rw [Ab (by simp only [Region.wanted,hg,hy];simpa using hbw)]
    exact .inl (run hv)
   ·rename_i hbw
    rw [Ag (by simp only [Region.wanted,hg,hy];simpa using hbw)]
    simp only [Aa] at hv
    exact skip hv.symm
  ·rename_i hb
   have hy:=(eY h j).2 hb
   rw [Ag (by simp [Region.wanted,hg,hy])]
   simp only [Aa] at hv
   exact skip hv.symm
  ·cases hv
theorem lU (hT:Eb P T) (Pl:Kj P Γ) {g:Nat} {L:Array Bool->St->Prop} {Q:Exit->Act->World->Prop} (hL: ∀Ah st a w,L Ah st->Rel X st a w->wpAny P .any ops Q g Ah a w):
  ∀(f:Nat) (Ah:Array Bool) (st:St) (a:Act) (w:World),YW T Γ ops hd L f Ah st->Rel X st a w->wpAny P .any ops Q (f+g) Ah a w
 |0,Ah,st,a,w,h,hr=>by rw [Bv];exact hL _ _ _ _ h hr
 |f+1,Ah,st,a,w,h,hr=>by
  rw [show f+1+g=(f+g)+1 by omega]
  refine ⟨λh0=>absurd h0 h.1,λi hi=>?_⟩
  obtain ⟨_,o,v,ho,hv,gy⟩:=h.2 i hi
  exact ED hT Pl hr ho hv λa' w' h'=>lU hT Pl hL f _ _ _ _ gy h'
theorem LN {fl:List Nat} {i:Nat} {oi:Oper} {v:AV} {L:Array Bool->St->Prop} (hi:ops[i]?=some oi) (hs:vI ops hd tl=true) (aO: ∀i,i∈hd->i<ops.size) (iX:i∈hd)
  (Kf: ∀j,j<ops.size->j∈fl\/j∈hd\/j∈tl) (GH: ∀j,j∈hd->j∉tl) (Anf: ∀Ah st,L Ah st-> ∀j∈Region.ready .any ops Ah,j∈tl):
  ∀(f:Nat) (Ah:Array Bool) (st:St),Zs ops tl fl Ah->
   (∀j oj,ops[j]?=some oj->j≠i->Ah.getD j true=false->(∀e∈oj.after,Region.binds .any e=true->e.on≠i)->oi.apart ops oj=true)->
   i∈Region.ready .any ops Ah->Xi T Γ ops st oi=some v->
   YW T Γ ops hd L f (Ah.setIfInBounds i true) (st.put oi.dst v)->YW T Γ ops hd L (f+1) Ah st:=by
 intro f
 have Ap1: ∀Ah,Zs ops tl fl Ah->i∈Region.ready .any ops Ah-> ∀j,j∈Region.ready .any ops Ah->j∈hd:=by
  intro Ah inv hr j hj
  obtain ⟨p6,oj,hoj,_⟩:=mem_ready.1 hj
  rcases Kf j (Ng.1 hoj).1 with h|h|h
  ·have h1:=inv.done j h
   rw [getD_both p6] at h1;cases h1
  ·exact h
  ·exact absurd hj (KA hs inv aO _ i rfl iX (mem_ready.1 hr).1 j h)
 induction f with
 |zero=>
  intro Ah st inv _ hr hv Hh
  refine ⟨λh=>(by rw [h] at hr;cases hr),λj hj=>?_⟩
  have hjh:=Ap1 Ah inv hr j hj
  refine ⟨hjh,?_⟩
  by_cases wR:j=i
  ·subst wR;exact ⟨oi,v,hi,hv,Hh⟩
  ·exact absurd (Anf _ _ Hh j (ready_mono hj wR)) (GH j hjh)
 |succ f ih=>
  intro Ah st inv nI hr hv Hh
  have p6:=(mem_ready.1 hr).1
  refine ⟨λh=>(by rw [h] at hr;cases hr),λj hj=>?_⟩
  have hjh:=Ap1 Ah inv hr j hj
  refine ⟨hjh,?_⟩
  by_cases wR:j=i
  ·subst wR;exact ⟨oi,v,hi,hv,Hh⟩
  ·obtain ⟨_,oj,vj,hoj,hvj,gy⟩:=Hh.2 j (ready_mono hj wR)
   obtain ⟨Ano,oj',Atn,An6⟩:=mem_ready.1 hj
   have:oj'=oj:=Ba (Atn.symm.trans hoj)
   subst this
   have uu: ∀e∈oj'.after,Region.binds .any e=true->e.on≠i:= λe he hb heq=>by
    have h1:=An6 e he hb
    rw [heq,getD_both p6] at h1
    cases h1
   obtain ⟨p1,p2,p3⟩:=Oper.apart_spec (nI j oj' hoj wR Ano uu)
   rw [KG p1] at hvj
   refine ⟨oj',vj,hoj,hvj,?_⟩
   have Aj8: ∀k ok,ops[k]?=some ok->k≠i->(Ah.setIfInBounds j true).getD k true=false->
     (∀e∈ok.after,Region.binds .any e=true->e.on≠i)->oi.apart ops ok=true:= λk ok hk hki Aop hno=>by
    refine nI k ok hk hki ?_ hno
    by_cases hjk:j=k
    ·subst hjk;exact Ano
    ·rw [getD_set_ne true hjk] at Aop;exact Aop
   refine ih (Ah.setIfInBounds j true) (st.put oj'.dst vj) (inv.set hj (GH j hjh)) Aj8 (ready_mono hr (Gf wR)) (by rw [KG p3];exact hv) ?_
   rw [Array.setIfInBounds_comm _ _ wR,<-St.put_comm st v vj p2]
   exact gy
theorem rC: ∀(l:List Nat) (Ah:Array Bool),ou ops l Ah=true-> ∀j∈Region.ready .any ops Ah,j∈l
 | [],Ah,h,j,hj=>by simp only [ou,List.isEmpty_iff] at h;rw [h] at hj;cases hj
 |k::r,Ah,h,j,hj=>by
  simp only [ou,Af,Kb,Nj] at h
  rcases h.1 with h1|h1
  ·rw [h1] at hj
   simp at hj
   simp [hj]
  ·by_cases e:j=k
   ·simp [e]
   ·exact At _ (rC r _ h.2 j (ready_mono hj e))
theorem EH {fl:List Nat} (c6:Region.noSelect ops=true) (hs:vI ops hd tl=true) (aO: ∀i,i∈hd->i<ops.size) (Kf: ∀j,j<ops.size->j∈fl\/j∈hd\/j∈tl) (GH: ∀j,j∈hd->j∉tl) (st':St):
  ∀(l:List Nat) (Ah:Array Bool) (st:St),(∀i,i∈l->i∈hd)->Zs ops tl fl Ah->pB ops tl l Ah=true->Ga T Γ ops l st=some st'->
  YW T Γ ops hd (λAX s=>ou ops tl AX=true/\s=st') l.length Ah st
 | [],Ah,st,_,_,hB,he=>by
  simp only [Ga,Aa] at he
  exact ⟨by simpa [pB] using hB,he⟩
 |k::l,Ah,st,hl,inv,hB,he=>by
  simp only [pB,Af] at hB
  obtain ⟨⟨hr,hf⟩,hB'⟩:=hB
  have hkh:=hl k (by simp)
  have dM:k∈Region.ready .any ops Ah:=by simpa using hr
  simp only [Ga] at he
  split at he
  ·cases he
  ·rename_i o ho
   split at he
   ·rename_i v hv
    exact LN ho hs aO hkh Kf GH (λAX s hL=>rC tl AX hL.1) l.length Ah st inv (Region.free_spec ho hf) dM hv
     (EH c6 hs aO Kf GH st' l _ _ (λi hi=>hl i (by simp [hi])) (inv.set dM (GH k hkh)) hB' he)
   ·cases he
theorem zV {Q:Exit->Act->World->Prop} (hQ: ∀e a w,Q e a w->e= .normal) {k i:Nat} {x:Operand} {o:Oper} (ho:ops[k]?=some o) (sQ:o.op= .extract x i) (hg:o.guard=none) {K:Act->World->Prop} {a:Act} {w:World}
  (h:wpOp P ops Q k K a w): ∃v,Yields P ops o v a/\K (a.put o.dst v) w:=by
 unfold wpOp at h
 simp only [ho] at h
 have hw:Region.wanted o (yielded ops a.tmps)=true:=by simp [Region.wanted,hg]
 rw [Ab hw] at h
 rcases h with h|⟨_,a',w',h⟩
 ·unfold Oper.wp at h
  have hr: ∀w,(execOp a.eval o).run P w=(do pure (Next.value (<-Instr.extract (a.eval x) i))).run P w:= λw=>by unfold execOp;rw [sQ]
  rw [hr] at h
  unfold Instr.extract at h hr
  split at h
  ·rename_i vs hx
   split at h
   ·rename_i v hv
    rw [hx] at hr
    simp only [hv] at hr
    exact ⟨v, .inl ⟨hw,λw=>(hr w).trans rfl⟩,h⟩
   ·exact h.elim
  ·exact h.elim
 ·cases hQ _ _ _ h
theorem dJ {Q:Exit->Act->World->Prop} (hQ: ∀e a w,Q e a w->e= .normal) (c6:Region.noSelect ops=true): ∀(l:List Nat) (Ah:Array Bool) (a:Act) (w:World),ou ops l Ah=true->wpOps P ops Q l a w->wpAny P .any ops Q l.length Ah a w
 | [],Ah,a,w,hB,h=>⟨by simpa [ou] using hB,h⟩
 |k::r,Ah,a,w,hB,h=>by
  simp only [ou,Af,Kb,Nj] at hB
  rw [wpOps_cons] at h
  rcases hB.1 with h0|⟨h1,h2,h3⟩
  ·refine ⟨λh1=>(by rw [h0] at h1;cases h1),λi hi=>?_⟩
   rw [h0] at hi
   have hik:i=k:=by simpa using hi
   subst hik
   exact wpOp_mono (λa' w' h'=>dJ hQ c6 r _ a' w' hB.2 h') h
  ·unfold Ab3 at h1
   split at h1
   ·rename_i o ho
    split at h1
    ·rename_i x i sQ hg
     obtain ⟨v,hy,hk⟩:=zV hQ ho sQ hg h
     exact wpAny_take ho c6 h3 h2 (λc a w hq=>by cases hQ _ _ _ hq) hy (dJ hQ c6 r _ _ w hB.2 hk)
    ·cases h1
   ·cases h1
theorem nE {P:Program} {o:Oper} {t:Tmp} {a:Act} (h:o.op= .move (.tmp t)) (hg:o.guard=none):Yields P ops o (a.tmps.getD t undef) a:=by
 refine .inl ⟨by simp [Region.wanted,hg],λw=>?_⟩
 unfold execOp
 rw [h]
 rfl
theorem AL {hd tl:List Nat} {i:Nat} (h:nP ops hd tl i=true): ∃o t,ops[i]?=some o/\o.op= .move (.tmp t)/\o.guard=none:=by
 unfold nP at h
 split at h
 ·rename_i o ho
  simp only [Af] at h
  have h1:=h.1
  split at h1
  ·rename_i t h2 h3
   exact ⟨o,t,ho,h2,h3⟩
  ·cases h1
 ·cases h
theorem gP {q:Bool} {hd:List Nat} {Q:Exit->Act->World->Prop} (hQ: ∀c a w,¬Q (.panic c) a w) (c6:Region.noSelect ops=true) {n:Nat} {st1:St}
  (gy: ∀Ah st a w,(∀j oj,ops[j]?=some oj->Ah.getD j false=true-> ∀e∈oj.after,Region.binds .any e=true->Ah.getD e.on false=true)->Ah.size=ops.size->pB ops tl hd Ah=true->st=st1->Rel X st a w->
   (∀j,Ah.getD j false=true↔j∈We q Γ ops)->wpAny P .any ops Q n Ah a w):
  ∀(l dn:List Nat) (Ah:Array Bool) (st:St) (a:Act) (w:World),(∀j,j∈We q Γ ops↔j∈dn\/j∈l)->(∀i,i∈l-> ∃o t,ops[i]?=some o/\o.op= .move (.tmp t)/\o.guard=none)->
   (∀j oj,ops[j]?=some oj->Ah.getD j false=true-> ∀e∈oj.after,Region.binds .any e=true->Ah.getD e.on false=true)->Ah.size=ops.size->(∀j,Ah.getD j false=true↔j∈dn)->
   nD ops tl hd l Ah=true->Ga T Γ ops l st=some st1->Rel X st a w->wpAny P .any ops Q (l.length+n) Ah a w
 | [],dn,Ah,st,a,w,hm,_,hc,aO,hdn,hf,he,hr=>by
  simp only [Ga,Aa] at he
  rw [Gd,Bv]
  exact gy Ah st a w hc aO (by simpa [nD] using hf) he hr λj=>by rw [hdn j,hm j];simp
 |k::l,dn,Ah,st,a,w,hm,hl,hc,aO,hdn,hf,he,hr=>by
  simp only [nD,Af] at hf
  obtain ⟨⟨h1,h2⟩,h3⟩:=hf
  obtain ⟨o,t,ho,sQ,hg⟩:=hl k (by simp)
  have wT:k∈Region.ready .any ops Ah:=by simpa using h1
  obtain ⟨_,o',ho',Kf⟩:=mem_ready.1 wT
  have ho2:o'=o:=Ba (ho'.symm.trans ho)
  subst ho2
  have hks:k<Ah.size:=by rw [aO];exact (Ng.1 ho).1
  simp only [Ga,ho] at he
  have hv:Xi T Γ ops st o'=some (st.get t):=by simp only [Xi,hg,Xl,Fa,sQ];rfl
  rw [hv] at he
  rw [Az,show l.length+1+n=(l.length+n)+1 by omega]
  refine wpAny_take ho c6 h2 h1 (λc a w hq=>absurd hq (hQ c _ w)) (nE sQ hg) ?_
  obtain ⟨π,hr⟩:=hr
  refine gP hQ c6 gy l (k::dn) _ _ _ _ (λj=>by rw [hm j,Be,Be];exact ⟨λh=>h.elim (λh=> .inl (.inr h)) (λh=>h.elim (λh=> .inl (.inl h)) .inr),λh=>h.elim (λh=>h.elim (λh=> .inr (.inl h)) .inl) (λh=> .inr (.inr h))⟩) (λi hi=>hl i (by simp [hi])) ?_ (by simp [aO]) (λj=>?_) h3 he ⟨π,hr.put o'.dst (hr.2.tmps t)⟩
  ·intro j oj hj YT e hem hb
   by_cases YS:k=j
   ·subst YS
    have:oj=o':=Ba (hj.symm.trans ho)
    subst this
    exact getD_set_true (Kf e hem hb)
   ·rw [getD_set_ne false YS] at YT
    exact getD_set_true (hc j oj hj YT e hem hb)
  ·by_cases YS:k=j
   ·subst YS
    refine ⟨λ_=>by simp,λ_=>?_⟩
    simp [hks]
   ·rw [getD_set_ne false YS,hdn j]
    simp [Gf YS]
theorem gw {ops:Array Oper} : ∀(a b:List Nat) (st st':St),Ga T Γ ops (a++b) st=some st'-> ∃s,Ga T Γ ops a st=some s/\Ga T Γ ops b s=some st'
 | [],b,st,st',h=>⟨st,rfl,h⟩
 |i::a,b,st,st',h=>by
  simp only [Md,Ga] at h⊢
  split at h
  ·cases h
  ·split at h
   ·exact gw a b _ st' h
   ·cases h
theorem pt (hT:Eb P T) (Pl:Kj P Γ) (hm:P.follows .mixedOrders=true) {Q:Exit->Act->World->Prop} {id:Nat} {draw:Bool} {st st':St} {a:Act} (h:Rel X st a w)
  (he:Ro T Γ ops draw st=some st') (hQ: ∀a' w',Rel X st' a' w'->Q .normal a' w'):(Code.region id ops draw).wp P Q a w:=by
 unfold Ro at he
 cases draw with
 |false=>
  rw [Ag (by simp)] at he
  exact wp_region_list (lg hT Pl ops.toList st st' a w h he hQ)
 |true=>
  rw [Ab rfl] at he
  have go: ∀(q:Bool),kz q Γ ops=true->(match Ga T Γ ops (ke q Γ ops) st with
    |some st'=>Mv T Γ ops (Jh q Γ ops) st'
    |none=>none)=some st'->(Code.region id ops true).wp P Q a w:=by
   intro q iY he
   split at he
   ·rename_i st1 h1
    simp only [kz,Af,Xd] at iY
    obtain ⟨⟨⟨c6,hlen⟩,Aj6⟩,Aoi⟩:=iY
    refine wp_mono (Q:= λe a w=>e= .normal/\Q .normal a w) ?_ λe a w h=>h.1▸h.2
    refine wp_region_any hm ?_
    have hrel:Rel X st a {w with drawn:=w.drawn+1} :=by
     obtain ⟨π,h⟩:=h
     exact ⟨π,h.quiet ⟨rfl,rfl,rfl,Ao _,λ_ _=>rfl⟩⟩
    obtain ⟨s0,h0,h1⟩:=gw _ _ _ _ h1
    have iX: ∀i,i∈cT q Γ ops->i<ops.size:= λi hi=>Gh.1 (Cm.1 hi).1
    have aO: ∀i,i∈Wg q Γ ops->i<ops.size:= λi hi=>iX i (Cm.1 hi).1
    have Kf: ∀j,j<ops.size->j∈We q Γ ops\/j∈Wg q Γ ops\/j∈Jh q Γ ops:= λj hj=>by
     by_cases ht:j∈Jh q Γ ops
     ·exact .inr (.inr ht)
     ·have hh:j∈cT q Γ ops:=Cm.2 ⟨Gh.2 hj,by simpa using ht⟩
      cases YP:nP ops (cT q Γ ops) (Jh q Γ ops) j with
      |true=>exact .inl (Cm.2 ⟨hh,YP⟩)
      |false=>exact .inr (.inl (Cm.2 ⟨hh,by rw [YP];rfl⟩))
    have Ah7: ∀j,j∈cT q Γ ops->j∉Jh q Γ ops:= λj hj=>by
     have:=(Cm.1 hj).2
     simpa using this
    have GH: ∀j,j∈Wg q Γ ops->j∉Jh q Γ ops:= λj hj=>Ah7 j (Cm.1 hj).1
    have Anc: ∀j,j∈We q Γ ops->j∉Jh q Γ ops:= λj hj=>Ah7 j (Cm.1 hj).1
    have htl: ∀t,t∈Jh q Γ ops->t<ops.size:=by
     intro t ht
     unfold Jh at ht
     have: ∀(l:List Nat) (acc:List Nat),(∀i,i∈acc->i<ops.size)->(∀i,i∈l->i<ops.size)-> ∀i,i∈l.foldl (init:=acc) (λacc i=>match ops[i]? with
       |some o=>if Abc q Γ o||o.after.any (λe=>Region.binds .any e&&acc.contains e.on) then acc++ [i] else acc
       |none=>acc)->i<ops.size:=by
      intro l
      induction l with
      |nil=>intro acc h1 _ i hi;exact h1 i hi
      |cons x l ih=>
       intro acc h1 h2 i hi
       simp only [Ig] at hi
       refine ih _ ?_ (λi hi=>h2 i (by simp [hi])) i hi
       intro k hk
       split at hk
       ·split at hk
        ·rcases Bb.1 hk with hk|hk
         ·exact h1 k hk
         ·simp at hk;rw [hk];exact h2 x (by simp)
        ·exact h1 k hk
       ·exact h1 k hk
     exact this (List.range ops.size) [] (by simp) (λi hi=>Gh.1 hi) t ht
    rw [<-hlen]
    refine gP (q:=q) (X:=X) (T:=T) (Γ:=Γ) (tl:=Jh q Γ ops) (hd:=Wg q Γ ops) (st1:=s0) (λc a w hq=>by cases hq.1) c6 ?_ (We q Γ ops) [] _ st a _ (λj=>by simp)
     (λi hi=>AL (Cm.1 hi).2) (λj oj _ hl=>(by rw [hlen,getD_replicate_false] at hl;cases hl)) (by simp [hlen]) (λj=>by rw [hlen,getD_replicate_false];simp) (by rw [hlen];exact Aj6) h0 hrel
    intro Ah s a' w' hc qT Ann hs hr YP
    subst hs
    have Aun:Zs ops (Jh q Γ ops) (We q Γ ops) Ah:=
     ⟨qT,λi hi=>(YP i).2 hi,hc,λt ht=>getD_in (by rw [qT];exact htl t ht) (by
      cases hg:Ah.getD t false with
      |false=>rfl
      |true=>exact absurd ht (Anc t ((YP t).1 hg)))⟩
    have HA:=EH (T:=T) (Γ:=Γ) c6 Aoi aO Kf GH st1 (Wg q Γ ops) _ s (λi hi=>hi) Aun Ann h1
    exact lU (X:=X) (P:=P) (Q:= λe a w=>e= .normal/\Q .normal a w) (g:=(Jh q Γ ops).length) hT Pl (λAh s a' w' hL hr=>by
     obtain ⟨Au0,rfl⟩:=hL
     exact dJ (λe a w h=>h.1) c6 (Jh q Γ ops) Ah a' w' Au0 (l9 hT Pl _ _ st' a' w' hr he λa w h=>⟨rfl,hQ a w h⟩)) _ _ _ _ _ HA hr
   ·cases he
  split at he
  ·rename_i iY;exact go false iY he
  ·split at he
   ·rename_i iY;exact go true iY he
   ·cases he
theorem dD (q:Bool): ∀(l:List Nat) (Ah:Array Bool),(Jf q ops l Ah).length<=l.length
 | [],_=>Ao _
 |i::r,Ah=>by
  simp only [Jf]
  split
  ·simp only [Az];have:=dD q r (Ah.setIfInBounds i true);omega
  ·simp only [Az];have:=dD q r Ah;omega
theorem IX (hT:Eb P T) {st:St} {a:Act} (h:Bl X π st a w) {i:Nat} {o:Oper} (ho:ops[i]?=some o) (hp:ko ops i=true) {v:AV} (hv:Xi T Γ ops st o=some v):
  ∃u,Yields P ops o u a/\Bp X w π st.heap v u:=by
 unfold ko at hp
 rw [ho] at hp
 simp only at hp
 obtain ⟨dst,op,ty,pos,af,gd⟩:=o
 split at hp
 ·rename_i t h3 h4
  simp only at h3 h4;subst h3;subst h4
  refine ⟨a.tmps.getD t undef,nE rfl rfl,?_⟩
  simp only [Xi,Xl,Fa,Aa] at hv
  subst hv
  exact h.2.tmps t
 ·rename_i x h3 h4
  simp only at h3 h4;subst h3;subst h4
  have e:=Dv h.2 x
  have fin:(∃ad,a.eval x= .pointer (some ad))->Yields P ops ⟨dst, .nilCheck x,ty,pos,af,none⟩ (a.eval x) a:= λ⟨ad,hx⟩=>
   .inl ⟨by simp [Region.wanted],λw=>by simp [execOp,hx]⟩
  simp only [Xi,Xl,Fa] at hv
  split at hv
  ·rename_i fr τ y hx
   simp only [Aa] at hv;subst hv
   rw [hx] at e
   have e':=e
   obtain ⟨cs,hc,hv⟩:=e
   simp only [Cells] at hc
   obtain ⟨g,o,rfl,_⟩:=hc
   simp only [Cf,Ty.Aq,Dh,Tt,ij] at hv
   exact ⟨_,fin ⟨_,hv⟩,e'⟩
  ·rename_i fr τ y hx
   simp only [Aa] at hv;subst hv
   rw [hx] at e
   obtain ⟨cs,hc,hv⟩:=e
   simp only [Cells] at hc
   rcases hc with ⟨h0,_⟩|⟨y',g,o,h0,rfl,hr⟩
   ·cases h0
   simp only [Aa] at h0;subst h0
   simp only [Cf,Ty.Aq,Dh,Tt,ij] at hv
   exact ⟨_,fin ⟨_,hv⟩,[_],⟨g,o,rfl,hr⟩,by rw [hv];simp [Cf,Ty.Aq]⟩
  ·rename_i l i hx
   simp only [Aa] at hv;subst hv
   rw [hx] at e
   have e':=e
   obtain ⟨r,tid,vs,_,_,hv⟩:=e
   exact ⟨_,fin ⟨_,hv⟩,e'⟩
  ·rename_i l i hx
   simp only [Aa] at hv;subst hv
   rw [hx] at e
   have e':=e
   obtain ⟨r,b,sz,n,_,_,_,_,hv⟩:=e
   exact ⟨_,fin ⟨_,hv⟩,e'⟩
  ·cases hv
 ·rename_i s x f h3 h4
  simp only at h3 h4;subst h3;subst h4
  simp only [Xi,Xl,Fa] at hv
  obtain ⟨u,h1,h2⟩:=cM hT (st:=st) _ _ _ _ v (Dv h.2 x) hv
  refine ⟨u, .inl ⟨by simp [Region.wanted],λw=>?_⟩,h2⟩
  have:=h1 w
  simp only [execOp,Sem.run_bind]
  first
   |(rw [this];rfl)
   |simp [this]
 ·cases hp
theorem BX {i:Nat} (h:AM ops i=true):ko ops i=true:=by
 unfold AM at h
 unfold ko
 split at h
 ·rename_i o ho
  split at h
  ·rename_i h1 h2
   simp only [h1,h2]
  ·cases h
 ·cases h
theorem cy (hT:Eb P T) (q:Bool) {Q:Exit->Act->World->Prop} (hQ: ∀c a w,¬Q (.panic c) a w) (c6:Region.noSelect ops=true) {n:Nat} {st1:St} :
  ∀(l:List Nat) (Ah:Array Bool) (st:St) (a:Act) (w:World),Ga T Γ ops (Jf q ops l Ah) st=some st1->Rel X st a w->
   (∀a w,Rel X st1 a w->wpAny P .any ops Q n (Fo (Jf q ops l Ah) Ah) a w)->wpAny P .any ops Q ((Jf q ops l Ah).length+n) Ah a w
 | [],Ah,st,a,w,he,hr,hK=>by
  simp only [Jf,Ga,Aa] at he
  subst he
  simp only [Jf,Gd,Bv]
  exact hK a w hr
 |k::l,Ah,st,a,w,he,hr,hK=>by
  simp only [Jf] at he hK⊢
  split
  ·rename_i hc
   rw [Ab hc] at he hK
   simp only [Af] at hc
   obtain ⟨h0,h1,h2⟩:=hc
   have hp:ko ops k=true:=by
    cases q with
    |true=>exact h0
    |false=>exact BX h0
   simp only [Ga] at he
   split at he
   ·cases he
   rename_i o ho
   split at he
   rotate_left
   ·cases he
   rename_i v hv
   obtain ⟨π,hr⟩:=hr
   obtain ⟨u,hy,hu⟩:=IX (Γ:=Γ) hT hr ho hp hv
   rw [Az,show (Jf q ops l (Ah.setIfInBounds k true)).length+1+n=((Jf q ops l (Ah.setIfInBounds k true)).length+n)+1 by omega]
   refine wpAny_take ho c6 h2 h1 (λc a w hq=>absurd hq (hQ c _ w)) hy ?_
   exact cy hT q hQ c6 l _ _ _ _ he ⟨π,hr.put o.dst hu⟩ hK
  ·rename_i hc
   rw [Ag hc] at he hK
   exact cy hT q hQ c6 l Ah st a w he hr hK
theorem lV (hT:Eb P T) (Pl:Kj P Γ) {Q:Exit->Act->World->Prop} {K:St->Prop} (hK: ∀st a w,K st->Rel X st a w->Q .normal a w):
  ∀(f:Nat) (Ah:Array Bool) (st:St) (a:Act) (w:World),anyS T Γ ops K f Ah st->Rel X st a w->wpAny P .any ops Q f Ah a w
 |0,Ah,st,a,w,h,hr=>⟨h.1,hK _ _ _ h.2 hr⟩
 |f+1,Ah,st,a,w,h,hr=>by
  refine ⟨λh0=>absurd h0 h.1,λi hi=>?_⟩
  obtain ⟨o,st',ho,he,gy⟩:=h.2 i hi
  obtain ⟨π,hr⟩:=hr
  unfold wpOp
  simp only [ho]
  exact Wc hT Pl hr o he λa' w' h'=>lV hT Pl hK f _ _ _ _ gy h'
def Ue (ops:Array Oper) (Ah:Array Bool):Prop:= ∀k a,Ah.getD k false=true->Region.waitsFor .any ops k a=true->Ah.getD a false=true
theorem cY {Ah:Array Bool} {i a:Nat} (h:i∈Region.ready .any ops Ah) (hw:Region.waitsFor .any ops i a=true):Ah.getD a false=true:=by
 obtain ⟨_,o,ho,Kf⟩:=mem_ready.1 h
 obtain ⟨o',ho',e,he,hb,rfl⟩:=Region.waitsFor_spec hw
 rw [ho] at ho'
 cases ho'
 exact Kf e he hb
theorem Ue.set {Ah:Array Bool} (hc:Ue ops Ah) {i:Nat} (hi:i∈Region.ready .any ops Ah):Ue ops (Ah.setIfInBounds i true):= λk a hk hw=>by
 by_cases hik:i=k
 ·subst hik
  exact getD_set_true (cY hi hw)
 ·rw [getD_set_ne false hik] at hk
  exact getD_set_true (hc k a hk hw)
theorem qG:Ue ops (Array.replicate ops.size false):= λk a hk _=>by
 rw [getD_replicate_false] at hk
 cases hk
theorem aW (q:Bool): ∀(l:List Nat) (Ah:Array Bool),Ue ops Ah->Ue ops (Fo (Jf q ops l Ah) Ah)
 | [],Ah,h=>h
 |i::r,Ah,h=>by
  simp only [Jf]
  split
  ·rename_i hc
   rw [Af,Af] at hc
   have hi:i∈Region.ready .any ops Ah:=by simpa using hc.2.1
   exact aW q r _ (h.set hi)
  ·exact aW q r Ah h
theorem Wj: ∀(l:List Nat) (Ah:Array Bool),(Fo l Ah).size=Ah.size
 | [],_=>rfl
 |i::r,Ah=>by simp only [Fo];rw [Wj r];simp
theorem fp: ∀(l:List Nat) (Ah:Array Bool) (k:Nat),k∈l->k<Ah.size->(Fo l Ah).getD k false=true
 |i::r,Ah,k,h,hk=>by
  simp only [Fo]
  by_cases hr:k∈r
  ·exact fp r _ k hr (by simpa using hk)
  ·have:k=i:=(Be.1 h).resolve_right hr
   subst this
   have hs: ∀(l:List Nat) (A:Array Bool),A.getD k false=true->(Fo l A).getD k false=true:=by
    intro l
    induction l with
    |nil=>exact λA h=>h
    |cons j l ih=>exact λA h=>ih _ (getD_set_true h)
   exact hs r _ (by simp [hk])
theorem dz: ∀(l:List Nat) (Ah:Array Bool) (k:Nat),k∉l->(Fo l Ah).getD k false=Ah.getD k false
 | [],_,_,_=>rfl
 |i::r,Ah,k,h=>by
  simp only [Fo]
  rw [dz r _ k λhk=>h (At _ hk),getD_set_ne false (λe=>h (by rw [e];simp))]
def Lw (E:List Nat) (Ah:Array Bool):List Nat:=E.filter λr=>!Ah.getD r false
def du (ops:Array Oper) (r:Nat):Option Tmp:=(ops[r]?).bind (·.dst)
def l8 (ops:Array Oper) (Q:List Nat):List Nat:=Q.filterMap (du ops)
def Rw (ops:Array Oper):List Nat->St->St
 | [],st=>st
 |r::Q,st=>(Rw ops Q st).put (du ops r) .undef
def TY (ops:Array Oper):List Nat->Act->Act->Prop
 | [],a,a'=>a'=a
 |r::Q,a,a'=> ∃u,TY ops Q (a.put (du ops r) u) a'
theorem Ad8 {H:List (Nat×OB)} {v:Value} :Bp X w π H .undef v:=trivial
theorem iT (s:St) (d:Option Tmp) (v:AV) (t:Nat):(d=some t->(s.put d v).get t=v\/(s.put d v).get t= .undef)/\(d≠some t->(s.put d v).get t=s.get t):=by
 cases d with
 |none=>exact ⟨λh=>(by cases h),λ_=>rfl⟩
 |some e=>
  have key:(s.put (some e) v).get t=if e=t/\t<s.tmps.length then v else s.get t:=Qs _ _ _ _ _
  refine ⟨λh=>?_,λh=>?_⟩
  ·cases h
   rw [key]
   by_cases hl:t<s.tmps.length
   ·rw [Ab ⟨rfl,hl⟩];exact .inl rfl
   ·rw [Ag (λh=>hl h.2)]
    exact .inr (by unfold St.get;rw [Ak,Fy (by omega)];rfl)
  ·rw [key,Ag]
   rintro ⟨rfl,_⟩
   exact h rfl
theorem kA (s:St) (d:Option Tmp) (v:AV):(s.put d v).heap=s.heap:=by cases d<;>rfl
theorem o9 (s:St) (d:Option Tmp) (v:AV):(s.put d v).tmps.length=s.tmps.length:=by
 cases d with
 |none=>rfl
 |some d=>exact an _ _ _
theorem Qo: ∀(Q:List Nat) (st:St),(Rw ops Q st).heap=st.heap
 | [],_=>rfl
 |r::Q,st=>by simp only [Rw];rw [kA,Qo Q]
theorem Wn: ∀(Q:List Nat) (st:St),(Rw ops Q st).tmps.length=st.tmps.length
 | [],_=>rfl
 |r::Q,st=>by simp only [Rw];rw [o9,Wn Q]
theorem Li {Q:List Nat} {t:Nat} :t∈l8 ops Q↔ ∃r∈Q,du ops r=some t:=List.mem_filterMap
theorem Rx: ∀(Q:List Nat) (st:St) (t:Nat),(t∈l8 ops Q->(Rw ops Q st).get t= .undef)/\(t∉l8 ops Q->(Rw ops Q st).get t=st.get t)
 | [],st,t=>⟨λh=>by simp [l8] at h,λ_=>rfl⟩
 |r::Q,st,t=>by
  obtain ⟨h1,h2⟩:=Rx Q st t
  obtain ⟨g1,g2⟩:=iT (Rw ops Q st) (du ops r) .undef t
  simp only [Rw]
  by_cases hd:du ops r=some t
  ·refine ⟨λ_=>(g1 hd).elim id id,λh=>absurd (Li.2 ⟨r,Iw ..,hd⟩) h⟩
  ·refine ⟨λh=>?_,λh=>?_⟩
   ·rw [g2 hd]
    obtain ⟨q,hq,he⟩:=Li.1 h
    rcases Be.1 hq with rfl|hq
    ·exact absurd he hd
    ·exact h1 (Li.2 ⟨q,hq,he⟩)
   ·rw [g2 hd]
    exact h2 λhm=>by
     obtain ⟨q,hq,he⟩:=Li.1 hm
     exact h (Li.2 ⟨q,At _ hq,he⟩)
theorem vo {st s:St} {a:Act} (h:Bl X π st a w) (hh:s.heap=st.heap) (hl:s.tmps.length=st.tmps.length) (hg: ∀t,s.get t=st.get t\/s.get t= .undef):Bl X π s a w:=by
 refine ⟨by rw [hh];exact h.1,⟨by rw [hl];exact h.2.size,h.2.defers,λt=>?_⟩⟩
 rw [hh]
 rcases hg t with e|e
 ·rw [e];exact h.2.tmps t
 ·rw [e];exact Ad8
theorem KF {st s:St} {o:Oper} (hh:s.heap=st.heap) (hg: ∀t,t∈o.looksAt ops->s.get t=st.get t):Xi T Γ ops s o=Xi T Γ ops st o:=by
 obtain ⟨ts,H⟩:=s
 obtain ⟨ts',H'⟩:=st
 simp only at hh
 subst hh
 exact zr hg
theorem rv (hT:Eb P T) (Pl:Kj P Γ) {st:St} {a:Act} (h:Bl X π st a w) {i:Nat} {o:Oper} (ho:ops[i]?=some o) (hp:kq ops i=true) {v:AV} (hv:Xi T Γ ops st o=some v):
  ∃u,(∀(Q:Exit->Act->World->Prop) (K:Act->World->Prop),K (a.put o.dst u) w->wpOp P ops Q i K a w)/\Bp X w π st.heap v u:=by
 unfold kq at hp
 rw [ho] at hp
 simp only at hp
 have hgd:o.guard=none:=by
  obtain ⟨dst,op,ty,pos,af,gd⟩:=o
  cases gd with
  |none=>rfl
  |some g=>split at hp<;>first|rfl|(rename_i h4;cases h4)|cases hp
 have hb:Xl T Γ st o=some v:=by
  unfold Xi at hv
  rw [hgd] at hv
  exact hv
 have hw:Region.wanted o (yielded ops a.tmps)=true:=by simp [Region.wanted,hgd]
 have fin: ∀s:Sem Value,execOp a.eval o=(do pure (.value (<-s)))->Fa T Γ st o=some v-> ∃u,(∀(Q:Exit->Act->World->Prop) (K:Act->World->Prop),K (a.put o.dst u) w->wpOp P ops Q i K a w)/\Bp X w π st.heap v u:=by
  intro s he hq
  have hg:=iH hT Pl h o v hq
  rw [he,Sem.run_bind] at hg
  cases hr:s.run P w with
  |ok u w'=>
   rw [hr] at hg
   obtain ⟨e,hu⟩:=(show w'=w/\Bp X w π st.heap v u from hg)
   subst e
   refine ⟨u,λQ K hK=>?_,hu⟩
   unfold wpOp
   simp only [ho]
   rw [Ab hw]
   refine .inl ?_
   unfold Oper.wp
   rw [he,Sem.run_bind,hr]
   exact hK
  |halt x w'=>rw [hr] at hg;exact hg.elim
 obtain ⟨dst,op,ty,pos,af,gd⟩:=o
 simp only at hgd
 subst hgd
 split at hp
 ·rename_i x h3 h4
  simp only at h3;subst h3
  exact fin (pure (a.eval x)) (by simp [execOp]) hb
 ·rename_i x h3 h4
  simp only at h3;subst h3
  exact fin _ rfl hb
 ·rename_i x h3 h4
  simp only at h3;subst h3
  exact fin _ rfl hb
 ·rename_i x h3 h4
  simp only at h3;subst h3
  exact fin _ rfl hb
 ·cases hp
theorem YK {j:Nat} {oi oj:Oper} {v:Value} (hj:ops[j]?=some oj) (hap:oi.apart ops oj=true) (hsj: ∀cs b,oj.op≠ .select cs b)
  {Q:Exit->Act->World->Prop} (hQ: ∀c a w,¬Q (.panic c) a w) {K:Act->World->Prop} {a:Act} {w:World} (h:wpOp P ops Q j K (a.put oi.dst v) w):
  wpOp P ops Q j (λa' w'=>K (a'.put oi.dst v) w') a w:=by
 obtain ⟨h1,h2,h3⟩:=Oper.apart_spec hap
 unfold wpOp at*
 simp only [hj] at*
 rw [wanted_put oj a oi.dst v h1] at h
 split
 ·rename_i hw
  simp only [hw,Pn] at h
  rcases h with h|⟨Ah2,Anq⟩
  case inr=>exact .inr ⟨by unfold Oper.asks at*;rw [execOp_put oj hsj a oi.dst v h1] at Ah2;exact Ah2,Anq⟩
  refine .inl ?_
  unfold Oper.wp at*
  rw [execOp_put oj hsj a oi.dst v h1] at h
  generalize (execOp a.eval oj).run P w=r at*
  cases r with
  |ok n w'=>
   cases n<;>simp only [Oper.upon] at h⊢
   case value u=>rw [<-Act.put_comm a v u h2];exact h
   case skip=>rw [<-Act.put_comm a v undef h2];exact h
   case defer d=>
    rw [<-Act.put_comm _ v undef h2,<-Act.put_defers]
    exact h
   case enter f args=>
    refine Calls.mono h λe rS he=>?_
    cases e with
    |returned u=>show K ((a.put oj.dst u).put oi.dst v) rS;rw [<-Act.put_comm a v u h2];exact he
    |panicked c=>exact absurd he (hQ _ _ _)
    |outgrown=>exact he
   case row row args=>exact Rows.mono h λu rS he=>by rw [<-Act.put_comm a v u h2];exact he
  |halt x w'=>
   cases x<;>simp only [Oper.upon] at h⊢
   case panic u=>exact absurd h (hQ _ _ _)
 ·rename_i hw
  simp only [hw] at h
  rw [<-Act.put_comm a v undef h2];exact h
theorem z8: ∀ {Q:List Nat} {a a':Act},TY ops Q a a'->a'.defers=a.defers/\a'.tmps.size=a.tmps.size/\ ∀t,t∉l8 ops Q->a'.tmps.getD t undef=a.tmps.getD t undef
 | [],a,a',h=>by cases h;exact ⟨rfl,rfl,λ_ _=>rfl⟩
 |r::Q,a,a',⟨u,h⟩=>by
  obtain ⟨h1,h2,h3⟩:=z8 h
  have hp:(a.put (du ops r) u).defers=a.defers/\(a.put (du ops r) u).tmps.size=a.tmps.size:=by cases du ops r<;>simp [Act.put]
  refine ⟨h1.trans hp.1,h2.trans hp.2,λt ht=>?_⟩
  have hn:du ops r≠some t:= λe=>ht (Li.2 ⟨r,Iw ..,e⟩)
  rw [h3 t λhm=>ht (by obtain ⟨q,hq,he⟩:=Li.1 hm;exact Li.2 ⟨q,At _ hq,he⟩)]
  cases hd:du ops r with
  |none=>rfl
  |some d=>
   have Ik:d≠t:= λe=>hn (by rw [hd,e])
   simp [Act.put,Array.getElem?_setIfInBounds_ne Ik]
theorem Ac6 {Q:List Nat} {st:St} {a a':Act} (hp:TY ops Q a a') (h:Bl X π st a' w):Bl X π (Rw ops Q st) a w:=by
 obtain ⟨h1,h2,h3⟩:=z8 hp
 refine ⟨by rw [Qo];exact h.1,⟨by rw [Wn,<-h2];exact h.2.size,by rw [<-h1];exact h.2.defers,λt=>?_⟩⟩
 rw [Qo]
 by_cases ht:t∈l8 ops Q
 ·rw [(Rx Q st t).1 ht];exact Ad8
 ·rw [(Rx Q st t).2 ht,<-h3 t ht];exact h.2.tmps t
theorem zv {j:Nat} {oj:Oper} (hj:ops[j]?=some oj) (hsj: ∀cs b,oj.op≠ .select cs b) {Q:Exit->Act->World->Prop} (hQ: ∀c a w,¬Q (.panic c) a w) {K:Act->World->Prop} :
  ∀(L:List Nat) (a a':Act) (w:World),(∀r∈L,∃o,ops[r]?=some o/\o.apart ops oj=true)->TY ops L a a'->wpOp P ops Q j K a' w->wpOp P ops Q j (λa2 w2=> ∃a3,TY ops L a2 a3/\K a3 w2) a w
 | [],a,a',w,_,hp,h=>by cases hp;exact wpOp_mono (λa2 w2 hk=>⟨a2,rfl,hk⟩) h
 |r::L,a,a',w,hap,⟨u,hp⟩,h=>by
  obtain ⟨o,ho,ha⟩:=hap r (Iw ..)
  have hd:du ops r=o.dst:=by unfold du;rw [ho];rfl
  rw [hd] at hp
  have ih:=zv hj hsj hQ L _ a' w (λq hq=>hap q (At _ hq)) hp h
  exact wpOp_mono (λa2 w2 ⟨a3,h1,h2⟩=>⟨a3,⟨u,by rw [hd];exact h1⟩,h2⟩) (YK hj ha hsj hQ ih)
def LO (ops:Array Oper):List Nat->Prop
 | []=>True
 |r::L=>(∀q∈r::L,∀o d,ops[r]?=some o->du ops q=some d->d∉o.looksAt ops)/\(∀q∈L,∀d,du ops r=some d->du ops q≠some d)/\LO ops L
def ye (ops:Array Oper):List Nat->Prop
 | []=>True
 |r::L=>(∀q∈L,Region.waitsFor .any ops q r=true\/ ∀o d,ops[q]?=some o->du ops r=some d->d∉o.looksAt ops)/\ye ops L
theorem LO.filter {p:Nat->Bool} : ∀ {L:List Nat},LO ops L->LO ops (L.filter p)
 | [],_=>trivial
 |r::L,⟨h1,h2,h3⟩=>by
  rw [List.filter_cons]
  split
  ·exact ⟨λq hq=>h1 q (by rcases Be.1 hq with rfl|hq;exact Iw ..;exact At _ (Cm.1 hq).1),λq hq=>h2 q (Cm.1 hq).1,h3.filter⟩
  ·exact h3.filter
theorem ye.filter {p:Nat->Bool} : ∀ {L:List Nat},ye ops L->ye ops (L.filter p)
 | [],_=>trivial
 |r::L,⟨h1,h3⟩=>by
  rw [List.filter_cons]
  split
  ·exact ⟨λq hq=>h1 q (Cm.1 hq).1,h3.filter⟩
  ·exact h3.filter
theorem aq {i j:Nat} {p:Oper->Oper->Bool} (h:qx ops i j p=true): ∃x y,ops[i]?=some x/\ops[j]?=some y/\p x y=true:=by
 unfold qx at h
 split at h
 ·rename_i x y h1 h2;exact ⟨x,y,h1,h2,h⟩
 ·cases h
theorem fZ {x y:Oper} (h:oT ops x y=true): ∀d,x.dst=some d->d∉y.looksAt ops:= λd hd=>by
 unfold oT at h
 rw [hd] at h
 simpa using h
theorem FL {x y:Oper} (h:MO x y=true): ∀d,x.dst=some d->y.dst≠some d:= λd hd=>by
 unfold MO at h
 rw [hd] at h
 simpa using h
theorem cL {r:Nat} {o:Oper} (h:ops[r]?=some o):du ops r=o.dst:=by unfold du;rw [h];rfl
theorem rk: ∀ {E:List Nat},BT ops E=true->LO ops E/\ye ops E
 | [],_=>⟨trivial,trivial⟩
 |r::E,h=>by
  simp only [BT,Af,Bd] at h
  obtain ⟨⟨h1,h2⟩,h3⟩:=h
  obtain ⟨g1,g2⟩:=rk h3
  refine ⟨⟨λq hq o d ho hd=>?_,λq hq d hd=>?_,g1⟩,λq hq=>?_,g2⟩
  ·rcases Be.1 hq with rfl|hq
   ·obtain ⟨x,y,hx,hy,hp⟩:=aq h1
    rw [ho] at hx hy;cases hx;cases hy
    rw [cL ho] at hd
    exact fZ hp d hd
   ·obtain ⟨x,y,hx,hy,hp⟩:=aq (h2 q hq).1
    rw [ho] at hx;cases hx
    rw [cL hy] at hd
    exact fZ (Gm.1 hp).2 d hd
  ·obtain ⟨x,y,hx,hy,hp⟩:=aq (h2 q hq).1
   rw [cL hx] at hd
   rw [cL hy]
   exact FL (Gm.1 hp).1 d hd
  ·have h4:=(h2 q hq).2
   rw [Kb] at h4
   rcases h4 with h4|h4
   ·exact .inl h4
   ·refine .inr λo d ho hd=>?_
    obtain ⟨x,y,hx,hy,hp⟩:=aq h4
    rw [ho] at hy;cases hy
    rw [cL hx] at hd
    exact fZ hp d hd
theorem Agq (hT:Eb P T) (Pl:Kj P Γ) {st:St} : ∀(L:List Nat) (a:Act),(∀r∈L,kq ops r=true/\ ∃o v,ops[r]?=some o/\Xi T Γ ops st o=some v/\ ∀d,o.dst=some d->st.get d=v)->LO ops L->
  Bl X π (Rw ops L st) a w-> ∃a',TY ops L a a'/\Bl X π st a' w
 | [],a,_,_,h=>⟨a,rfl,h⟩
 |r::L,a,hs,⟨f1,f2,f3⟩,h=>by
  obtain ⟨hr,o,v,ho,hv,hd⟩:=hs r (Iw ..)
  have hdo:=cL ho
  have wU:Xi T Γ ops (Rw ops (r::L) st) o=some v:=by
   rw [KF (st:=st) (Qo _ _) λt ht=>(Rx _ _ _).2 λhm=>by
    obtain ⟨q,hq,he⟩:=Li.1 hm
    exact f1 q hq o t ho he ht]
   exact hv
  obtain ⟨u,_,hu⟩:=rv hT Pl h ho hr wU
  have h2:=h.put o.dst hu
  have h3:Bl X π (Rw ops L st) (a.put o.dst u) w:=by
   refine vo h2 ?_ ?_ λt=>?_
   ·rw [kA,Qo,Qo]
   ·rw [o9,Wn,Wn]
   ·obtain ⟨g1,g2⟩:=iT (Rw ops (r::L) st) o.dst v t
    by_cases he:o.dst=some t
    ·have SM:t∉l8 ops L:= λhm=>by
      obtain ⟨q,hq,hqe⟩:=Li.1 hm
      exact f2 q hq t (by rw [hdo];exact he) hqe
     rw [(Rx L st t).2 SM,hd t he]
     rcases g1 he with g|g
     ·exact .inl g.symm
     ·by_cases hl:t<st.tmps.length
      ·refine .inl ?_
       rw [he]
       show v=((Su (Rw ops (r::L) st).tmps t v).getD t .undef)
       rw [Qs,Ab ⟨rfl,by rw [Wn];exact hl⟩]
      ·refine .inr ?_
       rw [<-hd t he]
       unfold St.get
       rw [Ak,Fy (by omega)]
       rfl
    ·rw [g2 he]
     have:(Rw ops (r::L) st).get t=(Rw ops L st).get t:=(iT (Rw ops L st) (du ops r) .undef t).2 (by rw [hdo];exact he)
     exact .inl this.symm
  obtain ⟨a',hp,gV⟩:=Agq hT Pl L _ (λq hq=>hs q (At _ hq)) f3 h3
  exact ⟨a',⟨u,by rw [hdo];exact hp⟩,gV⟩
theorem ZU: ∀ {L:List Nat},LO ops L->ye ops L-> ∀ {i:Nat} {o:Oper},i∈L->ops[i]?=some o->(∀q∈L,Region.waitsFor .any ops i q=true->False)-> ∀q∈L,∀d,du ops q=some d->d∉o.looksAt ops
 | [],_,_,i,_,hi,_,_=>by cases hi
 |r::L,⟨f1,f2,f3⟩,⟨b1,b2⟩,i,o,hi,ho,hw=> λq hq d hd=>by
  by_cases hir:i=r
  ·subst hir
   exact f1 q hq o d ho hd
  ·have nK:=(Be.1 hi).resolve_left hir
   rcases Be.1 hq with rfl|kU
   ·rcases b1 i nK with h|h
    ·exact (hw q hq h).elim
    ·exact h o d ho hd
   ·exact ZU f3 b2 nK ho (λq hq=>hw q (At _ hq)) q kU d hd
theorem qK {Ah:Array Bool} (aO:Ah.size=ops.size): ∀ {E:List Nat} {L:Array Bool} {r:Nat} {Q:List Nat},jn ops E L=true->(∀j,L.getD j false=true->Ah.getD j false=true)->Lw E Ah=r::Q->r∈Region.ready .any ops Ah
 | [],_,_,_,_,_,h=>by simp [Lw] at h
 |e::E,L,r,Q,hr,hl,hp=>by
  simp only [jn,Af,Jk] at hr
  unfold Lw at hp
  rw [List.filter_cons] at hp
  by_cases he:Ah.getD e false=true
  ·rw [Ag (by rw [he];simp)] at hp
   refine qK aO hr.2 (λj hj=>?_) hp
   by_cases hej:e=j
   ·subst hej;exact he
   ·rw [getD_set_ne false hej] at hj;exact hl j hj
  ·have he:Ah.getD e false=false:=by simpa using he
   rw [Ab (by rw [he];rfl)] at hp
   injection hp with yE SP
   subst yE
   obtain ⟨_,o,ho,Kf⟩:=mem_ready.1 hr.1
   have It:e<Ah.size:=by rw [aO];exact (Ng.1 ho).1
   exact mem_ready.2 ⟨getD_in It he,o,ho,λx hx hb=>hl _ (Kf x hx hb)⟩
theorem eB {Ah:Array Bool} {j:Nat} (h:Ah.getD j true=false):j<Ah.size:=by
 rcases Nat.lt_or_ge j Ah.size with h'|h'
 ·exact h'
 ·simp [Array.getElem?_eq_none h'] at h
theorem yd (hT:Eb P T) (Pl:Kj P Γ) {Q:Exit->Act->World->Prop} (hQ: ∀c a w,¬Q (.panic c) a w) {K:St->Prop} (hK: ∀st a w,K st->Rel X st a w->Q .normal a w) (c6:Region.noSelect ops=true)
  {E:List Nat} {L0:Array Bool} (hE:kB ops E L0=true): ∀(n f:Nat) (Ah LA:Array Bool) (st:St) (a:Act) (w:World),n=f+(Lw E Ah).length->Ah.size=ops.size->LA.size=ops.size->
   (∀j,LA.getD j false=(Ah.getD j false||E.contains j))->Ue ops Ah->(∀j,L0.getD j false=true->Ah.getD j false=true)->wH T Γ ops E K f LA st->Rel X (Rw ops (Lw E Ah) st) a w->wpAny P .any ops Q n Ah a w:=by
 simp only [kB,Af,Bd] at hE
 obtain ⟨⟨hre,hry⟩,hpr,hap⟩:=hE
 obtain ⟨Ani,qP⟩:=rk hpr
 have key: ∀(n f:Nat) (Ah LA:Array Bool) (st:St) (a:Act) (w:World),n=f+(Lw E Ah).length->Ah.size=ops.size->LA.size=ops.size->
   (∀j,LA.getD j false=(Ah.getD j false||E.contains j))->Ue ops Ah->(∀j,L0.getD j false=true->Ah.getD j false=true)->wH T Γ ops E K f LA st->Rel X (Rw ops (Lw E Ah) st) a w->
   (∀j,j∈Region.ready .any ops Ah->j∉E->j∈Region.ready .any ops LA)/\(Region.ready .any ops Ah= []->Q .normal a w/\f=0/\Lw E Ah= []):=by
  intro n f Ah LA st a w hn fi mU hLA Pe hL0 ue hrel
  have h1: ∀j,j∈Region.ready .any ops Ah->j∉E->j∈Region.ready .any ops LA:= λj hj hjE=>by
   obtain ⟨p6,o,ho,Kf⟩:=mem_ready.1 hj
   have It:=eB p6
   refine mem_ready.2 ⟨getD_in (by omega) ?_,o,ho,λe he hb=>by rw [hLA,Kf e he hb];rfl⟩
   rw [hLA,getD_both p6]
   simpa using hjE
  refine ⟨h1,λh0=>?_⟩
  cases hpe:Lw E Ah with
  |cons r L=>
   have:=qK fi hry hL0 hpe
   rw [h0] at this
   cases this
  |nil=>
   have Kf: ∀r,r∈E->Ah.getD r false=true:= λr hr=>by
    have:r∉Lw E Ah:=by rw [hpe];simp
    unfold Lw at this
    rw [Cm] at this
    by_cases hl:Ah.getD r false=true
    ·exact hl
    ·exact absurd ⟨hr,by simpa using hl⟩ this
   have hb: ∀j,j∈Region.ready .any ops LA->j∈Region.ready .any ops Ah:= λj hj=>by
    obtain ⟨p6,o,ho,hw⟩:=mem_ready.1 hj
    have It:=eB p6
    have he: ∀k,LA.getD k false=Ah.getD k false:= λk=>by
     rw [hLA]
     by_cases hk:k∈E
     ·rw [Kf k hk];rfl
     ·rw [show E.contains k=false by simpa using hk,gY]
    exact mem_ready.2 ⟨getD_in (by omega) (by rw [<-he];exact getD_both p6),o,ho,λe hx hbd=>by rw [<-he];exact hw e hx hbd⟩
   cases f with
   |zero=>
    obtain ⟨_,_,hk⟩:=ue
    rw [hpe] at hrel
    exact ⟨hK _ _ _ hk hrel,rfl,rfl⟩
   |succ f=>
    obtain ⟨_,Ik,_⟩:=ue
    obtain ⟨j,hj⟩:=List.exists_mem_of_ne_nil _ Ik
    have:=hb j hj
    rw [h0] at this
    cases this
 intro n
 induction n with
 |zero=>
  intro f Ah LA st a w hn fi mU hLA Pe hL0 ue hrel
  obtain ⟨k1,k2⟩:=key 0 f Ah LA st a w hn fi mU hLA Pe hL0 ue hrel
  have hf:f=0:=by omega
  have hp:Lw E Ah= []:=List.length_eq_zero_iff.1 (by omega)
  subst hf
  obtain ⟨_,hr,_⟩:=ue
  have h0:Region.ready .any ops Ah= []:=List.eq_nil_iff_forall_not_mem.2 λj hj=>by
   by_cases hjE:j∈E
   ·have p6:=getD_both (mem_ready.1 hj).1
    have:j∈Lw E Ah:=Cm.2 ⟨hjE,by rw [p6];rfl⟩
    rw [hp] at this
    cases this
   ·have:=k1 j hj hjE
    rw [hr] at this
    cases this
  exact ⟨h0,(k2 h0).1⟩
 |succ n ih=>
  intro f Ah LA st a w hn fi mU hLA Pe hL0 ue hrel
  obtain ⟨k1,k2⟩:=key (n+1) f Ah LA st a w hn fi mU hLA Pe hL0 ue hrel
  have Ts:Acf T Γ ops E LA st:=by cases f<;>exact ue.1
  have Aaf: ∀r∈Lw E Ah,r∈E/\Ah.getD r false=false:= λr hr=>by
   obtain ⟨h1,h2⟩:=Cm.1 hr
   exact ⟨h1,by simpa using h2⟩
  have Aht: ∀r∈Lw E Ah,kq ops r=true/\ ∃o v,ops[r]?=some o/\Xi T Γ ops st o=some v/\ ∀d,o.dst=some d->st.get d=v:= λr hr=>by
   obtain ⟨h1,h2⟩:=Aaf r hr
   refine ⟨hre r h1,(Ts r h1).resolve_left λhw=>?_⟩
   unfold tf at hw
   obtain ⟨j,_,hj⟩:=Kk.1 hw
   simp only [Af,Eg] at hj
   obtain ⟨hj1,hj2,hj3⟩:=hj
   rw [hLA,hj1,gY] at hj2
   have:=Pe j r hj2 hj3
   rw [h2] at this
   cases this
  refine ⟨λh0=>(k2 h0).1,λi hi=>?_⟩
  obtain ⟨π,hrel⟩:=hrel
  have hiw: ∀q∈Lw E Ah,Region.waitsFor .any ops i q=true->False:= λq hq hw=>by
   have:=cY hi hw
   rw [(Aaf q hq).2] at this
   cases this
  obtain ⟨p6,oi,hoi,_⟩:=mem_ready.1 hi
  have It:=eB p6
  by_cases hiE:i∈E
  ·have YR:i∈Lw E Ah:=Cm.2 ⟨hiE,by rw [getD_both p6];rfl⟩
   obtain ⟨hrd,o,v,ho,hv,hd⟩:=Aht i YR
   have hnl:=ZU (Ani.filter (p:= λr=>!Ah.getD r false)) (qP.filter (p:= λr=>!Ah.getD r false)) YR ho hiw
   have wU:Xi T Γ ops (Rw ops (Lw E Ah) st) o=some v:=by
    rw [KF (st:=st) (Qo _ _) λt ht=>(Rx _ _ _).2 λhm=>by
     obtain ⟨q,hq,he⟩:=Li.1 hm
     exact hnl q hq t he ht]
    exact hv
   obtain ⟨u,hy,hu⟩:=rv hT Pl hrel ho hrd wU
   refine hy Q _ ?_
   have hpe: ∀q,q∈Lw E (Ah.setIfInBounds i true)↔q∈Lw E Ah/\q≠i:= λq=>by
    unfold Lw
    rw [Cm,Cm]
    by_cases hqi:q=i
    ·subst hqi
     simp [It]
    ·rw [getD_set_ne false (Gf hqi)]
     exact ⟨λh=>⟨h,hqi⟩,λh=>h.1⟩
   have hlen:(Lw E Ah).length=(Lw E (Ah.setIfInBounds i true)).length+1:=by
    have SM: ∀(E:List Nat) (L:Array Bool),jn ops E L=true->E.Nodup/\ ∀r∈E,L.getD r true=false:=by
     intro E
     induction E with
     |nil=>exact λL _=>⟨Nh,λr hr=>by cases hr⟩
     |cons e E ihE=>
      intro L h
      simp only [jn,Af,Jk] at h
      obtain ⟨g1,g2⟩:=ihE _ h.2
      have he:=(mem_ready.1 h.1).1
      have lq:=eB he
      refine ⟨Cd.2 ⟨λhm=>?_,g1⟩,λr hr=>?_⟩
      ·have:=g2 e hm
       simp [lq] at this
      ·rcases Be.1 hr with rfl|hr
       ·exact he
       ·have Ik:e≠r:= λe'=>by subst e';have:=g2 e hr;simp [lq] at this
        have:=g2 r hr
        rw [getD_set_ne true Ik] at this
        exact this
    have hEn:=(SM E L0 hry).1
    have Aup: ∀L:List Nat,L.Nodup->i∈L->(L.filter λr=>!Ah.getD r false).length=(L.filter λr=>!(Ah.setIfInBounds i true).getD r false).length+1:=by
     intro L
     induction L with
     |nil=>exact λ_ h=>by cases h
     |cons x L ihL=>
      intro hn hm
      obtain ⟨hx,hn⟩:=Cd.1 hn
      rw [List.filter_cons,List.filter_cons]
      by_cases hxi:x=i
      ·subst hxi
       rw [Ab (by rw [getD_both p6];rfl),Ag (by simp [It])]
       have:L.filter (λr=>!Ah.getD r false)=L.filter (λr=>!(Ah.setIfInBounds x true).getD r false):=List.filter_congr λq hq=>by
        rw [getD_set_ne false (λe=>hx (by rw [e];exact hq))]
       rw [Az,this]
      ·have hm:=(Be.1 hm).resolve_left (Gf hxi)
       rw [getD_set_ne false (Gf hxi)]
       split
       ·rw [Az,Az,ihL hn hm]
       ·exact ihL hn hm
    exact Aup E hEn hiE
   refine ih f (Ah.setIfInBounds i true) LA st _ w (by omega) (by simp [fi]) mU (λj=>?_) (Pe.set hi) (λj hj=>getD_set_true (hL0 j hj)) ue ⟨π,?_⟩
   ·rw [hLA]
    by_cases iW:i=j
    ·subst iW
     rw [show E.contains i=true by simpa using hiE,Bool.or_true,Bool.or_true]
    ·rw [getD_set_ne false iW]
   ·have h2:=hrel.put o.dst hu
    refine vo h2 ?_ ?_ λt=>?_
    ·rw [kA,Qo,Qo]
    ·rw [o9,Wn,Wn]
    ·have hdo:=cL ho
     by_cases hm:t∈l8 ops (Lw E (Ah.setIfInBounds i true))
     ·exact .inr ((Rx _ _ _).1 hm)
     ·rw [(Rx _ _ _).2 hm]
      obtain ⟨g1,g2⟩:=iT (Rw ops (Lw E Ah) st) o.dst v t
      by_cases he:o.dst=some t
      ·rw [hd t he]
       rcases g1 he with g|g
       ·exact .inl g.symm
       ·by_cases hl:t<st.tmps.length
        ·refine .inl ?_
         rw [he]
         show v=((Su (Rw ops (Lw E Ah) st).tmps t v).getD t .undef)
         rw [Qs,Ab ⟨rfl,by rw [Wn];exact hl⟩]
        ·refine .inr ?_
         rw [<-hd t he]
         unfold St.get
         rw [Ak,Fy (by omega)]
         rfl
      ·rw [g2 he]
       refine .inl ((Rx _ _ _).2 λhm2=>?_).symm
       obtain ⟨q,hq,hqe⟩:=Li.1 hm2
       by_cases hqi:q=i
       ·subst hqi
        rw [hdo] at hqe
        exact he hqe
       ·exact hm (Li.2 ⟨q,(hpe q).2 ⟨hq,hqi⟩,hqe⟩)
  ·cases f with
   |zero=>
    obtain ⟨_,hr,_⟩:=ue
    have:=k1 i hi hiE
    rw [hr] at this
    cases this
   |succ f=>
    obtain ⟨_,_,Anv⟩:=ue
    obtain ⟨o,st',ho,he,gy⟩:=Anv i (k1 i hi hiE)
    obtain ⟨a',Aaj,Zz⟩:=Agq hT Pl (Lw E Ah) a Aht Ani.filter hrel
    have lu:wpOp P ops Q i (λa2 w2=>Rel X st' a2 w2) a' w:=by
     unfold wpOp
     simp only [ho]
     exact Wc hT Pl Zz o he λa2 w2 h2=>h2
    have GJ:=zv (Q:=Q) ho (λcs b=>Region.noSelect_spec c6 i o cs b ho) hQ (Lw E Ah) a a' w (λr hr=>?_) Aaj lu
    ·refine wpOp_mono (λa2 w2 hk=>?_) GJ
     obtain ⟨a3,hp3,π3,hr3⟩:=hk
     have hpe:Lw E (Ah.setIfInBounds i true)=Lw E Ah:=by
      unfold Lw
      refine List.filter_congr λq hq=>?_
      rw [getD_set_ne false (λe=>hiE (by rw [e];exact hq))]
     refine ih f (Ah.setIfInBounds i true) (LA.setIfInBounds i true) st' a2 w2 (by rw [hpe];omega) (by simp [fi]) (by simp [mU]) (λj=>?_) (Pe.set hi) (λj hj=>getD_set_true (hL0 j hj)) gy ⟨π3,by rw [hpe];exact Ac6 hp3 hr3⟩
     by_cases iW:i=j
     ·subst iW
      simp [It,fi▸It,mU]
     ·rw [getD_set_ne false iW,getD_set_ne false iW,hLA]
    ·obtain ⟨hrE,hrl⟩:=Aaf r hr
     have h3:=Bd.1 (Bd.1 hap r hrE) i (Gh.2 (by omega))
     simp only [Kb] at h3
     rcases h3 with ((h3|h3)|h3)|h3
     ·exact absurd (by simpa using h3) hiE
     ·have:=hL0 i h3
      rw [getD_both p6] at this
      cases this
     ·exact (hiw r hr h3).elim
     ·obtain ⟨x,y,hx,hy,hp⟩:=aq h3
      rw [ho] at hy;cases hy
      exact ⟨x,hx,hp⟩
theorem nA: ∀(E:List Nat) (s0 s1:St),Ga T Γ ops E s0=some s1->s1.heap=s0.heap/\s1.tmps.length=s0.tmps.length/\ ∀t,t∉l8 ops E->s1.get t=s0.get t
 | [],s0,s1,h=>by
  simp only [Ga,Aa] at h
  subst h
  exact ⟨rfl,rfl,λ_ _=>rfl⟩
 |r::E,s0,s1,h=>by
  simp only [Ga] at h
  split at h
  ·cases h
  rename_i o ho
  split at h
  rotate_left
  ·cases h
  rename_i v hv
  obtain ⟨h1,h2,h3⟩:=nA E _ _ h
  refine ⟨by rw [h1,kA],by rw [h2,o9],λt ht=>?_⟩
  rw [h3 t λhm=>ht (by obtain ⟨q,hq,he⟩:=Li.1 hm;exact Li.2 ⟨q,At _ hq,he⟩)]
  exact (iT s0 o.dst v t).2 λe=>ht (Li.2 ⟨r,Iw ..,by rw [cL ho];exact e⟩)
theorem yY: ∀ {E:List Nat} {L0:Array Bool},jn ops E L0=true-> ∀r∈E,L0.getD r true=false
 | [],_,_,_,hr=>by cases hr
 |e::E,L0,h,r,hr=>by
  simp only [jn,Af,Jk] at h
  have he:=(mem_ready.1 h.1).1
  rcases Be.1 hr with rfl|hr
  ·exact he
  ·have h2:=yY h.2 r hr
   have Ik:e≠r:= λe'=>by subst e';simp [eB he] at h2
   rw [getD_set_ne true Ik] at h2
   exact h2
theorem yc (hT:Eb P T) (Pl:Kj P Γ) {Q:Exit->Act->World->Prop} (hQ: ∀c a w,¬Q (.panic c) a w) {K:St->Prop} (hK: ∀st a w,K st->Rel X st a w->Q .normal a w) (c6:Region.noSelect ops=true)
  {E:List Nat} {L0:Array Bool} (hE:kB ops E L0=true) {n:Nat} (hn:E.length<=n) {cA st1:St} (h1:Ga T Γ ops E cA=some st1) (h2:wH T Γ ops E K (n-E.length) (Fo E L0) st1)
  (aO:L0.size=ops.size) (Pe:Ue ops L0) {a:Act} {w:World} (hr:Rel X cA a w):wpAny P .any ops Q n L0 a w:=by
 have hE':=hE
 simp only [kB,Af] at hE'
 have p6:=yY hE'.1.2
 have hp:Lw E L0=E:=List.filter_eq_self.2 λr hr=>by rw [getD_both (p6 r hr)];rfl
 refine yd hT Pl hQ hK c6 hE n (n-E.length) L0 (Fo E L0) st1 a w (by rw [hp];omega) aO (by rw [Wj];exact aO) (λj=>?_) Pe (λj hj=>hj) h2 ?_
 ·by_cases hj:j∈E
  ·rw [fp E L0 j hj (eB (p6 j hj)),show E.contains j=true by simpa using hj,Bool.or_true]
  ·rw [dz E L0 j hj,show E.contains j=false by simpa using hj,gY]
 ·obtain ⟨π,hr⟩:=hr
  obtain ⟨g1,g2,g3⟩:=nA E _ _ h1
  refine ⟨π,vo hr (by rw [Qo,g1]) (by rw [Wn,g2]) λt=>?_⟩
  rw [hp]
  by_cases ht:t∈l8 ops E
  ·exact .inr ((Rx _ _ _).1 ht)
  ·exact .inl (((Rx _ _ _).2 ht).trans (g3 t ht))
theorem PJ (hT:Eb P T) (Pl:Kj P Γ) (hm:P.follows .mixedOrders=true) {Q:Exit->Act->World->Prop} {id:Nat} {draw:Bool} {st:St} {K:St->Prop} {a:Act} (h:Rel X st a w)
  (he:zA T Γ ops draw st K) (hQ: ∀st' a' w',K st'->Rel X st' a' w'->Q .normal a' w'):(Code.region id ops draw).wp P Q a w:=by
 rcases he with ⟨st',h1,h2⟩|⟨rfl,c6,cA,h1,h2⟩
 ·exact pt hT Pl hm h h1 λa' w' h'=>hQ st' a' w' h2 h'
 ·refine wp_mono (Q:= λe a w=>e= .normal/\Q .normal a w) ?_ λe a w h=>h.1▸h.2
  refine wp_region_any hm ?_
  have hrel:Rel X st a {w with drawn:=w.drawn+1} :=by
   obtain ⟨π,h⟩:=h
   exact ⟨π,h.quiet ⟨rfl,rfl,rfl,Ao _,λ_ _=>rfl⟩⟩
  have hlen:(Nf ops).length<=ops.size:=by
   have:=dD (ops:=ops) (!k8 false ops) (List.range ops.size) (Array.replicate ops.size false)
   rw [List.length_range] at this
   exact this
  have Aae:(Array.replicate ops.size false).size=ops.size:=by simp
  have hmv:(Fo (Nf ops) (Array.replicate ops.size false)).size=ops.size:=by rw [Wj,Aae]
  have:=cy hT (!k8 false ops) (X:=X) (P:=P) (T:=T) (Γ:=Γ) (Q:= λe a w=>e= .normal/\Q .normal a w) (n:=ops.size-(Nf ops).length) (st1:=cA) (λc a w hq=>by cases hq.1) c6 (List.range ops.size) (Array.replicate ops.size false) st a _ h1 hrel λa' w' h'=>by
   rcases h2 with h2|⟨E,st1,hE,hEn,hE1,hE2⟩
   ·exact lV hT Pl (λst' a' w' hk hr=>⟨rfl,hQ st' a' w' hk hr⟩) _ _ _ _ _ h2 h'
   ·exact yc hT Pl (λc a w hq=>by cases hq.1) (λst' a' w' hk hr=>⟨rfl,hQ st' a' w' hk hr⟩) c6 hE hEn hE1 hE2 hmv (aW _ _ _ qG) h'
  have e:(Jf (!k8 false ops) ops (List.range ops.size) (Array.replicate ops.size false)).length+(ops.size-(Nf ops).length)=ops.size:=by
   have e2:(Jf (!k8 false ops) ops (List.range ops.size) (Array.replicate ops.size false)).length=(Nf ops).length:=rfl
   omega
  rw [e] at this
  exact this
end
end Go.Proofs.YtfolipnappekaaaGreat
