/-
  Part 25 of the proof that the statement FnLowerBounds holds.
-/
import Derived.Test.YtkkdpknjohcekaaGreatCFLowerBounds23
namespace Go.Proofs.YtkkdpknjohcekaaGreat
open Go.RowKit
section
variable {P:Program} {T:Tab} {Γ:Env} {X:Ctx} {w w':World} {π:Pi} {ops:Array Oper} {hd tl:List Nat}
structure a6 (ops:Array Oper) (tl fl:List Nat) (Ag:Array Bool):Prop where
 size:Ag.size=ops.size
 done: ∀i,i∈fl->Ag.getD i false=true
 closed: ∀j oj,ops[j]?=some oj->Ag.getD j false=true-> ∀e∈oj.after,Region.binds .any e=true->Ag.getD e.on false=true
 tail: ∀t,t∈tl->Ag.getD t true=false
theorem a6.set {fl:List Nat} {i:Nat} {Ag:Array Bool} (inv:a6 ops tl fl Ag) (hi:i∈Region.ready .any ops Ag) (aL:i∉tl):a6 ops tl fl (Ag.setIfInBounds i true):=by
 obtain ⟨_,oi,hoi,Lc⟩:=mem_ready.1 hi
 refine ⟨by simp [inv.size],λk hk=>getD_set_true (inv.done k hk),λj oj hj hl e he hb=>?_,λt ht=>by
  have Jd:i≠t:= λe=>aL (by rw [e];exact ht)
  rw [getD_set_ne true Jd];exact inv.tail t ht⟩
 by_cases kD:i=j
 ·subst kD
  have:oj=oi:=Bc (hj.symm.trans hoi)
  subst this
  exact getD_set_true (Lc e he hb)
 ·rw [getD_set_ne false kD] at hl
  exact getD_set_true (inv.closed j oj hj hl e he hb)
theorem IZ (k:Nat) (r:List Nat) (h:(r.all λt=>(k::r).any λk=>Region.waitsFor .any ops t k)=true): ∀t,t∈r-> ∃k',(k'=k\/k'∈r)/\Region.waitsFor .any ops t k'=true:= λt ht=>by
 obtain ⟨k',h1,h2⟩:=Gh.1 (Bb.1 h t ht)
 exact ⟨k',Bd.1 h1,h2⟩
theorem GY {fl:List Nat} {Ag:Array Bool} (hs:uk ops hd tl=true) (inv:a6 ops tl fl Ag) (aM: ∀i,i∈hd->i<ops.size):
  ∀(d i:Nat),ops.size-i=d->i∈hd->Ag.getD i true=false-> ∀t,t∈tl->t∉Region.ready .any ops Ag:=by
 cases tl with
 |nil=>intro d i _ _ _ t ht;cases ht
 |cons f r=>
  simp only [uk,Af] at hs
  obtain ⟨gY,oG⟩:=hs
  intro d
  induction d using Nat.strongRecOn with
  |_ d ih=>
   intro i IB hi oH t ht hr
   obtain ⟨_,ot,hot,Lc⟩:=mem_ready.1 hr
   rcases Bd.1 ht with rfl|nF
   ·have h1:=Bb.1 gY i hi
    obtain ⟨j,hj,hj2⟩:=Gh.1 h1
    simp only [Af,Nv] at hj2
    obtain ⟨oj,hoj,e,he,hb,hon⟩:=Region.waitsFor_spec hj2.2
    rcases Bd.1 hj with rfl|hjh
    ·have:oj=ot:=Bc (hoj.symm.trans hot)
     subst this
     have h2:=Lc e he hb
     rw [hon,getD_both oH] at h2
     cases h2
    ·cases hl:Ag.getD j false with
     |true=>
      have h2:=inv.closed j oj hoj hl e he hb
      rw [hon,getD_both oH] at h2
      cases h2
     |false=>
      have hjs:j<Ag.size:=by rw [inv.size];exact aM j hjh
      have:=aM j hjh
      exact ih (ops.size-j) (by omega) j rfl hjh (getD_in hjs hl) t (by simp) hr
   ·obtain ⟨k',h1,h2⟩:=IZ f r oG t nF
    obtain ⟨o',ho',e,he,hb,hon⟩:=Region.waitsFor_spec h2
    have:o'=ot:=Bc (ho'.symm.trans hot)
    subst this
    have h3:=Lc e he hb
    have hk:k'∈f::r:=by rcases h1 with rfl|h1<;>simp [*]
    rw [hon,getD_both (inv.tail k' hk)] at h3
    cases h3
def VP (T:Tab) (Γ:Env) (ops:Array Oper) (hd:List Nat) (L:Array Bool->St->Prop):Nat->Array Bool->St->Prop
 |0,Ag,st=>L Ag st
 |f+1,Ag,st=>
  Region.ready .any ops Ag≠ []/\ ∀i∈Region.ready .any ops Ag,i∈hd/\ ∃o v,ops[i]?=some o/\Xz T Γ ops st o=some v/\VP T Γ ops hd L f (Ag.setIfInBounds i true) (st.put o.dst v)
theorem BG (hT:Eg P T) (Pu:Lj P Γ) {Q:Exit->Act->World->Prop} {K:Act->World->Prop} {st:St} {a:Act} (h:Rel X st a w) {i:Nat} {o:Oper} {v:AV} (ho:ops[i]?=some o) (hv:Xz T Γ ops st o=some v)
  (hK: ∀a' w',Rel X (st.put o.dst v) a' w'->K a' w'):wpOp P ops Q i K a w:=by
 obtain ⟨π,h⟩:=h
 have run:Yc T Γ st o=some v->o.wp P a w K Q:= λhe=>qQ (X:=X) (st':=st) (av:=v) (CR hT Pu h o v he) hK
 have skip:v= .at .skip->K (a.put o.dst undef) w:= λe=>by subst e;exact hK _ _ ⟨π,h.put o.dst GL⟩
 unfold wpOp
 simp only [ho]
 unfold Xz at hv
 split at hv
 ·rename_i hg
  rw [Ab (by simp [Region.wanted,hg])]
  exact .inl (run hv)
 ·rename_i j want hg
  split at hv
  ·rename_i b hb
   have hy:=(ff h j).1 b hb
   split at hv
   ·rename_i JQ
    rw [Ab (by simp only [Region.wanted,hg,hy];simpa using JQ)]
    exact .inl (run hv)
   ·rename_i JQ
    rw [Aj (by simp only [Region.wanted,hg,hy];simpa using JQ)]
    simp only [Aa] at hv
    exact skip hv.symm
  ·rename_i hb
   have hy:=(ff h j).2 hb
   rw [Aj (by simp [Region.wanted,hg,hy])]
   simp only [Aa] at hv
   exact skip hv.symm
  ·cases hv
theorem lE (hT:Eg P T) (Pu:Lj P Γ) {g:Nat} {L:Array Bool->St->Prop} {Q:Exit->Act->World->Prop} (hL: ∀Ag st a w,L Ag st->Rel X st a w->wpAny P .any ops Q g Ag a w):
  ∀(f:Nat) (Ag:Array Bool) (st:St) (a:Act) (w:World),VP T Γ ops hd L f Ag st->Rel X st a w->wpAny P .any ops Q (f+g) Ag a w
 |0,Ag,st,a,w,h,hr=>by rw [Bu];exact hL _ _ _ _ h hr
 |f+1,Ag,st,a,w,h,hr=>by
  rw [show f+1+g=(f+g)+1 by omega]
  refine ⟨λh0=>absurd h0 h.1,λi hi=>?_⟩
  obtain ⟨_,o,v,ho,hv,gA⟩:=h.2 i hi
  exact BG hT Pu hr ho hv λa' w' h'=>lE hT Pu hL f _ _ _ _ gA h'
theorem IG {fl:List Nat} {i:Nat} {oi:Oper} {v:AV} {L:Array Bool->St->Prop} (hi:ops[i]?=some oi) (hs:uk ops hd tl=true) (aM: ∀i,i∈hd->i<ops.size) (aL:i∈hd)
  (Lc: ∀j,j<ops.size->j∈fl\/j∈hd\/j∈tl) (DJ: ∀j,j∈hd->j∉tl) (Akm: ∀Ag st,L Ag st-> ∀j∈Region.ready .any ops Ag,j∈tl):
  ∀(f:Nat) (Ag:Array Bool) (st:St),a6 ops tl fl Ag->
   (∀j oj,ops[j]?=some oj->j≠i->Ag.getD j true=false->(∀e∈oj.after,Region.binds .any e=true->e.on≠i)->oi.apart ops oj=true)->
   i∈Region.ready .any ops Ag->Xz T Γ ops st oi=some v->
   VP T Γ ops hd L f (Ag.setIfInBounds i true) (st.put oi.dst v)->VP T Γ ops hd L (f+1) Ag st:=by
 intro f
 have Am9: ∀Ag,a6 ops tl fl Ag->i∈Region.ready .any ops Ag-> ∀j,j∈Region.ready .any ops Ag->j∈hd:=by
  intro Ag inv hr j hj
  obtain ⟨oH,oj,hoj,_⟩:=mem_ready.1 hj
  rcases Lc j (Nq.1 hoj).1 with h|h|h
  ·have h1:=inv.done j h
   rw [getD_both oH] at h1;cases h1
  ·exact h
  ·exact absurd hj (GY hs inv aM _ i rfl aL (mem_ready.1 hr).1 j h)
 induction f with
 |zero=>
  intro Ag st inv _ hr hv Hh
  refine ⟨λh=>(by rw [h] at hr;cases hr),λj hj=>?_⟩
  have hjh:=Am9 Ag inv hr j hj
  refine ⟨hjh,?_⟩
  by_cases rT:j=i
  ·subst rT;exact ⟨oi,v,hi,hv,Hh⟩
  ·exact absurd (Akm _ _ Hh j (ready_mono hj rT)) (DJ j hjh)
 |succ f ih=>
  intro Ag st inv nC hr hv Hh
  have oH:=(mem_ready.1 hr).1
  refine ⟨λh=>(by rw [h] at hr;cases hr),λj hj=>?_⟩
  have hjh:=Am9 Ag inv hr j hj
  refine ⟨hjh,?_⟩
  by_cases rT:j=i
  ·subst rT;exact ⟨oi,v,hi,hv,Hh⟩
  ·obtain ⟨_,oj,vj,hoj,hvj,gA⟩:=Hh.2 j (ready_mono hj rT)
   obtain ⟨Akt,oj',Ar8,Ake⟩:=mem_ready.1 hj
   have:oj'=oj:=Bc (Ar8.symm.trans hoj)
   subst this
   have ta: ∀e∈oj'.after,Region.binds .any e=true->e.on≠i:= λe he hb heq=>by
    have h1:=Ake e he hb
    rw [heq,getD_both oH] at h1
    cases h1
   obtain ⟨p1,p2,p3⟩:=Oper.apart_spec (nC j oj' hoj rT Akt ta)
   rw [HF p1] at hvj
   refine ⟨oj',vj,hoj,hvj,?_⟩
   have Agn: ∀k ok,ops[k]?=some ok->k≠i->(Ag.setIfInBounds j true).getD k true=false->
     (∀e∈ok.after,Region.binds .any e=true->e.on≠i)->oi.apart ops ok=true:= λk ok hk hki Alw hno=>by
    refine nC k ok hk hki ?_ hno
    by_cases hjk:j=k
    ·subst hjk;exact Akt
    ·rw [getD_set_ne true hjk] at Alw;exact Alw
   refine ih (Ag.setIfInBounds j true) (st.put oj'.dst vj) (inv.set hj (DJ j hjh)) Agn (ready_mono hr (Hm rT)) (by rw [HF p3];exact hv) ?_
   rw [Array.setIfInBounds_comm _ _ rT,<-St.put_comm st v vj p2]
   exact gA
theorem qG: ∀(l:List Nat) (Ag:Array Bool),o8 ops l Ag=true-> ∀j∈Region.ready .any ops Ag,j∈l
 | [],Ag,h,j,hj=>by simp only [o8,List.isEmpty_iff] at h;rw [h] at hj;cases hj
 |k::r,Ag,h,j,hj=>by
  simp only [o8,Af,Mh,Nv] at h
  rcases h.1 with h1|h1
  ·rw [h1] at hj
   simp at hj
   simp [hj]
  ·by_cases e:j=k
   ·simp [e]
   ·exact An _ (qG r _ h.2 j (ready_mono hj e))
theorem BL {fl:List Nat} (c5:Region.noSelect ops=true) (hs:uk ops hd tl=true) (aM: ∀i,i∈hd->i<ops.size) (Lc: ∀j,j<ops.size->j∈fl\/j∈hd\/j∈tl) (DJ: ∀j,j∈hd->j∉tl) (st':St):
  ∀(l:List Nat) (Ag:Array Bool) (st:St),(∀i,i∈l->i∈hd)->a6 ops tl fl Ag->p7 ops tl l Ag=true->Gj T Γ ops l st=some st'->
  VP T Γ ops hd (λzb s=>o8 ops tl zb=true/\s=st') l.length Ag st
 | [],Ag,st,_,_,hB,he=>by
  simp only [Gj,Aa] at he
  exact ⟨by simpa [p7] using hB,he⟩
 |k::l,Ag,st,hl,inv,hB,he=>by
  simp only [p7,Af] at hB
  obtain ⟨⟨hr,hf⟩,hB'⟩:=hB
  have hkh:=hl k (by simp)
  have kF:k∈Region.ready .any ops Ag:=by simpa using hr
  simp only [Gj] at he
  split at he
  ·cases he
  ·rename_i o ho
   split at he
   ·rename_i v hv
    exact IG ho hs aM hkh Lc DJ (λzb s hL=>qG tl zb hL.1) l.length Ag st inv (Region.free_spec ho hf) kF hv
     (BL c5 hs aM Lc DJ st' l _ _ (λi hi=>hl i (by simp [hi])) (inv.set kF (DJ k hkh)) hB' he)
   ·cases he
theorem yH {Q:Exit->Act->World->Prop} (hQ: ∀e a w,Q e a w->e= .normal) {k i:Nat} {x:Operand} {o:Oper} (ho:ops[k]?=some o) (rW:o.op= .extract x i) (hg:o.guard=none) {K:Act->World->Prop} {a:Act} {w:World}
  (h:wpOp P ops Q k K a w): ∃v,Yields P ops o v a/\K (a.put o.dst v) w:=by
 unfold wpOp at h
 simp only [ho] at h
 have hw:Region.wanted o (yielded ops a.tmps)=true:=by simp [Region.wanted,hg]
 rw [Ab hw] at h
 rcases h with h|⟨_,a',w',h⟩
 ·unfold Oper.wp at h
  have hr: ∀w,(execOp a.eval o).run P w=(do pure (Next.value (<-Instr.extract (a.eval x) i))).run P w:= λw=>by unfold execOp;rw [rW]
  rw [hr] at h
  unfold Instr.extract at h hr
  split at h
  ·rename_i vs hx
   split at h
   ·rename_i v hv
    rw [hx] at hr
    simp only [hv] at hr
    exact ⟨v, .inl ⟨hw,λw=>(hr w).trans rfl⟩,h⟩
   ·exact h.elim
  ·exact h.elim
 ·cases hQ _ _ _ h
theorem dO {Q:Exit->Act->World->Prop} (hQ: ∀e a w,Q e a w->e= .normal) (c5:Region.noSelect ops=true): ∀(l:List Nat) (Ag:Array Bool) (a:Act) (w:World),o8 ops l Ag=true->wpOps P ops Q l a w->wpAny P .any ops Q l.length Ag a w
 | [],Ag,a,w,hB,h=>⟨by simpa [o8] using hB,h⟩
 |k::r,Ag,a,w,hB,h=>by
  simp only [o8,Af,Mh,Nv] at hB
  rw [wpOps_cons] at h
  rcases hB.1 with h0|⟨h1,h2,h3⟩
  ·refine ⟨λh1=>(by rw [h0] at h1;cases h1),λi hi=>?_⟩
   rw [h0] at hi
   have hik:i=k:=by simpa using hi
   subst hik
   exact wpOp_mono (λa' w' h'=>dO hQ c5 r _ a' w' hB.2 h') h
  ·unfold YG at h1
   split at h1
   ·rename_i o ho
    split at h1
    ·rename_i x i rW hg
     obtain ⟨v,hy,hk⟩:=yH hQ ho rW hg h
     exact wpAny_take ho c5 h3 h2 (λc a w hq=>by cases hQ _ _ _ hq) hy (dO hQ c5 r _ _ w hB.2 hk)
    ·cases h1
   ·cases h1
theorem nu {P:Program} {o:Oper} {t:Tmp} {a:Act} (h:o.op= .move (.tmp t)) (hg:o.guard=none):Yields P ops o (a.tmps.getD t undef) a:=by
 refine .inl ⟨by simp [Region.wanted,hg],λw=>?_⟩
 unfold execOp
 rw [h]
 rfl
theorem yW {hd tl:List Nat} {i:Nat} (h:nG ops hd tl i=true): ∃o t,ops[i]?=some o/\o.op= .move (.tmp t)/\o.guard=none:=by
 unfold nG at h
 split at h
 ·rename_i o ho
  simp only [Af] at h
  have h1:=h.1
  split at h1
  ·rename_i t h2 h3
   exact ⟨o,t,ho,h2,h3⟩
  ·cases h1
 ·cases h
theorem gT {q:Bool} {hd:List Nat} {Q:Exit->Act->World->Prop} (hQ: ∀c a w,¬Q (.panic c) a w) (c5:Region.noSelect ops=true) {n:Nat} {st1:St}
  (gA: ∀Ag st a w,(∀j oj,ops[j]?=some oj->Ag.getD j false=true-> ∀e∈oj.after,Region.binds .any e=true->Ag.getD e.on false=true)->Ag.size=ops.size->p7 ops tl hd Ag=true->st=st1->Rel X st a w->
   (∀j,Ag.getD j false=true↔j∈Wv q Γ ops)->wpAny P .any ops Q n Ag a w):
  ∀(l dn:List Nat) (Ag:Array Bool) (st:St) (a:Act) (w:World),(∀j,j∈Wv q Γ ops↔j∈dn\/j∈l)->(∀i,i∈l-> ∃o t,ops[i]?=some o/\o.op= .move (.tmp t)/\o.guard=none)->
   (∀j oj,ops[j]?=some oj->Ag.getD j false=true-> ∀e∈oj.after,Region.binds .any e=true->Ag.getD e.on false=true)->Ag.size=ops.size->(∀j,Ag.getD j false=true↔j∈dn)->
   nt ops tl hd l Ag=true->Gj T Γ ops l st=some st1->Rel X st a w->wpAny P .any ops Q (l.length+n) Ag a w
 | [],dn,Ag,st,a,w,hm,_,hc,aM,hdn,hf,he,hr=>by
  simp only [Gj,Aa] at he
  rw [Fq,Bu]
  exact gA Ag st a w hc aM (by simpa [nt] using hf) he hr λj=>by rw [hdn j,hm j];simp
 |k::l,dn,Ag,st,a,w,hm,hl,hc,aM,hdn,hf,he,hr=>by
  simp only [nt,Af] at hf
  obtain ⟨⟨h1,h2⟩,h3⟩:=hf
  obtain ⟨o,t,ho,rW,hg⟩:=hl k (by simp)
  have vF:k∈Region.ready .any ops Ag:=by simpa using h1
  obtain ⟨_,o',ho',Lc⟩:=mem_ready.1 vF
  have ho2:o'=o:=Bc (ho'.symm.trans ho)
  subst ho2
  have hks:k<Ag.size:=by rw [aM];exact (Nq.1 ho).1
  simp only [Gj,ho] at he
  have hv:Xz T Γ ops st o'=some (st.get t):=by simp only [Xz,hg,Yc,Fh,rW];rfl
  rw [hv] at he
  rw [Ay,show l.length+1+n=(l.length+n)+1 by omega]
  refine wpAny_take ho c5 h2 h1 (λc a w hq=>absurd hq (hQ c _ w)) (nu rW hg) ?_
  obtain ⟨π,hr⟩:=hr
  refine gT hQ c5 gA l (k::dn) _ _ _ _ (λj=>by rw [hm j,Bd,Bd];exact ⟨λh=>h.elim (λh=> .inl (.inr h)) (λh=>h.elim (λh=> .inl (.inl h)) .inr),λh=>h.elim (λh=>h.elim (λh=> .inr (.inl h)) .inl) (λh=> .inr (.inr h))⟩) (λi hi=>hl i (by simp [hi])) ?_ (by simp [aM]) (λj=>?_) h3 he ⟨π,hr.put o'.dst (hr.2.tmps t)⟩
  ·intro j oj hj hlj e hem hb
   by_cases VM:k=j
   ·subst VM
    have:oj=o':=Bc (hj.symm.trans ho)
    subst this
    exact getD_set_true (Lc e hem hb)
   ·rw [getD_set_ne false VM] at hlj
    exact getD_set_true (hc j oj hj hlj e hem hb)
  ·by_cases VM:k=j
   ·subst VM
    refine ⟨λ_=>by simp,λ_=>?_⟩
    simp [hks]
   ·rw [getD_set_ne false VM,hdn j]
    simp [Hm VM]
theorem gx {ops:Array Oper} : ∀(a b:List Nat) (st st':St),Gj T Γ ops (a++b) st=some st'-> ∃s,Gj T Γ ops a st=some s/\Gj T Γ ops b s=some st'
 | [],b,st,st',h=>⟨st,rfl,h⟩
 |i::a,b,st,st',h=>by
  simp only [Qc,Gj] at h⊢
  split at h
  ·cases h
  ·split at h
   ·exact gx a b _ st' h
   ·cases h
theorem oU (hT:Eg P T) (Pu:Lj P Γ) (hm:P.follows .mixedOrders=true) {Q:Exit->Act->World->Prop} {id:Nat} {draw:Bool} {st st':St} {a:Act} (h:Rel X st a w)
  (he:Su T Γ ops draw st=some st') (hQ: ∀a' w',Rel X st' a' w'->Q .normal a' w'):(Code.region id ops draw).wp P Q a w:=by
 unfold Su at he
 cases draw with
 |false=>
  rw [Aj (by simp)] at he
  exact wp_region_list (kT hT Pu ops.toList st st' a w h he hQ)
 |true=>
  rw [Ab rfl] at he
  have go: ∀(q:Bool),cX q Γ ops=true->(match Gj T Γ ops (jS q Γ ops) st with
    |some st'=>Nj T Γ ops (Kc q Γ ops) st'
    |none=>none)=some st'->(Code.region id ops true).wp P Q a w:=by
   intro q eU he
   split at he
   ·rename_i st1 h1
    simp only [cX,Af,Xw] at eU
    obtain ⟨⟨⟨c5,hlen⟩,Agl⟩,Alr⟩:=eU
    refine wp_mono (Q:= λe a w=>e= .normal/\Q .normal a w) ?_ λe a w h=>h.1▸h.2
    refine wp_region_any hm ?_
    have hrel:Rel X st a {w with drawn:=w.drawn+1} :=by
     obtain ⟨π,h⟩:=h
     exact ⟨π,h.quiet ⟨rfl,rfl,rfl,Ap _,λ_ _=>rfl⟩⟩
    obtain ⟨s0,h0,h1⟩:=gx _ _ _ _ h1
    have aL: ∀i,i∈cR q Γ ops->i<ops.size:= λi hi=>Et.1 (Ce.1 hi).1
    have aM: ∀i,i∈Wy q Γ ops->i<ops.size:= λi hi=>aL i (Ce.1 hi).1
    have Lc: ∀j,j<ops.size->j∈Wv q Γ ops\/j∈Wy q Γ ops\/j∈Kc q Γ ops:= λj hj=>by
     by_cases ht:j∈Kc q Γ ops
     ·exact .inr (.inr ht)
     ·have hh:j∈cR q Γ ops:=Ce.2 ⟨Et.2 hj,by simpa using ht⟩
      cases hfl:nG ops (cR q Γ ops) (Kc q Γ ops) j with
      |true=>exact .inl (Ce.2 ⟨hh,hfl⟩)
      |false=>exact .inr (.inl (Ce.2 ⟨hh,by rw [hfl];rfl⟩))
    have Aev: ∀j,j∈cR q Γ ops->j∉Kc q Γ ops:= λj hj=>by
     have:=(Ce.1 hj).2
     simpa using this
    have DJ: ∀j,j∈Wy q Γ ops->j∉Kc q Γ ops:= λj hj=>Aev j (Ce.1 hj).1
    have Akk: ∀j,j∈Wv q Γ ops->j∉Kc q Γ ops:= λj hj=>Aev j (Ce.1 hj).1
    have htl: ∀t,t∈Kc q Γ ops->t<ops.size:=by
     intro t ht
     unfold Kc at ht
     have: ∀(l:List Nat) (acc:List Nat),(∀i,i∈acc->i<ops.size)->(∀i,i∈l->i<ops.size)-> ∀i,i∈l.foldl (init:=acc) (λacc i=>match ops[i]? with
       |some o=>if YO q Γ o||o.after.any (λe=>Region.binds .any e&&acc.contains e.on) then acc++ [i] else acc
       |none=>acc)->i<ops.size:=by
      intro l
      induction l with
      |nil=>intro acc h1 _ i hi;exact h1 i hi
      |cons x l ih=>
       intro acc h1 h2 i hi
       simp only [On] at hi
       refine ih _ ?_ (λi hi=>h2 i (by simp [hi])) i hi
       intro k hk
       split at hk
       ·split at hk
        ·rcases Az.1 hk with hk|hk
         ·exact h1 k hk
         ·simp at hk;rw [hk];exact h2 x (by simp)
        ·exact h1 k hk
       ·exact h1 k hk
     exact this (List.range ops.size) [] (by simp) (λi hi=>Et.1 hi) t ht
    rw [<-hlen]
    refine gT (q:=q) (X:=X) (T:=T) (Γ:=Γ) (tl:=Kc q Γ ops) (hd:=Wy q Γ ops) (st1:=s0) (λc a w hq=>by cases hq.1) c5 ?_ (Wv q Γ ops) [] _ st a _ (λj=>by simp)
     (λi hi=>yW (Ce.1 hi).2) (λj oj _ hl=>(by rw [hlen,getD_replicate_false] at hl;cases hl)) (by simp [hlen]) (λj=>by rw [hlen,getD_replicate_false];simp) (by rw [hlen];exact Agl) h0 hrel
    intro Ag s a' w' hc re Akr hs hr hfl
    subst hs
    have As5:a6 ops (Kc q Γ ops) (Wv q Γ ops) Ag:=
     ⟨re,λi hi=>(hfl i).2 hi,hc,λt ht=>getD_in (by rw [re];exact htl t ht) (by
      cases hg:Ag.getD t false with
      |false=>rfl
      |true=>exact absurd ht (Akk t ((hfl t).1 hg)))⟩
    have HA:=BL (T:=T) (Γ:=Γ) c5 Alr aM Lc DJ st1 (Wy q Γ ops) _ s (λi hi=>hi) As5 Akr h1
    exact lE (X:=X) (P:=P) (Q:= λe a w=>e= .normal/\Q .normal a w) (g:=(Kc q Γ ops).length) hT Pu (λAg s a' w' hL hr=>by
     obtain ⟨Arj,rfl⟩:=hL
     exact dO (λe a w h=>h.1) c5 (Kc q Γ ops) Ag a' w' Arj (kP hT Pu _ _ st' a' w' hr he λa w h=>⟨rfl,hQ a w h⟩)) _ _ _ _ _ HA hr
   ·cases he
  split at he
  ·rename_i eU;exact go false eU he
  ·split at he
   ·rename_i eU;exact go true eU he
   ·cases he
theorem dD (q:Bool): ∀(l:List Nat) (Ag:Array Bool),(Kb q ops l Ag).length<=l.length
 | [],_=>Ap _
 |i::r,Ag=>by
  simp only [Kb]
  split
  ·simp only [Ay];have:=dD q r (Ag.setIfInBounds i true);omega
  ·simp only [Ay];have:=dD q r Ag;omega
theorem GB (hT:Eg P T) {st:St} {a:Act} (h:Bh X π st a w) {i:Nat} {o:Oper} (ho:ops[i]?=some o) (hp:jX ops i=true) {v:AV} (hv:Xz T Γ ops st o=some v):
  ∃u,Yields P ops o u a/\Bl X w π st.heap v u:=by
 unfold jX at hp
 rw [ho] at hp
 simp only at hp
 obtain ⟨dst,op,ty,pos,af,gd⟩:=o
 split at hp
 ·rename_i t h3 h4
  simp only at h3 h4;subst h3;subst h4
  refine ⟨a.tmps.getD t undef,nu rfl rfl,?_⟩
  simp only [Xz,Yc,Fh,Aa] at hv
  subst hv
  exact h.2.tmps t
 ·rename_i x h3 h4
  simp only at h3 h4;subst h3;subst h4
  have e:=Dt h.2 x
  have fin:(∃ad,a.eval x= .pointer (some ad))->Yields P ops ⟨dst, .nilCheck x,ty,pos,af,none⟩ (a.eval x) a:= λ⟨ad,hx⟩=>
   .inl ⟨by simp [Region.wanted],λw=>by simp [execOp,hx]⟩
  simp only [Xz,Yc,Fh] at hv
  split at hv
  ·rename_i fr τ y hx
   simp only [Aa] at hv;subst hv
   rw [hx] at e
   have e':=e
   obtain ⟨cs,hc,hv⟩:=e
   simp only [Cells] at hc
   obtain ⟨g,o,rfl,_⟩:=hc
   simp only [Ca,Ty.Ao,Cz,Sm,ik] at hv
   exact ⟨_,fin ⟨_,hv⟩,e'⟩
  ·rename_i fr τ y hx
   simp only [Aa] at hv;subst hv
   rw [hx] at e
   obtain ⟨cs,hc,hv⟩:=e
   simp only [Cells] at hc
   rcases hc with ⟨h0,_⟩|⟨y',g,o,h0,rfl,hr⟩
   ·cases h0
   simp only [Aa] at h0;subst h0
   simp only [Ca,Ty.Ao,Cz,Sm,ik] at hv
   exact ⟨_,fin ⟨_,hv⟩,[_],⟨g,o,rfl,hr⟩,by rw [hv];simp [Ca,Ty.Ao]⟩
  ·rename_i l i hx
   simp only [Aa] at hv;subst hv
   rw [hx] at e
   have e':=e
   obtain ⟨r,tid,vs,_,_,hv⟩:=e
   exact ⟨_,fin ⟨_,hv⟩,e'⟩
  ·rename_i l i hx
   simp only [Aa] at hv;subst hv
   rw [hx] at e
   have e':=e
   obtain ⟨r,b,sz,n,_,_,_,_,hv⟩:=e
   exact ⟨_,fin ⟨_,hv⟩,e'⟩
  ·cases hv
 ·rename_i s x f h3 h4
  simp only at h3 h4;subst h3;subst h4
  simp only [Xz,Yc,Fh] at hv
  obtain ⟨u,h1,h2⟩:=cM hT (st:=st) _ _ _ _ v (Dt h.2 x) hv
  refine ⟨u, .inl ⟨by simp [Region.wanted],λw=>?_⟩,h2⟩
  have:=h1 w
  simp only [execOp,Sem.run_bind]
  first
   |(rw [this];rfl)
   |simp [this]
 ·cases hp
theorem zE {i:Nat} (h:yX ops i=true):jX ops i=true:=by
 unfold yX at h
 unfold jX
 split at h
 ·rename_i o ho
  split at h
  ·rename_i h1 h2
   simp only [h1,h2]
  ·cases h
 ·cases h
theorem cA (hT:Eg P T) (q:Bool) {Q:Exit->Act->World->Prop} (hQ: ∀c a w,¬Q (.panic c) a w) (c5:Region.noSelect ops=true) {n:Nat} {st1:St} :
  ∀(l:List Nat) (Ag:Array Bool) (st:St) (a:Act) (w:World),Gj T Γ ops (Kb q ops l Ag) st=some st1->Rel X st a w->
   (∀a w,Rel X st1 a w->wpAny P .any ops Q n (Em (Kb q ops l Ag) Ag) a w)->wpAny P .any ops Q ((Kb q ops l Ag).length+n) Ag a w
 | [],Ag,st,a,w,he,hr,hK=>by
  simp only [Kb,Gj,Aa] at he
  subst he
  simp only [Kb,Fq,Bu]
  exact hK a w hr
 |k::l,Ag,st,a,w,he,hr,hK=>by
  simp only [Kb] at he hK⊢
  split
  ·rename_i hc
   rw [Ab hc] at he hK
   simp only [Af] at hc
   obtain ⟨h0,h1,h2⟩:=hc
   have hp:jX ops k=true:=by
    cases q with
    |true=>exact h0
    |false=>exact zE h0
   simp only [Gj] at he
   split at he
   ·cases he
   rename_i o ho
   split at he
   rotate_left
   ·cases he
   rename_i v hv
   obtain ⟨π,hr⟩:=hr
   obtain ⟨u,hy,hu⟩:=GB (Γ:=Γ) hT hr ho hp hv
   rw [Ay,show (Kb q ops l (Ag.setIfInBounds k true)).length+1+n=((Kb q ops l (Ag.setIfInBounds k true)).length+n)+1 by omega]
   refine wpAny_take ho c5 h2 h1 (λc a w hq=>absurd hq (hQ c _ w)) hy ?_
   exact cA hT q hQ c5 l _ _ _ _ he ⟨π,hr.put o.dst hu⟩ hK
  ·rename_i hc
   rw [Aj hc] at he hK
   exact cA hT q hQ c5 l Ag st a w he hr hK
theorem lF (hT:Eg P T) (Pu:Lj P Γ) {Q:Exit->Act->World->Prop} {K:St->Prop} (hK: ∀st a w,K st->Rel X st a w->Q .normal a w):
  ∀(f:Nat) (Ag:Array Bool) (st:St) (a:Act) (w:World),anyS T Γ ops K f Ag st->Rel X st a w->wpAny P .any ops Q f Ag a w
 |0,Ag,st,a,w,h,hr=>⟨h.1,hK _ _ _ h.2 hr⟩
 |f+1,Ag,st,a,w,h,hr=>by
  refine ⟨λh0=>absurd h0 h.1,λi hi=>?_⟩
  obtain ⟨o,st',ho,he,gA⟩:=h.2 i hi
  obtain ⟨π,hr⟩:=hr
  unfold wpOp
  simp only [ho]
  exact Wu hT Pu hr o he λa' w' h'=>lF hT Pu hK f _ _ _ _ gA h'
def Va (ops:Array Oper) (Ag:Array Bool):Prop:= ∀k a,Ag.getD k false=true->Region.waitsFor .any ops k a=true->Ag.getD a false=true
theorem cZ {Ag:Array Bool} {i a:Nat} (h:i∈Region.ready .any ops Ag) (hw:Region.waitsFor .any ops i a=true):Ag.getD a false=true:=by
 obtain ⟨_,o,ho,Lc⟩:=mem_ready.1 h
 obtain ⟨o',ho',e,he,hb,rfl⟩:=Region.waitsFor_spec hw
 rw [ho] at ho'
 cases ho'
 exact Lc e he hb
theorem Va.set {Ag:Array Bool} (hc:Va ops Ag) {i:Nat} (hi:i∈Region.ready .any ops Ag):Va ops (Ag.setIfInBounds i true):= λk a hk hw=>by
 by_cases hik:i=k
 ·subst hik
  exact getD_set_true (cZ hi hw)
 ·rw [getD_set_ne false hik] at hk
  exact getD_set_true (hc k a hk hw)
theorem pY:Va ops (Array.replicate ops.size false):= λk a hk _=>by
 rw [getD_replicate_false] at hk
 cases hk
theorem aV (q:Bool): ∀(l:List Nat) (Ag:Array Bool),Va ops Ag->Va ops (Em (Kb q ops l Ag) Ag)
 | [],Ag,h=>h
 |i::r,Ag,h=>by
  simp only [Kb]
  split
  ·rename_i hc
   rw [Af,Af] at hc
   have hi:i∈Region.ready .any ops Ag:=by simpa using hc.2.1
   exact aV q r _ (h.set hi)
  ·exact aV q r Ag h
theorem Xb: ∀(l:List Nat) (Ag:Array Bool),(Em l Ag).size=Ag.size
 | [],_=>rfl
 |i::r,Ag=>by simp only [Em];rw [Xb r];simp
theorem fC: ∀(l:List Nat) (Ag:Array Bool) (k:Nat),k∈l->k<Ag.size->(Em l Ag).getD k false=true
 |i::r,Ag,k,h,hk=>by
  simp only [Em]
  by_cases hr:k∈r
  ·exact fC r _ k hr (by simpa using hk)
  ·have:k=i:=(Bd.1 h).resolve_right hr
   subst this
   have hs: ∀(l:List Nat) (A:Array Bool),A.getD k false=true->(Em l A).getD k false=true:=by
    intro l
    induction l with
    |nil=>exact λA h=>h
    |cons j l ih=>exact λA h=>ih _ (getD_set_true h)
   exact hs r _ (by simp [hk])
theorem dC: ∀(l:List Nat) (Ag:Array Bool) (k:Nat),k∉l->(Em l Ag).getD k false=Ag.getD k false
 | [],_,_,_=>rfl
 |i::r,Ag,k,h=>by
  simp only [Em]
  rw [dC r _ k λhk=>h (An _ hk),getD_set_ne false (λe=>h (by rw [e];simp))]
def Mr (E:List Nat) (Ag:Array Bool):List Nat:=E.filter λr=>!Ag.getD r false
def dv (ops:Array Oper) (r:Nat):Option Tmp:=(ops[r]?).bind (·.dst)
def kO (ops:Array Oper) (Q:List Nat):List Nat:=Q.filterMap (dv ops)
def Sz (ops:Array Oper):List Nat->St->St
 | [],st=>st
 |r::Q,st=>(Sz ops Q st).put (dv ops r) .undef
def QS (ops:Array Oper):List Nat->Act->Act->Prop
 | [],a,a'=>a'=a
 |r::Q,a,a'=> ∃u,QS ops Q (a.put (dv ops r) u) a'
theorem Aau {H:List (Nat×OB)} {v:Value} :Bl X w π H .undef v:=trivial
theorem iT (s:St) (d:Option Tmp) (v:AV) (t:Nat):(d=some t->(s.put d v).get t=v\/(s.put d v).get t= .undef)/\(d≠some t->(s.put d v).get t=s.get t):=by
 cases d with
 |none=>exact ⟨λh=>(by cases h),λ_=>rfl⟩
 |some e=>
  have key:(s.put (some e) v).get t=if e=t/\t<s.tmps.length then v else s.get t:=Ru _ _ _ _ _
  refine ⟨λh=>?_,λh=>?_⟩
  ·cases h
   rw [key]
   by_cases hl:t<s.tmps.length
   ·rw [Ab ⟨rfl,hl⟩];exact .inl rfl
   ·rw [Aj (λh=>hl h.2)]
    exact .inr (by unfold St.get;rw [Ah,Eb (by omega)];rfl)
  ·rw [key,Aj]
   rintro ⟨rfl,_⟩
   exact h rfl
theorem kf (s:St) (d:Option Tmp) (v:AV):(s.put d v).heap=s.heap:=by cases d<;>rfl
theorem o0 (s:St) (d:Option Tmp) (v:AV):(s.put d v).tmps.length=s.tmps.length:=by
 cases d with
 |none=>rfl
 |some d=>exact ao _ _ _
theorem Ro: ∀(Q:List Nat) (st:St),(Sz ops Q st).heap=st.heap
 | [],_=>rfl
 |r::Q,st=>by simp only [Sz];rw [kf,Ro Q]
theorem Xf: ∀(Q:List Nat) (st:St),(Sz ops Q st).tmps.length=st.tmps.length
 | [],_=>rfl
 |r::Q,st=>by simp only [Sz];rw [o0,Xf Q]
theorem Md {Q:List Nat} {t:Nat} :t∈kO ops Q↔ ∃r∈Q,dv ops r=some t:=List.mem_filterMap
theorem Ta: ∀(Q:List Nat) (st:St) (t:Nat),(t∈kO ops Q->(Sz ops Q st).get t= .undef)/\(t∉kO ops Q->(Sz ops Q st).get t=st.get t)
 | [],st,t=>⟨λh=>by simp [kO] at h,λ_=>rfl⟩
 |r::Q,st,t=>by
  obtain ⟨h1,h2⟩:=Ta Q st t
  obtain ⟨g1,g2⟩:=iT (Sz ops Q st) (dv ops r) .undef t
  simp only [Sz]
  by_cases hd:dv ops r=some t
  ·refine ⟨λ_=>(g1 hd).elim id id,λh=>absurd (Md.2 ⟨r,Ky ..,hd⟩) h⟩
  ·refine ⟨λh=>?_,λh=>?_⟩
   ·rw [g2 hd]
    obtain ⟨q,hq,he⟩:=Md.1 h
    rcases Bd.1 hq with rfl|hq
    ·exact absurd he hd
    ·exact h1 (Md.2 ⟨q,hq,he⟩)
   ·rw [g2 hd]
    exact h2 λhm=>by
     obtain ⟨q,hq,he⟩:=Md.1 hm
     exact h (Md.2 ⟨q,An _ hq,he⟩)
theorem u9 {st s:St} {a:Act} (h:Bh X π st a w) (hh:s.heap=st.heap) (hl:s.tmps.length=st.tmps.length) (hg: ∀t,s.get t=st.get t\/s.get t= .undef):Bh X π s a w:=by
 refine ⟨by rw [hh];exact h.1,⟨by rw [hl];exact h.2.size,h.2.defers,λt=>?_⟩⟩
 rw [hh]
 rcases hg t with e|e
 ·rw [e];exact h.2.tmps t
 ·rw [e];exact Aau
theorem HE {st s:St} {o:Oper} (hh:s.heap=st.heap) (hg: ∀t,t∈o.looksAt ops->s.get t=st.get t):Xz T Γ ops s o=Xz T Γ ops st o:=by
 obtain ⟨ts,H⟩:=s
 obtain ⟨ts',H'⟩:=st
 simp only at hh
 subst hh
 exact yd hg
theorem qB (hT:Eg P T) (Pu:Lj P Γ) {st:St} {a:Act} (h:Bh X π st a w) {i:Nat} {o:Oper} (ho:ops[i]?=some o) (hp:jY ops i=true) {v:AV} (hv:Xz T Γ ops st o=some v):
  ∃u,(∀(Q:Exit->Act->World->Prop) (K:Act->World->Prop),K (a.put o.dst u) w->wpOp P ops Q i K a w)/\Bl X w π st.heap v u:=by
 unfold jY at hp
 rw [ho] at hp
 simp only at hp
 have hgd:o.guard=none:=by
  obtain ⟨dst,op,ty,pos,af,gd⟩:=o
  cases gd with
  |none=>rfl
  |some g=>split at hp<;>first|rfl|(rename_i h4;cases h4)|cases hp
 have hb:Yc T Γ st o=some v:=by
  unfold Xz at hv
  rw [hgd] at hv
  exact hv
 have hw:Region.wanted o (yielded ops a.tmps)=true:=by simp [Region.wanted,hgd]
 have fin: ∀s:Sem Value,execOp a.eval o=(do pure (.value (<-s)))->Fh T Γ st o=some v-> ∃u,(∀(Q:Exit->Act->World->Prop) (K:Act->World->Prop),K (a.put o.dst u) w->wpOp P ops Q i K a w)/\Bl X w π st.heap v u:=by
  intro s he hq
  have hg:=iK hT Pu h o v hq
  rw [he,Sem.run_bind] at hg
  cases hr:s.run P w with
  |ok u w'=>
   rw [hr] at hg
   obtain ⟨e,hu⟩:=(show w'=w/\Bl X w π st.heap v u from hg)
   subst e
   refine ⟨u,λQ K hK=>?_,hu⟩
   unfold wpOp
   simp only [ho]
   rw [Ab hw]
   refine .inl ?_
   unfold Oper.wp
   rw [he,Sem.run_bind,hr]
   exact hK
  |halt x w'=>rw [hr] at hg;exact hg.elim
 obtain ⟨dst,op,ty,pos,af,gd⟩:=o
 simp only at hgd
 subst hgd
 split at hp
 ·rename_i x h3 h4
  simp only at h3;subst h3
  exact fin (pure (a.eval x)) (by simp [execOp]) hb
 ·rename_i x h3 h4
  simp only at h3;subst h3
  exact fin _ rfl hb
 ·rename_i x h3 h4
  simp only at h3;subst h3
  exact fin _ rfl hb
 ·rename_i x h3 h4
  simp only at h3;subst h3
  exact fin _ rfl hb
 ·cases hp
theorem VF {j:Nat} {oi oj:Oper} {v:Value} (hj:ops[j]?=some oj) (hap:oi.apart ops oj=true) (hsj: ∀cs b,oj.op≠ .select cs b)
  {Q:Exit->Act->World->Prop} (hQ: ∀c a w,¬Q (.panic c) a w) {K:Act->World->Prop} {a:Act} {w:World} (h:wpOp P ops Q j K (a.put oi.dst v) w):
  wpOp P ops Q j (λa' w'=>K (a'.put oi.dst v) w') a w:=by
 obtain ⟨h1,h2,h3⟩:=Oper.apart_spec hap
 unfold wpOp at*
 simp only [hj] at*
 rw [wanted_put oj a oi.dst v h1] at h
 split
 ·rename_i hw
  simp only [hw,Qi] at h
  rcases h with h|⟨Aep,Akv⟩
  case inr=>exact .inr ⟨by unfold Oper.asks at*;rw [execOp_put oj hsj a oi.dst v h1] at Aep;exact Aep,Akv⟩
  refine .inl ?_
  unfold Oper.wp at*
  rw [execOp_put oj hsj a oi.dst v h1] at h
  generalize (execOp a.eval oj).run P w=r at*
  cases r with
  |ok n w'=>
   cases n<;>simp only [Oper.upon] at h⊢
   case value u=>rw [<-Act.put_comm a v u h2];exact h
   case skip=>rw [<-Act.put_comm a v undef h2];exact h
   case defer d=>
    rw [<-Act.put_comm _ v undef h2,<-Act.put_defers]
    exact h
   case enter f args=>
    refine Calls.mono h λe qP he=>?_
    cases e with
    |returned u=>show K ((a.put oj.dst u).put oi.dst v) qP;rw [<-Act.put_comm a v u h2];exact he
    |panicked c=>exact absurd he (hQ _ _ _)
    |outgrown=>exact he
   case row row args=>exact Rows.mono h λu qP he=>by rw [<-Act.put_comm a v u h2];exact he
  |halt x w'=>
   cases x<;>simp only [Oper.upon] at h⊢
   case panic u=>exact absurd h (hQ _ _ _)
 ·rename_i hw
  simp only [hw] at h
  rw [<-Act.put_comm a v undef h2];exact h
theorem xI: ∀ {Q:List Nat} {a a':Act},QS ops Q a a'->a'.defers=a.defers/\a'.tmps.size=a.tmps.size/\ ∀t,t∉kO ops Q->a'.tmps.getD t undef=a.tmps.getD t undef
 | [],a,a',h=>by cases h;exact ⟨rfl,rfl,λ_ _=>rfl⟩
 |r::Q,a,a',⟨u,h⟩=>by
  obtain ⟨h1,h2,h3⟩:=xI h
  have hp:(a.put (dv ops r) u).defers=a.defers/\(a.put (dv ops r) u).tmps.size=a.tmps.size:=by cases dv ops r<;>simp [Act.put]
  refine ⟨h1.trans hp.1,h2.trans hp.2,λt ht=>?_⟩
  have hn:dv ops r≠some t:= λe=>ht (Md.2 ⟨r,Ky ..,e⟩)
  rw [h3 t λhm=>ht (by obtain ⟨q,hq,he⟩:=Md.1 hm;exact Md.2 ⟨q,An _ hq,he⟩)]
  cases hd:dv ops r with
  |none=>rfl
  |some d=>
   have Jd:d≠t:= λe=>hn (by rw [hd,e])
   simp [Act.put,Array.getElem?_setIfInBounds_ne Jd]
theorem ZX {Q:List Nat} {st:St} {a a':Act} (hp:QS ops Q a a') (h:Bh X π st a' w):Bh X π (Sz ops Q st) a w:=by
 obtain ⟨h1,h2,h3⟩:=xI hp
 refine ⟨by rw [Ro];exact h.1,⟨by rw [Xf,<-h2];exact h.2.size,by rw [<-h1];exact h.2.defers,λt=>?_⟩⟩
 rw [Ro]
 by_cases ht:t∈kO ops Q
 ·rw [(Ta Q st t).1 ht];exact Aau
 ·rw [(Ta Q st t).2 ht,<-h3 t ht];exact h.2.tmps t
theorem yh {j:Nat} {oj:Oper} (hj:ops[j]?=some oj) (hsj: ∀cs b,oj.op≠ .select cs b) {Q:Exit->Act->World->Prop} (hQ: ∀c a w,¬Q (.panic c) a w) {K:Act->World->Prop} :
  ∀(L:List Nat) (a a':Act) (w:World),(∀r∈L,∃o,ops[r]?=some o/\o.apart ops oj=true)->QS ops L a a'->wpOp P ops Q j K a' w->wpOp P ops Q j (λa2 w2=> ∃a3,QS ops L a2 a3/\K a3 w2) a w
 | [],a,a',w,_,hp,h=>by cases hp;exact wpOp_mono (λa2 w2 hk=>⟨a2,rfl,hk⟩) h
 |r::L,a,a',w,hap,⟨u,hp⟩,h=>by
  obtain ⟨o,ho,ha⟩:=hap r (Ky ..)
  have hd:dv ops r=o.dst:=by unfold dv;rw [ho];rfl
  rw [hd] at hp
  have ih:=yh hj hsj hQ L _ a' w (λq hq=>hap q (An _ hq)) hp h
  exact wpOp_mono (λa2 w2 ⟨a3,h1,h2⟩=>⟨a3,⟨u,by rw [hd];exact h1⟩,h2⟩) (VF hj ha hsj hQ ih)
def IH (ops:Array Oper):List Nat->Prop
 | []=>True
 |r::L=>(∀q∈r::L,∀o d,ops[r]?=some o->dv ops q=some d->d∉o.looksAt ops)/\(∀q∈L,∀d,dv ops r=some d->dv ops q≠some d)/\IH ops L
def wO (ops:Array Oper):List Nat->Prop
 | []=>True
 |r::L=>(∀q∈L,Region.waitsFor .any ops q r=true\/ ∀o d,ops[q]?=some o->dv ops r=some d->d∉o.looksAt ops)/\wO ops L
theorem IH.filter {p:Nat->Bool} : ∀ {L:List Nat},IH ops L->IH ops (L.filter p)
 | [],_=>trivial
 |r::L,⟨h1,h2,h3⟩=>by
  rw [List.filter_cons]
  split
  ·exact ⟨λq hq=>h1 q (by rcases Bd.1 hq with rfl|hq;exact Ky ..;exact An _ (Ce.1 hq).1),λq hq=>h2 q (Ce.1 hq).1,h3.filter⟩
  ·exact h3.filter
theorem wO.filter {p:Nat->Bool} : ∀ {L:List Nat},wO ops L->wO ops (L.filter p)
 | [],_=>trivial
 |r::L,⟨h1,h3⟩=>by
  rw [List.filter_cons]
  split
  ·exact ⟨λq hq=>h1 q (Ce.1 hq).1,h3.filter⟩
  ·exact h3.filter
theorem aq {i j:Nat} {p:Oper->Oper->Bool} (h:pQ ops i j p=true): ∃x y,ops[i]?=some x/\ops[j]?=some y/\p x y=true:=by
 unfold pQ at h
 split at h
 ·rename_i x y h1 h2;exact ⟨x,y,h1,h2,h⟩
 ·cases h
theorem gk {x y:Oper} (h:oC ops x y=true): ∀d,x.dst=some d->d∉y.looksAt ops:= λd hd=>by
 unfold oC at h
 rw [hd] at h
 simpa using h
theorem CQ {x y:Oper} (h:JF x y=true): ∀d,x.dst=some d->y.dst≠some d:= λd hd=>by
 unfold JF at h
 rw [hd] at h
 simpa using h
theorem cL {r:Nat} {o:Oper} (h:ops[r]?=some o):dv ops r=o.dst:=by unfold dv;rw [h];rfl
theorem qw: ∀ {E:List Nat},zy ops E=true->IH ops E/\wO ops E
 | [],_=>⟨trivial,trivial⟩
 |r::E,h=>by
  simp only [zy,Af,Bb] at h
  obtain ⟨⟨h1,h2⟩,h3⟩:=h
  obtain ⟨g1,g2⟩:=qw h3
  refine ⟨⟨λq hq o d ho hd=>?_,λq hq d hd=>?_,g1⟩,λq hq=>?_,g2⟩
  ·rcases Bd.1 hq with rfl|hq
   ·obtain ⟨x,y,hx,hy,hp⟩:=aq h1
    rw [ho] at hx hy;cases hx;cases hy
    rw [cL ho] at hd
    exact gk hp d hd
   ·obtain ⟨x,y,hx,hy,hp⟩:=aq (h2 q hq).1
    rw [ho] at hx;cases hx
    rw [cL hy] at hd
    exact gk (Bt.1 hp).2 d hd
  ·obtain ⟨x,y,hx,hy,hp⟩:=aq (h2 q hq).1
   rw [cL hx] at hd
   rw [cL hy]
   exact CQ (Bt.1 hp).1 d hd
  ·have h4:=(h2 q hq).2
   rw [Mh] at h4
   rcases h4 with h4|h4
   ·exact .inl h4
   ·refine .inr λo d ho hd=>?_
    obtain ⟨x,y,hx,hy,hp⟩:=aq h4
    rw [ho] at hy;cases hy
    rw [cL hx] at hd
    exact gk hp d hd
theorem Aee (hT:Eg P T) (Pu:Lj P Γ) {st:St} : ∀(L:List Nat) (a:Act),(∀r∈L,jY ops r=true/\ ∃o v,ops[r]?=some o/\Xz T Γ ops st o=some v/\ ∀d,o.dst=some d->st.get d=v)->IH ops L->
  Bh X π (Sz ops L st) a w-> ∃a',QS ops L a a'/\Bh X π st a' w
 | [],a,_,_,h=>⟨a,rfl,h⟩
 |r::L,a,hs,⟨f1,f2,f3⟩,h=>by
  obtain ⟨hr,o,v,ho,hv,hd⟩:=hs r (Ky ..)
  have hdo:=cL ho
  have DQ:Xz T Γ ops (Sz ops (r::L) st) o=some v:=by
   rw [HE (st:=st) (Ro _ _) λt ht=>(Ta _ _ _).2 λhm=>by
    obtain ⟨q,hq,he⟩:=Md.1 hm
    exact f1 q hq o t ho he ht]
   exact hv
  obtain ⟨u,_,hu⟩:=qB hT Pu h ho hr DQ
  have h2:=h.put o.dst hu
  have h3:Bh X π (Sz ops L st) (a.put o.dst u) w:=by
   refine u9 h2 ?_ ?_ λt=>?_
   ·rw [kf,Ro,Ro]
   ·rw [o0,Xf,Xf]
   ·obtain ⟨g1,g2⟩:=iT (Sz ops (r::L) st) o.dst v t
    by_cases he:o.dst=some t
    ·have IC:t∉kO ops L:= λhm=>by
      obtain ⟨q,hq,hqe⟩:=Md.1 hm
      exact f2 q hq t (by rw [hdo];exact he) hqe
     rw [(Ta L st t).2 IC,hd t he]
     rcases g1 he with g|g
     ·exact .inl g.symm
     ·by_cases hl:t<st.tmps.length
      ·refine .inl ?_
       rw [he]
       show v=((Ts (Sz ops (r::L) st).tmps t v).getD t .undef)
       rw [Ru,Ab ⟨rfl,by rw [Xf];exact hl⟩]
      ·refine .inr ?_
       rw [<-hd t he]
       unfold St.get
       rw [Ah,Eb (by omega)]
       rfl
    ·rw [g2 he]
     have:(Sz ops (r::L) st).get t=(Sz ops L st).get t:=(iT (Sz ops L st) (dv ops r) .undef t).2 (by rw [hdo];exact he)
     exact .inl this.symm
  obtain ⟨a',hp,gX⟩:=Aee hT Pu L _ (λq hq=>hs q (An _ hq)) f3 h3
  exact ⟨a',⟨u,by rw [hdo];exact hp⟩,gX⟩
theorem WL: ∀ {L:List Nat},IH ops L->wO ops L-> ∀ {i:Nat} {o:Oper},i∈L->ops[i]?=some o->(∀q∈L,Region.waitsFor .any ops i q=true->False)-> ∀q∈L,∀d,dv ops q=some d->d∉o.looksAt ops
 | [],_,_,i,_,hi,_,_=>by cases hi
 |r::L,⟨f1,f2,f3⟩,⟨b1,b2⟩,i,o,hi,ho,hw=> λq hq d hd=>by
  by_cases hir:i=r
  ·subst hir
   exact f1 q hq o d ho hd
  ·have mI:=(Bd.1 hi).resolve_left hir
   rcases Bd.1 hq with rfl|jW
   ·rcases b1 i mI with h|h
    ·exact (hw q hq h).elim
    ·exact h o d ho hd
   ·exact WL f3 b2 mI ho (λq hq=>hw q (An _ hq)) q jW d hd
theorem q7 {Ag:Array Bool} (aM:Ag.size=ops.size): ∀ {E:List Nat} {L:Array Bool} {r:Nat} {Q:List Nat},jl ops E L=true->(∀j,L.getD j false=true->Ag.getD j false=true)->Mr E Ag=r::Q->r∈Region.ready .any ops Ag
 | [],_,_,_,_,_,h=>by simp [Mr] at h
 |e::E,L,r,Q,hr,hl,hp=>by
  simp only [jl,Af,Ke] at hr
  unfold Mr at hp
  rw [List.filter_cons] at hp
  by_cases he:Ag.getD e false=true
  ·rw [Aj (by rw [he];simp)] at hp
   refine q7 aM hr.2 (λj hj=>?_) hp
   by_cases hej:e=j
   ·subst hej;exact he
   ·rw [getD_set_ne false hej] at hj;exact hl j hj
  ·have he:Ag.getD e false=false:=by simpa using he
   rw [Ab (by rw [he];rfl)] at hp
   injection hp with tb PH
   subst tb
   obtain ⟨_,o,ho,Lc⟩:=mem_ready.1 hr.1
   have Lq:e<Ag.size:=by rw [aM];exact (Nq.1 ho).1
   exact mem_ready.2 ⟨getD_in Lq he,o,ho,λx hx hb=>hl _ (Lc x hx hb)⟩
theorem eG {Ag:Array Bool} {j:Nat} (h:Ag.getD j true=false):j<Ag.size:=by
 rcases Nat.lt_or_ge j Ag.size with h'|h'
 ·exact h'
 ·simp [Array.getElem?_eq_none h'] at h
theorem wN (hT:Eg P T) (Pu:Lj P Γ) {Q:Exit->Act->World->Prop} (hQ: ∀c a w,¬Q (.panic c) a w) {K:St->Prop} (hK: ∀st a w,K st->Rel X st a w->Q .normal a w) (c5:Region.noSelect ops=true)
  {E:List Nat} {L0:Array Bool} (hE:cY ops E L0=true): ∀(n f:Nat) (Ag LA:Array Bool) (st:St) (a:Act) (w:World),n=f+(Mr E Ag).length->Ag.size=ops.size->LA.size=ops.size->
   (∀j,LA.getD j false=(Ag.getD j false||E.contains j))->Va ops Ag->(∀j,L0.getD j false=true->Ag.getD j false=true)->qU T Γ ops E K f LA st->Rel X (Sz ops (Mr E Ag) st) a w->wpAny P .any ops Q n Ag a w:=by
 simp only [cY,Af,Bb] at hE
 obtain ⟨⟨hre,hry⟩,hpr,hap⟩:=hE
 obtain ⟨Ako,qe⟩:=qw hpr
 have key: ∀(n f:Nat) (Ag LA:Array Bool) (st:St) (a:Act) (w:World),n=f+(Mr E Ag).length->Ag.size=ops.size->LA.size=ops.size->
   (∀j,LA.getD j false=(Ag.getD j false||E.contains j))->Va ops Ag->(∀j,L0.getD j false=true->Ag.getD j false=true)->qU T Γ ops E K f LA st->Rel X (Sz ops (Mr E Ag) st) a w->
   (∀j,j∈Region.ready .any ops Ag->j∉E->j∈Region.ready .any ops LA)/\(Region.ready .any ops Ag= []->Q .normal a w/\f=0/\Mr E Ag= []):=by
  intro n f Ag LA st a w hn gY oG hLA Rc WQ sR hrel
  have h1: ∀j,j∈Region.ready .any ops Ag->j∉E->j∈Region.ready .any ops LA:= λj hj hjE=>by
   obtain ⟨oH,o,ho,Lc⟩:=mem_ready.1 hj
   have Lq:=eG oH
   refine mem_ready.2 ⟨getD_in (by omega) ?_,o,ho,λe he hb=>by rw [hLA,Lc e he hb];rfl⟩
   rw [hLA,getD_both oH]
   simpa using hjE
  refine ⟨h1,λh0=>?_⟩
  cases hpe:Mr E Ag with
  |cons r L=>
   have:=q7 gY hry WQ hpe
   rw [h0] at this
   cases this
  |nil=>
   have Lc: ∀r,r∈E->Ag.getD r false=true:= λr hr=>by
    have:r∉Mr E Ag:=by rw [hpe];simp
    unfold Mr at this
    rw [Ce] at this
    by_cases hl:Ag.getD r false=true
    ·exact hl
    ·exact absurd ⟨hr,by simpa using hl⟩ this
   have hb: ∀j,j∈Region.ready .any ops LA->j∈Region.ready .any ops Ag:= λj hj=>by
    obtain ⟨oH,o,ho,hw⟩:=mem_ready.1 hj
    have Lq:=eG oH
    have he: ∀k,LA.getD k false=Ag.getD k false:= λk=>by
     rw [hLA]
     by_cases hk:k∈E
     ·rw [Lc k hk];rfl
     ·rw [show E.contains k=false by simpa using hk,ia]
    exact mem_ready.2 ⟨getD_in (by omega) (by rw [<-he];exact getD_both oH),o,ho,λe hx hbd=>by rw [<-he];exact hw e hx hbd⟩
   cases f with
   |zero=>
    obtain ⟨_,_,hk⟩:=sR
    rw [hpe] at hrel
    exact ⟨hK _ _ _ hk hrel,rfl,rfl⟩
   |succ f=>
    obtain ⟨_,Jd,_⟩:=sR
    obtain ⟨j,hj⟩:=List.exists_mem_of_ne_nil _ Jd
    have:=hb j hj
    rw [h0] at this
    cases this
 intro n
 induction n with
 |zero=>
  intro f Ag LA st a w hn gY oG hLA Rc WQ sR hrel
  obtain ⟨k1,k2⟩:=key 0 f Ag LA st a w hn gY oG hLA Rc WQ sR hrel
  have hf:f=0:=by omega
  have hp:Mr E Ag= []:=List.length_eq_zero_iff.1 (by omega)
  subst hf
  obtain ⟨_,hr,_⟩:=sR
  have h0:Region.ready .any ops Ag= []:=List.eq_nil_iff_forall_not_mem.2 λj hj=>by
   by_cases hjE:j∈E
   ·have oH:=getD_both (mem_ready.1 hj).1
    have:j∈Mr E Ag:=Ce.2 ⟨hjE,by rw [oH];rfl⟩
    rw [hp] at this
    cases this
   ·have:=k1 j hj hjE
    rw [hr] at this
    cases this
  exact ⟨h0,(k2 h0).1⟩
 |succ n ih=>
  intro f Ag LA st a w hn gY oG hLA Rc WQ sR hrel
  obtain ⟨k1,k2⟩:=key (n+1) f Ag LA st a w hn gY oG hLA Rc WQ sR hrel
  have Si:Aa7 T Γ ops E LA st:=by cases f<;>exact sR.1
  have XL: ∀r∈Mr E Ag,r∈E/\Ag.getD r false=false:= λr hr=>by
   obtain ⟨h1,h2⟩:=Ce.1 hr
   exact ⟨h1,by simpa using h2⟩
  have Afe: ∀r∈Mr E Ag,jY ops r=true/\ ∃o v,ops[r]?=some o/\Xz T Γ ops st o=some v/\ ∀d,o.dst=some d->st.get d=v:= λr hr=>by
   obtain ⟨h1,h2⟩:=XL r hr
   refine ⟨hre r h1,(Si r h1).resolve_left λhw=>?_⟩
   unfold s8 at hw
   obtain ⟨j,_,hj⟩:=Gh.1 hw
   simp only [Af,Es] at hj
   obtain ⟨hj1,hj2,hj3⟩:=hj
   rw [hLA,hj1,ia] at hj2
   have:=Rc j r hj2 hj3
   rw [h2] at this
   cases this
  refine ⟨λh0=>(k2 h0).1,λi hi=>?_⟩
  obtain ⟨π,hrel⟩:=hrel
  have hiw: ∀q∈Mr E Ag,Region.waitsFor .any ops i q=true->False:= λq hq hw=>by
   have:=cZ hi hw
   rw [(XL q hq).2] at this
   cases this
  obtain ⟨oH,oi,hoi,_⟩:=mem_ready.1 hi
  have Lq:=eG oH
  by_cases hiE:i∈E
  ·have VL:i∈Mr E Ag:=Ce.2 ⟨hiE,by rw [getD_both oH];rfl⟩
   obtain ⟨hrd,o,v,ho,hv,hd⟩:=Afe i VL
   have hnl:=WL (Ako.filter (p:= λr=>!Ag.getD r false)) (qe.filter (p:= λr=>!Ag.getD r false)) VL ho hiw
   have DQ:Xz T Γ ops (Sz ops (Mr E Ag) st) o=some v:=by
    rw [HE (st:=st) (Ro _ _) λt ht=>(Ta _ _ _).2 λhm=>by
     obtain ⟨q,hq,he⟩:=Md.1 hm
     exact hnl q hq t he ht]
    exact hv
   obtain ⟨u,hy,hu⟩:=qB hT Pu hrel ho hrd DQ
   refine hy Q _ ?_
   have hpe: ∀q,q∈Mr E (Ag.setIfInBounds i true)↔q∈Mr E Ag/\q≠i:= λq=>by
    unfold Mr
    rw [Ce,Ce]
    by_cases hqi:q=i
    ·subst hqi
     simp [Lq]
    ·rw [getD_set_ne false (Hm hqi)]
     exact ⟨λh=>⟨h,hqi⟩,λh=>h.1⟩
   have hlen:(Mr E Ag).length=(Mr E (Ag.setIfInBounds i true)).length+1:=by
    have IC: ∀(E:List Nat) (L:Array Bool),jl ops E L=true->E.Nodup/\ ∀r∈E,L.getD r true=false:=by
     intro E
     induction E with
     |nil=>exact λL _=>⟨Ns,λr hr=>by cases hr⟩
     |cons e E ihE=>
      intro L h
      simp only [jl,Af,Ke] at h
      obtain ⟨g1,g2⟩:=ihE _ h.2
      have he:=(mem_ready.1 h.1).1
      have l4:=eG he
      refine ⟨Cb.2 ⟨λhm=>?_,g1⟩,λr hr=>?_⟩
      ·have:=g2 e hm
       simp [l4] at this
      ·rcases Bd.1 hr with rfl|hr
       ·exact he
       ·have Jd:e≠r:= λe'=>by subst e';have:=g2 e hr;simp [l4] at this
        have:=g2 r hr
        rw [getD_set_ne true Jd] at this
        exact this
    have hEn:=(IC E L0 hry).1
    have As7: ∀L:List Nat,L.Nodup->i∈L->(L.filter λr=>!Ag.getD r false).length=(L.filter λr=>!(Ag.setIfInBounds i true).getD r false).length+1:=by
     intro L
     induction L with
     |nil=>exact λ_ h=>by cases h
     |cons x L ihL=>
      intro hn hm
      obtain ⟨hx,hn⟩:=Cb.1 hn
      rw [List.filter_cons,List.filter_cons]
      by_cases hxi:x=i
      ·subst hxi
       rw [Ab (by rw [getD_both oH];rfl),Aj (by simp [Lq])]
       have:L.filter (λr=>!Ag.getD r false)=L.filter (λr=>!(Ag.setIfInBounds x true).getD r false):=List.filter_congr λq hq=>by
        rw [getD_set_ne false (λe=>hx (by rw [e];exact hq))]
       rw [Ay,this]
      ·have hm:=(Bd.1 hm).resolve_left (Hm hxi)
       rw [getD_set_ne false (Hm hxi)]
       split
       ·rw [Ay,Ay,ihL hn hm]
       ·exact ihL hn hm
    exact As7 E hEn hiE
   refine ih f (Ag.setIfInBounds i true) LA st _ w (by omega) (by simp [gY]) oG (λj=>?_) (Rc.set hi) (λj hj=>getD_set_true (WQ j hj)) sR ⟨π,?_⟩
   ·rw [hLA]
    by_cases kD:i=j
    ·subst kD
     rw [show E.contains i=true by simpa using hiE,Bool.or_true,Bool.or_true]
    ·rw [getD_set_ne false kD]
   ·have h2:=hrel.put o.dst hu
    refine u9 h2 ?_ ?_ λt=>?_
    ·rw [kf,Ro,Ro]
    ·rw [o0,Xf,Xf]
    ·have hdo:=cL ho
     by_cases hm:t∈kO ops (Mr E (Ag.setIfInBounds i true))
     ·exact .inr ((Ta _ _ _).1 hm)
     ·rw [(Ta _ _ _).2 hm]
      obtain ⟨g1,g2⟩:=iT (Sz ops (Mr E Ag) st) o.dst v t
      by_cases he:o.dst=some t
      ·rw [hd t he]
       rcases g1 he with g|g
       ·exact .inl g.symm
       ·by_cases hl:t<st.tmps.length
        ·refine .inl ?_
         rw [he]
         show v=((Ts (Sz ops (Mr E Ag) st).tmps t v).getD t .undef)
         rw [Ru,Ab ⟨rfl,by rw [Xf];exact hl⟩]
        ·refine .inr ?_
         rw [<-hd t he]
         unfold St.get
         rw [Ah,Eb (by omega)]
         rfl
      ·rw [g2 he]
       refine .inl ((Ta _ _ _).2 λhm2=>?_).symm
       obtain ⟨q,hq,hqe⟩:=Md.1 hm2
       by_cases hqi:q=i
       ·subst hqi
        rw [hdo] at hqe
        exact he hqe
       ·exact hm (Md.2 ⟨q,(hpe q).2 ⟨hq,hqi⟩,hqe⟩)
  ·cases f with
   |zero=>
    obtain ⟨_,hr,_⟩:=sR
    have:=k1 i hi hiE
    rw [hr] at this
    cases this
   |succ f=>
    obtain ⟨_,_,Al5⟩:=sR
    obtain ⟨o,st',ho,he,gA⟩:=Al5 i (k1 i hi hiE)
    obtain ⟨a',XO,Vu⟩:=Aee hT Pu (Mr E Ag) a Afe Ako.filter hrel
    have XU:wpOp P ops Q i (λa2 w2=>Rel X st' a2 w2) a' w:=by
     unfold wpOp
     simp only [ho]
     exact Wu hT Pu Vu o he λa2 w2 h2=>h2
    have yN:=yh (Q:=Q) ho (λcs b=>Region.noSelect_spec c5 i o cs b ho) hQ (Mr E Ag) a a' w (λr hr=>?_) XO XU
    ·refine wpOp_mono (λa2 w2 hk=>?_) yN
     obtain ⟨a3,hp3,π3,hr3⟩:=hk
     have hpe:Mr E (Ag.setIfInBounds i true)=Mr E Ag:=by
      unfold Mr
      refine List.filter_congr λq hq=>?_
      rw [getD_set_ne false (λe=>hiE (by rw [e];exact hq))]
     refine ih f (Ag.setIfInBounds i true) (LA.setIfInBounds i true) st' a2 w2 (by rw [hpe];omega) (by simp [gY]) (by simp [oG]) (λj=>?_) (Rc.set hi) (λj hj=>getD_set_true (WQ j hj)) gA ⟨π3,by rw [hpe];exact ZX hp3 hr3⟩
     by_cases kD:i=j
     ·subst kD
      simp [Lq,gY▸Lq,oG]
     ·rw [getD_set_ne false kD,getD_set_ne false kD,hLA]
    ·obtain ⟨hrE,hrl⟩:=XL r hr
     have h3:=Bb.1 (Bb.1 hap r hrE) i (Et.2 (by omega))
     simp only [Mh] at h3
     rcases h3 with ((h3|h3)|h3)|h3
     ·exact absurd (by simpa using h3) hiE
     ·have:=WQ i h3
      rw [getD_both oH] at this
      cases this
     ·exact (hiw r hr h3).elim
     ·obtain ⟨x,y,hx,hy,hp⟩:=aq h3
      rw [ho] at hy;cases hy
      exact ⟨x,hx,hp⟩
theorem nk: ∀(E:List Nat) (s0 s1:St),Gj T Γ ops E s0=some s1->s1.heap=s0.heap/\s1.tmps.length=s0.tmps.length/\ ∀t,t∉kO ops E->s1.get t=s0.get t
 | [],s0,s1,h=>by
  simp only [Gj,Aa] at h
  subst h
  exact ⟨rfl,rfl,λ_ _=>rfl⟩
 |r::E,s0,s1,h=>by
  simp only [Gj] at h
  split at h
  ·cases h
  rename_i o ho
  split at h
  rotate_left
  ·cases h
  rename_i v hv
  obtain ⟨h1,h2,h3⟩:=nk E _ _ h
  refine ⟨by rw [h1,kf],by rw [h2,o0],λt ht=>?_⟩
  rw [h3 t λhm=>ht (by obtain ⟨q,hq,he⟩:=Md.1 hm;exact Md.2 ⟨q,An _ hq,he⟩)]
  exact (iT s0 o.dst v t).2 λe=>ht (Md.2 ⟨r,Ky ..,by rw [cL ho];exact e⟩)
theorem xC: ∀ {E:List Nat} {L0:Array Bool},jl ops E L0=true-> ∀r∈E,L0.getD r true=false
 | [],_,_,_,hr=>by cases hr
 |e::E,L0,h,r,hr=>by
  simp only [jl,Af,Ke] at h
  have he:=(mem_ready.1 h.1).1
  rcases Bd.1 hr with rfl|hr
  ·exact he
  ·have h2:=xC h.2 r hr
   have Jd:e≠r:= λe'=>by subst e';simp [eG he] at h2
   rw [getD_set_ne true Jd] at h2
   exact h2
theorem wM (hT:Eg P T) (Pu:Lj P Γ) {Q:Exit->Act->World->Prop} (hQ: ∀c a w,¬Q (.panic c) a w) {K:St->Prop} (hK: ∀st a w,K st->Rel X st a w->Q .normal a w) (c5:Region.noSelect ops=true)
  {E:List Nat} {L0:Array Bool} (hE:cY ops E L0=true) {n:Nat} (hn:E.length<=n) {cC st1:St} (h1:Gj T Γ ops E cC=some st1) (h2:qU T Γ ops E K (n-E.length) (Em E L0) st1)
  (aM:L0.size=ops.size) (Rc:Va ops L0) {a:Act} {w:World} (hr:Rel X cC a w):wpAny P .any ops Q n L0 a w:=by
 have hE':=hE
 simp only [cY,Af] at hE'
 have oH:=xC hE'.1.2
 have hp:Mr E L0=E:=List.filter_eq_self.2 λr hr=>by rw [getD_both (oH r hr)];rfl
 refine wN hT Pu hQ hK c5 hE n (n-E.length) L0 (Em E L0) st1 a w (by rw [hp];omega) aM (by rw [Xb];exact aM) (λj=>?_) Rc (λj hj=>hj) h2 ?_
 ·by_cases hj:j∈E
  ·rw [fC E L0 j hj (eG (oH j hj)),show E.contains j=true by simpa using hj,Bool.or_true]
  ·rw [dC E L0 j hj,show E.contains j=false by simpa using hj,ia]
 ·obtain ⟨π,hr⟩:=hr
  obtain ⟨g1,g2,g3⟩:=nk E _ _ h1
  refine ⟨π,u9 hr (by rw [Ro,g1]) (by rw [Xf,g2]) λt=>?_⟩
  rw [hp]
  by_cases ht:t∈kO ops E
  ·exact .inr ((Ta _ _ _).1 ht)
  ·exact .inl (((Ta _ _ _).2 ht).trans (g3 t ht))
theorem Ym (live:List Nat): ∀(i:Nat) (l:List AV),(Iz live i l).length=l.length
 |_,[]=>rfl
 |i,v::r=>by simp [Iz,Ym live (i+1) r]
theorem bQ (live:List Nat): ∀(i:Nat) (l:List AV) (t:Nat),(Iz live i l).getD t .undef= .undef\/(Iz live i l).getD t .undef=l.getD t .undef
 |_,[],t=> .inr rfl
 |i,v::r,0=>by
  simp only [Iz,Yg]
  split
  ·exact .inr rfl
  ·exact .inl rfl
 |i,v::r,t+1=>by
  simp only [Iz,Nz]
  exact bQ live (i+1) r t
theorem dx: ∀(l:List Nat) (st:St) (a:Act) (w:World),Rel X st a w->Rel X (bq l st) a w
 | [],_,_,_,h=>h
 |k::r,_,a,w,⟨_,h⟩=>dx r _ a w ⟨_,h.forget k⟩
theorem UH (dead:List Nat) {st:St} {a:Act} {w:World} (h:Rel X st a w):Rel X (st.Ri dead) a w:=by
 obtain ⟨π,h⟩:=h
 unfold St.Ri
 refine dx _ _ a w ⟨π,h.1,⟨by simp [Ym,h.2.size],h.2.defers,λt=>?_⟩⟩
 show Bl X w π st.heap ((Iz _ 0 st.tmps).getD t .undef) _
 rcases bQ ((List.range st.tmps.length).filter λt=>!dead.contains t) 0 st.tmps t with e|e
 ·rw [e];trivial
 ·rw [e];exact h.2.tmps t
theorem qC (hT:Eg P T) (Pu:Lj P Γ) (hm:P.follows .mixedOrders=true) {Q:Exit->Act->World->Prop} {id:Nat} {draw:Bool} {st:St} {K:St->Prop} {a:Act} (h:Rel X st a w)
  (he:kJ T Γ ops draw st K) (hQ: ∀st' a' w',K st'->Rel X st' a' w'->Q .normal a' w'):(Code.region id ops draw).wp P Q a w:=by
 rcases he with ⟨st',h1,h2⟩|⟨rfl,c5,cC,h1,h2⟩
 ·exact oU hT Pu hm h h1 λa' w' h'=>hQ st' a' w' h2 h'
 ·refine wp_mono (Q:= λe a w=>e= .normal/\Q .normal a w) ?_ λe a w h=>h.1▸h.2
  refine wp_region_any hm ?_
  have hrel:Rel X st a {w with drawn:=w.drawn+1} :=by
   obtain ⟨π,h⟩:=h
   exact ⟨π,h.quiet ⟨rfl,rfl,rfl,Ap _,λ_ _=>rfl⟩⟩
  have hlen:(Le ops).length<=ops.size:=by
   have:=dD (ops:=ops) (!jO false ops) (List.range ops.size) (Array.replicate ops.size false)
   rw [List.length_range] at this
   exact this
  have XJ:(Array.replicate ops.size false).size=ops.size:=by simp
  have hmv:(Em (Le ops) (Array.replicate ops.size false)).size=ops.size:=by rw [Xb,XJ]
  have:=cA hT (!jO false ops) (X:=X) (P:=P) (T:=T) (Γ:=Γ) (Q:= λe a w=>e= .normal/\Q .normal a w) (n:=ops.size-(Le ops).length) (st1:=cC) (λc a w hq=>by cases hq.1) c5 (List.range ops.size) (Array.replicate ops.size false) st a _ h1 hrel λa' w' h'=>by
   rcases h2 with h2|⟨E,st1,hE,hEn,hE1,hE2⟩
   ·exact lF hT Pu (λst' a' w' hk hr=>⟨rfl,hQ st' a' w' hk hr⟩) _ _ _ _ _ h2 h'
   ·exact wM hT Pu (λc a w hq=>by cases hq.1) (λst' a' w' hk hr=>⟨rfl,hQ st' a' w' hk hr⟩) c5 hE hEn hE1 hE2 hmv (aV _ _ _ pY) h'
  have e:(Kb (!jO false ops) ops (List.range ops.size) (Array.replicate ops.size false)).length+(ops.size-(Le ops).length)=ops.size:=by
   have e2:(Kb (!jO false ops) ops (List.range ops.size) (Array.replicate ops.size false)).length=(Le ops).length:=rfl
   omega
  rw [e] at this
  exact this
theorem MA (hT:Eg P T) (Pu:Lj P Γ) (hm:P.follows .mixedOrders=true) {Q:Exit->Act->World->Prop} {id:Nat} {draw:Bool} {st:St} {K:St->Prop} {a:Act} (h:Rel X st a w)
  (he:yk T Γ ops draw st K) (hQ: ∀st' a' w',K st'->Rel X st' a' w'->Q .normal a' w'):(Code.region id ops draw).wp P Q a w:=by
 rcases he with he|⟨dead,_,he⟩
 ·exact qC hT Pu hm h he hQ
 ·exact qC hT Pu hm h he λst' a' w' hk hr=>hQ _ a' w' hk (UH dead hr)
end
end Go.Proofs.YtkkdpknjohcekaaGreat
