/-
  Part 25 of the proof that the statement FnNoShorterSolution holds.
-/
import Derived.Test.YtkkdpknjohcekaaGreatCFNoShorterSolution23
namespace Go.Proofs.YtkkdpknjohcekaaGreat
open Go.RowKit
section
variable {P:Program} {T:Tab} {Γ:Env} {X:Ctx} {w w':World} {π:Pi} {ops:Array Oper} {hd tl:List Nat}
structure Zs (ops:Array Oper) (tl fl:List Nat) (Ah:Array Bool):Prop where
 size:Ah.size=ops.size
 done: ∀i,i∈fl->Ah.getD i false=true
 closed: ∀j oj,ops[j]?=some oj->Ah.getD j false=true-> ∀e∈oj.after,Region.binds .any e=true->Ah.getD e.on false=true
 tail: ∀t,t∈tl->Ah.getD t true=false
theorem Zs.set {fl:List Nat} {i:Nat} {Ah:Array Bool} (inv:Zs ops tl fl Ah) (hi:i∈Region.ready .any ops Ah) (iu:i∉tl):Zs ops tl fl (Ah.setIfInBounds i true):=by
 obtain ⟨_,oi,hoi,Jt⟩:=mem_ready.1 hi
 refine ⟨by simp [inv.size],λk hk=>getD_set_true (inv.done k hk),λj oj hj hl e he hb=>?_,λt ht=>by
  have Jr:i≠t:= λe=>iu (by rw [e];exact ht)
  rw [getD_set_ne true Jr];exact inv.tail t ht⟩
 by_cases jh:i=j
 ·subst jh
  have:oj=oi:=Bc (hj.symm.trans hoi)
  subst this
  exact getD_set_true (Jt e he hb)
 ·rw [getD_set_ne false jh] at hl
  exact getD_set_true (inv.closed j oj hj hl e he hb)
theorem JR (k:Nat) (r:List Nat) (h:(r.all λt=>(k::r).any λk=>Region.waitsFor .any ops t k)=true): ∀t,t∈r-> ∃k',(k'=k\/k'∈r)/\Region.waitsFor .any ops t k'=true:= λt ht=>by
 obtain ⟨k',h1,h2⟩:=Fh.1 (Az.1 h t ht)
 exact ⟨k',Bg.1 h1,h2⟩
theorem HR {fl:List Nat} {Ah:Array Bool} (hs:uG ops hd tl=true) (inv:Zs ops tl fl Ah) (aH: ∀i,i∈hd->i<ops.size):
  ∀(d i:Nat),ops.size-i=d->i∈hd->Ah.getD i true=false-> ∀t,t∈tl->t∉Region.ready .any ops Ah:=by
 cases tl with
 |nil=>intro d i _ _ _ t ht;cases ht
 |cons f r=>
  simp only [uG,Af] at hs
  obtain ⟨jk,rv⟩:=hs
  intro d
  induction d using Nat.strongRecOn with
  |_ d ih=>
   intro i xr hi oP t ht hr
   obtain ⟨_,ot,hot,Jt⟩:=mem_ready.1 hr
   rcases Bg.1 ht with rfl|nP
   ·have h1:=Az.1 jk i hi
    obtain ⟨j,hj,hj2⟩:=Fh.1 h1
    simp only [Af,Rn] at hj2
    obtain ⟨oj,hoj,e,he,hb,hon⟩:=Region.waitsFor_spec hj2.2
    rcases Bg.1 hj with rfl|hjh
    ·have:oj=ot:=Bc (hoj.symm.trans hot)
     subst this
     have h2:=Jt e he hb
     rw [hon,getD_both oP] at h2
     cases h2
    ·cases hl:Ah.getD j false with
     |true=>
      have h2:=inv.closed j oj hoj hl e he hb
      rw [hon,getD_both oP] at h2
      cases h2
     |false=>
      have hjs:j<Ah.size:=by rw [inv.size];exact aH j hjh
      have:=aH j hjh
      exact ih (ops.size-j) (by omega) j rfl hjh (getD_in hjs hl) t (by simp) hr
   ·obtain ⟨k',h1,h2⟩:=JR f r rv t nP
    obtain ⟨o',ho',e,he,hb,hon⟩:=Region.waitsFor_spec h2
    have:o'=ot:=Bc (ho'.symm.trans hot)
    subst this
    have h3:=Jt e he hb
    have hk:k'∈f::r:=by rcases h1 with rfl|h1<;>simp [*]
    rw [hon,getD_both (inv.tail k' hk)] at h3
    cases h3
def WT (T:Tab) (Γ:Env) (ops:Array Oper) (hd:List Nat) (L:Array Bool->St->Prop):Nat->Array Bool->St->Prop
 |0,Ah,st=>L Ah st
 |f+1,Ah,st=>
  Region.ready .any ops Ah≠ []/\ ∀i∈Region.ready .any ops Ah,i∈hd/\ ∃o v,ops[i]?=some o/\Xk T Γ ops st o=some v/\WT T Γ ops hd L f (Ah.setIfInBounds i true) (st.put o.dst v)
theorem BZ (hT:Ed P T) (Po:Ll P Γ) {Q:Exit->Act->World->Prop} {K:Act->World->Prop} {st:St} {a:Act} (h:Rel X st a w) {i:Nat} {o:Oper} {v:AV} (ho:ops[i]?=some o) (hv:Xk T Γ ops st o=some v)
  (hK: ∀a' w',Rel X (st.put o.dst v) a' w'->K a' w'):wpOp P ops Q i K a w:=by
 obtain ⟨π,h⟩:=h
 have run:Xn T Γ st o=some v->o.wp P a w K Q:= λhe=>qX (X:=X) (st':=st) (av:=v) (DQ hT Po h o v he) hK
 have skip:v= .at .skip->K (a.put o.dst undef) w:= λe=>by subst e;exact hK _ _ ⟨π,h.put o.dst HH⟩
 unfold wpOp
 simp only [ho]
 unfold Xk at hv
 split at hv
 ·rename_i hg
  rw [Ab (by simp [Region.wanted,hg])]
  exact .inl (run hv)
 ·rename_i j want hg
  split at hv
  ·rename_i b hb
   have hy:=(fv h j).1 b hb
   split at hv
   ·rename_i YA
    rw [Ab (by simp only [Region.wanted,hg,hy];simpa using YA)]
    exact .inl (run hv)
   ·rename_i YA
    rw [Ai (by simp only [Region.wanted,hg,hy];simpa using YA)]
    simp only [Aa] at hv
    exact skip hv.symm
  ·rename_i hb
   have hy:=(fv h j).2 hb
   rw [Ai (by simp [Region.wanted,hg,hy])]
   simp only [Aa] at hv
   exact skip hv.symm
  ·cases hv
theorem lW (hT:Ed P T) (Po:Ll P Γ) {g:Nat} {L:Array Bool->St->Prop} {Q:Exit->Act->World->Prop} (hL: ∀Ah st a w,L Ah st->Rel X st a w->wpAny P .any ops Q g Ah a w):
  ∀(f:Nat) (Ah:Array Bool) (st:St) (a:Act) (w:World),WT T Γ ops hd L f Ah st->Rel X st a w->wpAny P .any ops Q (f+g) Ah a w
 |0,Ah,st,a,w,h,hr=>by rw [Ce];exact hL _ _ _ _ h hr
 |f+1,Ah,st,a,w,h,hr=>by
  rw [show f+1+g=(f+g)+1 by omega]
  refine ⟨λh0=>absurd h0 h.1,λi hi=>?_⟩
  obtain ⟨_,o,v,ho,hv,gS⟩:=h.2 i hi
  exact BZ hT Po hr ho hv λa' w' h'=>lW hT Po hL f _ _ _ _ gS h'
theorem JB {fl:List Nat} {i:Nat} {oi:Oper} {v:AV} {L:Array Bool->St->Prop} (hi:ops[i]?=some oi) (hs:uG ops hd tl=true) (aH: ∀i,i∈hd->i<ops.size) (iu:i∈hd)
  (Jt: ∀j,j<ops.size->j∈fl\/j∈hd\/j∈tl) (EI: ∀j,j∈hd->j∉tl) (Alm: ∀Ah st,L Ah st-> ∀j∈Region.ready .any ops Ah,j∈tl):
  ∀(f:Nat) (Ah:Array Bool) (st:St),Zs ops tl fl Ah->
   (∀j oj,ops[j]?=some oj->j≠i->Ah.getD j true=false->(∀e∈oj.after,Region.binds .any e=true->e.on≠i)->oi.apart ops oj=true)->
   i∈Region.ready .any ops Ah->Xk T Γ ops st oi=some v->
   WT T Γ ops hd L f (Ah.setIfInBounds i true) (st.put oi.dst v)->WT T Γ ops hd L (f+1) Ah st:=by
 intro f
 have Anf: ∀Ah,Zs ops tl fl Ah->i∈Region.ready .any ops Ah-> ∀j,j∈Region.ready .any ops Ah->j∈hd:=by
  intro Ah inv hr j hj
  obtain ⟨oP,oj,hoj,_⟩:=mem_ready.1 hj
  rcases Jt j (Nt.1 hoj).1 with h|h|h
  ·have h1:=inv.done j h
   rw [getD_both oP] at h1;cases h1
  ·exact h
  ·exact absurd hj (HR hs inv aH _ i rfl iu (mem_ready.1 hr).1 j h)
 induction f with
 |zero=>
  intro Ah st inv _ hr hv Hh
  refine ⟨λh=>(by rw [h] at hr;cases hr),λj hj=>?_⟩
  have hjh:=Anf Ah inv hr j hj
  refine ⟨hjh,?_⟩
  by_cases s7:j=i
  ·subst s7;exact ⟨oi,v,hi,hv,Hh⟩
  ·exact absurd (Alm _ _ Hh j (ready_mono hj s7)) (EI j hjh)
 |succ f ih=>
  intro Ah st inv nN hr hv Hh
  have oP:=(mem_ready.1 hr).1
  refine ⟨λh=>(by rw [h] at hr;cases hr),λj hj=>?_⟩
  have hjh:=Anf Ah inv hr j hj
  refine ⟨hjh,?_⟩
  by_cases s7:j=i
  ·subst s7;exact ⟨oi,v,hi,hv,Hh⟩
  ·obtain ⟨_,oj,vj,hoj,hvj,gS⟩:=Hh.2 j (ready_mono hj s7)
   obtain ⟨Aly,oj',Ash,Alc⟩:=mem_ready.1 hj
   have:oj'=oj:=Bc (Ash.symm.trans hoj)
   subst this
   have tA: ∀e∈oj'.after,Region.binds .any e=true->e.on≠i:= λe he hb heq=>by
    have h1:=Alc e he hb
    rw [heq,getD_both oP] at h1
    cases h1
   obtain ⟨p1,p2,p3⟩:=Oper.apart_spec (nN j oj' hoj s7 Aly tA)
   rw [HX p1] at hvj
   refine ⟨oj',vj,hoj,hvj,?_⟩
   have Ahr: ∀k ok,ops[k]?=some ok->k≠i->(Ah.setIfInBounds j true).getD k true=false->
     (∀e∈ok.after,Region.binds .any e=true->e.on≠i)->oi.apart ops ok=true:= λk ok hk hki An2 hno=>by
    refine nN k ok hk hki ?_ hno
    by_cases hjk:j=k
    ·subst hjk;exact Aly
    ·rw [getD_set_ne true hjk] at An2;exact An2
   refine ih (Ah.setIfInBounds j true) (st.put oj'.dst vj) (inv.set hj (EI j hjh)) Ahr (ready_mono hr (Hs s7)) (by rw [HX p3];exact hv) ?_
   rw [Array.setIfInBounds_comm _ _ s7,<-St.put_comm st v vj p2]
   exact gS
theorem qN: ∀(l:List Nat) (Ah:Array Bool),oh ops l Ah=true-> ∀j∈Region.ready .any ops Ah,j∈l
 | [],Ah,h,j,hj=>by simp only [oh,List.isEmpty_iff] at h;rw [h] at hj;cases hj
 |k::r,Ah,h,j,hj=>by
  simp only [oh,Af,Mi,Rn] at h
  rcases h.1 with h1|h1
  ·rw [h1] at hj
   simp at hj
   simp [hj]
  ·by_cases e:j=k
   ·simp [e]
   ·exact Ao _ (qN r _ h.2 j (ready_mono hj e))
theorem CF {fl:List Nat} (bY:Region.noSelect ops=true) (hs:uG ops hd tl=true) (aH: ∀i,i∈hd->i<ops.size) (Jt: ∀j,j<ops.size->j∈fl\/j∈hd\/j∈tl) (EI: ∀j,j∈hd->j∉tl) (st':St):
  ∀(l:List Nat) (Ah:Array Bool) (st:St),(∀i,i∈l->i∈hd)->Zs ops tl fl Ah->pf ops tl l Ah=true->Ge T Γ ops l st=some st'->
  WT T Γ ops hd (λzo s=>oh ops tl zo=true/\s=st') l.length Ah st
 | [],Ah,st,_,_,hB,he=>by
  simp only [Ge,Aa] at he
  exact ⟨by simpa [pf] using hB,he⟩
 |k::l,Ah,st,hl,inv,hB,he=>by
  simp only [pf,Af] at hB
  obtain ⟨⟨hr,hf⟩,hB'⟩:=hB
  have hkh:=hl k (by simp)
  have kU:k∈Region.ready .any ops Ah:=by simpa using hr
  simp only [Ge] at he
  split at he
  ·cases he
  ·rename_i o ho
   split at he
   ·rename_i v hv
    exact JB ho hs aH hkh Jt EI (λzo s hL=>qN tl zo hL.1) l.length Ah st inv (Region.free_spec ho hf) kU hv
     (CF bY hs aH Jt EI st' l _ _ (λi hi=>hl i (by simp [hi])) (inv.set kU (EI k hkh)) hB' he)
   ·cases he
theorem yV {Q:Exit->Act->World->Prop} (hQ: ∀e a w,Q e a w->e= .normal) {k i:Nat} {x:Operand} {o:Oper} (ho:ops[k]?=some o) (sa:o.op= .extract x i) (hg:o.guard=none) {K:Act->World->Prop} {a:Act} {w:World}
  (h:wpOp P ops Q k K a w): ∃v,Yields P ops o v a/\K (a.put o.dst v) w:=by
 unfold wpOp at h
 simp only [ho] at h
 have hw:Region.wanted o (yielded ops a.tmps)=true:=by simp [Region.wanted,hg]
 rw [Ab hw] at h
 rcases h with h|⟨_,a',w',h⟩
 ·unfold Oper.wp at h
  have hr: ∀w,(execOp a.eval o).run P w=(do pure (Next.value (<-Instr.extract (a.eval x) i))).run P w:= λw=>by unfold execOp;rw [sa]
  rw [hr] at h
  unfold Instr.extract at h hr
  split at h
  ·rename_i vs hx
   split at h
   ·rename_i v hv
    rw [hx] at hr
    simp only [hv] at hr
    exact ⟨v, .inl ⟨hw,λw=>(hr w).trans rfl⟩,h⟩
   ·exact h.elim
  ·exact h.elim
 ·cases hQ _ _ _ h
theorem dT {Q:Exit->Act->World->Prop} (hQ: ∀e a w,Q e a w->e= .normal) (bY:Region.noSelect ops=true): ∀(l:List Nat) (Ah:Array Bool) (a:Act) (w:World),oh ops l Ah=true->wpOps P ops Q l a w->wpAny P .any ops Q l.length Ah a w
 | [],Ah,a,w,hB,h=>⟨by simpa [oh] using hB,h⟩
 |k::r,Ah,a,w,hB,h=>by
  simp only [oh,Af,Mi,Rn] at hB
  rw [wpOps_cons] at h
  rcases hB.1 with h0|⟨h1,h2,h3⟩
  ·refine ⟨λh1=>(by rw [h0] at h1;cases h1),λi hi=>?_⟩
   rw [h0] at hi
   have hik:i=k:=by simpa using hi
   subst hik
   exact wpOp_mono (λa' w' h'=>dT hQ bY r _ a' w' hB.2 h') h
  ·unfold ZK at h1
   split at h1
   ·rename_i o ho
    split at h1
    ·rename_i x i sa hg
     obtain ⟨v,hy,hk⟩:=yV hQ ho sa hg h
     exact wpAny_take ho bY h3 h2 (λc a w hq=>by cases hQ _ _ _ hq) hy (dT hQ bY r _ _ w hB.2 hk)
    ·cases h1
   ·cases h1
theorem nI {P:Program} {o:Oper} {t:Tmp} {a:Act} (h:o.op= .move (.tmp t)) (hg:o.guard=none):Yields P ops o (a.tmps.getD t undef) a:=by
 refine .inl ⟨by simp [Region.wanted,hg],λw=>?_⟩
 unfold execOp
 rw [h]
 rfl
theorem ze {hd tl:List Nat} {i:Nat} (h:nQ ops hd tl i=true): ∃o t,ops[i]?=some o/\o.op= .move (.tmp t)/\o.guard=none:=by
 unfold nQ at h
 split at h
 ·rename_i o ho
  simp only [Af] at h
  have h1:=h.1
  split at h1
  ·rename_i t h2 h3
   exact ⟨o,t,ho,h2,h3⟩
  ·cases h1
 ·cases h
theorem ij {q:Bool} {hd:List Nat} {Q:Exit->Act->World->Prop} (hQ: ∀c a w,¬Q (.panic c) a w) (bY:Region.noSelect ops=true) {n:Nat} {st1:St}
  (gS: ∀Ah st a w,(∀j oj,ops[j]?=some oj->Ah.getD j false=true-> ∀e∈oj.after,Region.binds .any e=true->Ah.getD e.on false=true)->Ah.size=ops.size->pf ops tl hd Ah=true->st=st1->Rel X st a w->
   (∀j,Ah.getD j false=true↔j∈Wg q Γ ops)->wpAny P .any ops Q n Ah a w):
  ∀(l dn:List Nat) (Ah:Array Bool) (st:St) (a:Act) (w:World),(∀j,j∈Wg q Γ ops↔j∈dn\/j∈l)->(∀i,i∈l-> ∃o t,ops[i]?=some o/\o.op= .move (.tmp t)/\o.guard=none)->
   (∀j oj,ops[j]?=some oj->Ah.getD j false=true-> ∀e∈oj.after,Region.binds .any e=true->Ah.getD e.on false=true)->Ah.size=ops.size->(∀j,Ah.getD j false=true↔j∈dn)->
   nH ops tl hd l Ah=true->Ge T Γ ops l st=some st1->Rel X st a w->wpAny P .any ops Q (l.length+n) Ah a w
 | [],dn,Ah,st,a,w,hm,_,hc,aH,hdn,hf,he,hr=>by
  simp only [Ge,Aa] at he
  rw [Ex,Ce]
  exact gS Ah st a w hc aH (by simpa [nH] using hf) he hr λj=>by rw [hdn j,hm j];simp
 |k::l,dn,Ah,st,a,w,hm,hl,hc,aH,hdn,hf,he,hr=>by
  simp only [nH,Af] at hf
  obtain ⟨⟨h1,h2⟩,h3⟩:=hf
  obtain ⟨o,t,ho,sa,hg⟩:=hl k (by simp)
  have vP:k∈Region.ready .any ops Ah:=by simpa using h1
  obtain ⟨_,o',ho',Jt⟩:=mem_ready.1 vP
  have ho2:o'=o:=Bc (ho'.symm.trans ho)
  subst ho2
  have hks:k<Ah.size:=by rw [aH];exact (Nt.1 ho).1
  simp only [Ge,ho] at he
  have hv:Xk T Γ ops st o'=some (st.get t):=by simp only [Xk,hg,Xn,Fc,sa];rfl
  rw [hv] at he
  rw [Ay,show l.length+1+n=(l.length+n)+1 by omega]
  refine wpAny_take ho bY h2 h1 (λc a w hq=>absurd hq (hQ c _ w)) (nI sa hg) ?_
  obtain ⟨π,hr⟩:=hr
  refine ij hQ bY gS l (k::dn) _ _ _ _ (λj=>by rw [hm j,Bg,Bg];exact ⟨λh=>h.elim (λh=> .inl (.inr h)) (λh=>h.elim (λh=> .inl (.inl h)) .inr),λh=>h.elim (λh=>h.elim (λh=> .inr (.inl h)) .inl) (λh=> .inr (.inr h))⟩) (λi hi=>hl i (by simp [hi])) ?_ (by simp [aH]) (λj=>?_) h3 he ⟨π,hr.put o'.dst (hr.2.tmps t)⟩
  ·intro j oj hj hlj e hem hb
   by_cases WN:k=j
   ·subst WN
    have:oj=o':=Bc (hj.symm.trans ho)
    subst this
    exact getD_set_true (Jt e hem hb)
   ·rw [getD_set_ne false WN] at hlj
    exact getD_set_true (hc j oj hj hlj e hem hb)
  ·by_cases WN:k=j
   ·subst WN
    refine ⟨λ_=>by simp,λ_=>?_⟩
    simp [hks]
   ·rw [getD_set_ne false WN,hdn j]
    simp [Hs WN]
theorem gP {ops:Array Oper} : ∀(a b:List Nat) (st st':St),Ge T Γ ops (a++b) st=some st'-> ∃s,Ge T Γ ops a st=some s/\Ge T Γ ops b s=some st'
 | [],b,st,st',h=>⟨st,rfl,h⟩
 |i::a,b,st,st',h=>by
  simp only [Tf,Ge] at h⊢
  split at h
  ·cases h
  ·split at h
   ·exact gP a b _ st' h
   ·cases h
theorem p8 (hT:Ed P T) (Po:Ll P Γ) (hm:P.follows .mixedOrders=true) {Q:Exit->Act->World->Prop} {id:Nat} {draw:Bool} {st st':St} {a:Act} (h:Rel X st a w)
  (he:Sh T Γ ops draw st=some st') (hQ: ∀a' w',Rel X st' a' w'->Q .normal a' w'):(Code.region id ops draw).wp P Q a w:=by
 unfold Sh at he
 cases draw with
 |false=>
  rw [Ai (by simp)] at he
  exact wp_region_list (ld hT Po ops.toList st st' a w h he hQ)
 |true=>
  rw [Ab rfl] at he
  have go: ∀(q:Bool),cV q Γ ops=true->(match Ge T Γ ops (kx q Γ ops) st with
    |some st'=>Nj T Γ ops (Kb q Γ ops) st'
    |none=>none)=some st'->(Code.region id ops true).wp P Q a w:=by
   intro q dX he
   split at he
   ·rename_i st1 h1
    simp only [cV,Af,beq_iff_eq] at dX
    obtain ⟨⟨⟨bY,hlen⟩,Ahp⟩,Amy⟩:=dX
    refine wp_mono (Q:= λe a w=>e= .normal/\Q .normal a w) ?_ λe a w h=>h.1▸h.2
    refine wp_region_any hm ?_
    have hrel:Rel X st a {w with drawn:=w.drawn+1} :=by
     obtain ⟨π,h⟩:=h
     exact ⟨π,h.quiet ⟨rfl,rfl,rfl,Ap _,λ_ _=>rfl⟩⟩
    obtain ⟨s0,h0,h1⟩:=gP _ _ _ _ h1
    have iu: ∀i,i∈cQ q Γ ops->i<ops.size:= λi hi=>Dl.1 (Bw.1 hi).1
    have aH: ∀i,i∈Wl q Γ ops->i<ops.size:= λi hi=>iu i (Bw.1 hi).1
    have Jt: ∀j,j<ops.size->j∈Wg q Γ ops\/j∈Wl q Γ ops\/j∈Kb q Γ ops:= λj hj=>by
     by_cases ht:j∈Kb q Γ ops
     ·exact .inr (.inr ht)
     ·have hh:j∈cQ q Γ ops:=Bw.2 ⟨Dl.2 hj,by simpa using ht⟩
      cases hfl:nQ ops (cQ q Γ ops) (Kb q Γ ops) j with
      |true=>exact .inl (Bw.2 ⟨hh,hfl⟩)
      |false=>exact .inr (.inl (Bw.2 ⟨hh,by rw [hfl];rfl⟩))
    have Afy: ∀j,j∈cQ q Γ ops->j∉Kb q Γ ops:= λj hj=>by
     have:=(Bw.1 hj).2
     simpa using this
    have EI: ∀j,j∈Wl q Γ ops->j∉Kb q Γ ops:= λj hj=>Afy j (Bw.1 hj).1
    have Alk: ∀j,j∈Wg q Γ ops->j∉Kb q Γ ops:= λj hj=>Afy j (Bw.1 hj).1
    have htl: ∀t,t∈Kb q Γ ops->t<ops.size:=by
     intro t ht
     unfold Kb at ht
     have: ∀(l:List Nat) (acc:List Nat),(∀i,i∈acc->i<ops.size)->(∀i,i∈l->i<ops.size)-> ∀i,i∈l.foldl (init:=acc) (λacc i=>match ops[i]? with
       |some o=>if ZS q Γ o||o.after.any (λe=>Region.binds .any e&&acc.contains e.on) then acc++ [i] else acc
       |none=>acc)->i<ops.size:=by
      intro l
      induction l with
      |nil=>intro acc h1 _ i hi;exact h1 i hi
      |cons x l ih=>
       intro acc h1 h2 i hi
       simp only [Ds] at hi
       refine ih _ ?_ (λi hi=>h2 i (by simp [hi])) i hi
       intro k hk
       split at hk
       ·split at hk
        ·rcases Bb.1 hk with hk|hk
         ·exact h1 k hk
         ·simp at hk;rw [hk];exact h2 x (by simp)
        ·exact h1 k hk
       ·exact h1 k hk
     exact this (List.range ops.size) [] (by simp) (λi hi=>Dl.1 hi) t ht
    rw [<-hlen]
    refine ij (q:=q) (X:=X) (T:=T) (Γ:=Γ) (tl:=Kb q Γ ops) (hd:=Wl q Γ ops) (st1:=s0) (λc a w hq=>by cases hq.1) bY ?_ (Wg q Γ ops) [] _ st a _ (λj=>by simp)
     (λi hi=>ze (Bw.1 hi).2) (λj oj _ hl=>(by rw [hlen,getD_replicate_false] at hl;cases hl)) (by simp [hlen]) (λj=>by rw [hlen,getD_replicate_false];simp) (by rw [hlen];exact Ahp) h0 hrel
    intro Ah s a' w' hc vQ Alw hs hr hfl
    subst hs
    have Ati:Zs ops (Kb q Γ ops) (Wg q Γ ops) Ah:=
     ⟨vQ,λi hi=>(hfl i).2 hi,hc,λt ht=>getD_in (by rw [vQ];exact htl t ht) (by
      cases hg:Ah.getD t false with
      |false=>rfl
      |true=>exact absurd ht (Alk t ((hfl t).1 hg)))⟩
    have HA:=CF (T:=T) (Γ:=Γ) bY Amy aH Jt EI st1 (Wl q Γ ops) _ s (λi hi=>hi) Ati Alw h1
    exact lW (X:=X) (P:=P) (Q:= λe a w=>e= .normal/\Q .normal a w) (g:=(Kb q Γ ops).length) hT Po (λAh s a' w' hL hr=>by
     obtain ⟨Ast,rfl⟩:=hL
     exact dT (λe a w h=>h.1) bY (Kb q Γ ops) Ah a' w' Ast (l7 hT Po _ _ st' a' w' hr he λa w h=>⟨rfl,hQ a w h⟩)) _ _ _ _ _ HA hr
   ·cases he
  split at he
  ·rename_i dX;exact go false dX he
  ·split at he
   ·rename_i dX;exact go true dX he
   ·cases he
theorem dH (q:Bool): ∀(l:List Nat) (Ah:Array Bool),(Ka q ops l Ah).length<=l.length
 | [],_=>Ap _
 |i::r,Ah=>by
  simp only [Ka]
  split
  ·simp only [Ay];have:=dH q r (Ah.setIfInBounds i true);omega
  ·simp only [Ay];have:=dH q r Ah;omega
theorem GX (hT:Ed P T) {st:St} {a:Act} (h:Bh X π st a w) {i:Nat} {o:Oper} (ho:ops[i]?=some o) (hp:kA ops i=true) {v:AV} (hv:Xk T Γ ops st o=some v):
  ∃u,Yields P ops o u a/\Bm X w π st.heap v u:=by
 unfold kA at hp
 rw [ho] at hp
 simp only at hp
 obtain ⟨dst,op,ty,pos,af,gd⟩:=o
 split at hp
 ·rename_i t h3 h4
  simp only at h3 h4;subst h3;subst h4
  refine ⟨a.tmps.getD t undef,nI rfl rfl,?_⟩
  simp only [Xk,Xn,Fc,Aa] at hv
  subst hv
  exact h.2.tmps t
 ·rename_i x h3 h4
  simp only at h3 h4;subst h3;subst h4
  have e:=Dt h.2 x
  have fin:(∃ad,a.eval x= .pointer (some ad))->Yields P ops ⟨dst, .nilCheck x,ty,pos,af,none⟩ (a.eval x) a:= λ⟨ad,hx⟩=>
   .inl ⟨by simp [Region.wanted],λw=>by simp [execOp,hx]⟩
  simp only [Xk,Xn,Fc] at hv
  split at hv
  ·rename_i fr τ y hx
   simp only [Aa] at hv;subst hv
   rw [hx] at e
   have e':=e
   obtain ⟨cs,hc,hv⟩:=e
   simp only [Cells] at hc
   obtain ⟨g,o,rfl,_⟩:=hc
   simp only [Bz,Ty.Aq,Cz,Ry,iG] at hv
   exact ⟨_,fin ⟨_,hv⟩,e'⟩
  ·rename_i fr τ y hx
   simp only [Aa] at hv;subst hv
   rw [hx] at e
   obtain ⟨cs,hc,hv⟩:=e
   simp only [Cells] at hc
   rcases hc with ⟨h0,_⟩|⟨y',g,o,h0,rfl,hr⟩
   ·cases h0
   simp only [Aa] at h0;subst h0
   simp only [Bz,Ty.Aq,Cz,Ry,iG] at hv
   exact ⟨_,fin ⟨_,hv⟩,[_],⟨g,o,rfl,hr⟩,by rw [hv];simp [Bz,Ty.Aq]⟩
  ·rename_i l i hx
   simp only [Aa] at hv;subst hv
   rw [hx] at e
   have e':=e
   obtain ⟨r,tid,vs,_,_,hv⟩:=e
   exact ⟨_,fin ⟨_,hv⟩,e'⟩
  ·rename_i l i hx
   simp only [Aa] at hv;subst hv
   rw [hx] at e
   have e':=e
   obtain ⟨r,b,sz,n,_,_,_,_,hv⟩:=e
   exact ⟨_,fin ⟨_,hv⟩,e'⟩
  ·cases hv
 ·rename_i s x f h3 h4
  simp only at h3 h4;subst h3;subst h4
  simp only [Xk,Xn,Fc] at hv
  obtain ⟨u,h1,h2⟩:=cL hT (st:=st) _ _ _ _ v (Dt h.2 x) hv
  refine ⟨u, .inl ⟨by simp [Region.wanted],λw=>?_⟩,h2⟩
  have:=h1 w
  simp only [execOp,Sem.run_bind]
  first
   |(rw [this];rfl)
   |simp [this]
 ·cases hp
theorem zQ {i:Nat} (h:zf ops i=true):kA ops i=true:=by
 unfold zf at h
 unfold kA
 split at h
 ·rename_i o ho
  split at h
  ·rename_i h1 h2
   simp only [h1,h2]
  ·cases h
 ·cases h
theorem cy (hT:Ed P T) (q:Bool) {Q:Exit->Act->World->Prop} (hQ: ∀c a w,¬Q (.panic c) a w) (bY:Region.noSelect ops=true) {n:Nat} {st1:St} :
  ∀(l:List Nat) (Ah:Array Bool) (st:St) (a:Act) (w:World),Ge T Γ ops (Ka q ops l Ah) st=some st1->Rel X st a w->
   (∀a w,Rel X st1 a w->wpAny P .any ops Q n (El (Ka q ops l Ah) Ah) a w)->wpAny P .any ops Q ((Ka q ops l Ah).length+n) Ah a w
 | [],Ah,st,a,w,he,hr,hK=>by
  simp only [Ka,Ge,Aa] at he
  subst he
  simp only [Ka,Ex,Ce]
  exact hK a w hr
 |k::l,Ah,st,a,w,he,hr,hK=>by
  simp only [Ka] at he hK⊢
  split
  ·rename_i hc
   rw [Ab hc] at he hK
   simp only [Af] at hc
   obtain ⟨h0,h1,h2⟩:=hc
   have hp:kA ops k=true:=by
    cases q with
    |true=>exact h0
    |false=>exact zQ h0
   simp only [Ge] at he
   split at he
   ·cases he
   rename_i o ho
   split at he
   rotate_left
   ·cases he
   rename_i v hv
   obtain ⟨π,hr⟩:=hr
   obtain ⟨u,hy,hu⟩:=GX (Γ:=Γ) hT hr ho hp hv
   rw [Ay,show (Ka q ops l (Ah.setIfInBounds k true)).length+1+n=((Ka q ops l (Ah.setIfInBounds k true)).length+n)+1 by omega]
   refine wpAny_take ho bY h2 h1 (λc a w hq=>absurd hq (hQ c _ w)) hy ?_
   exact cy hT q hQ bY l _ _ _ _ he ⟨π,hr.put o.dst hu⟩ hK
  ·rename_i hc
   rw [Ai hc] at he hK
   exact cy hT q hQ bY l Ah st a w he hr hK
theorem lX (hT:Ed P T) (Po:Ll P Γ) {Q:Exit->Act->World->Prop} {K:St->Prop} (hK: ∀st a w,K st->Rel X st a w->Q .normal a w):
  ∀(f:Nat) (Ah:Array Bool) (st:St) (a:Act) (w:World),anyS T Γ ops K f Ah st->Rel X st a w->wpAny P .any ops Q f Ah a w
 |0,Ah,st,a,w,h,hr=>⟨h.1,hK _ _ _ h.2 hr⟩
 |f+1,Ah,st,a,w,h,hr=>by
  refine ⟨λh0=>absurd h0 h.1,λi hi=>?_⟩
  obtain ⟨o,st',ho,he,gS⟩:=h.2 i hi
  obtain ⟨π,hr⟩:=hr
  unfold wpOp
  simp only [ho]
  exact Wf hT Po hr o he λa' w' h'=>lX hT Po hK f _ _ _ _ gS h'
def Ul (ops:Array Oper) (Ah:Array Bool):Prop:= ∀k a,Ah.getD k false=true->Region.waitsFor .any ops k a=true->Ah.getD a false=true
theorem cX {Ah:Array Bool} {i a:Nat} (h:i∈Region.ready .any ops Ah) (hw:Region.waitsFor .any ops i a=true):Ah.getD a false=true:=by
 obtain ⟨_,o,ho,Jt⟩:=mem_ready.1 h
 obtain ⟨o',ho',e,he,hb,rfl⟩:=Region.waitsFor_spec hw
 rw [ho] at ho'
 cases ho'
 exact Jt e he hb
theorem Ul.set {Ah:Array Bool} (hc:Ul ops Ah) {i:Nat} (hi:i∈Region.ready .any ops Ah):Ul ops (Ah.setIfInBounds i true):= λk a hk hw=>by
 by_cases hik:i=k
 ·subst hik
  exact getD_set_true (cX hi hw)
 ·rw [getD_set_ne false hik] at hk
  exact getD_set_true (hc k a hk hw)
theorem qb:Ul ops (Array.replicate ops.size false):= λk a hk _=>by
 rw [getD_replicate_false] at hk
 cases hk
theorem aS (q:Bool): ∀(l:List Nat) (Ah:Array Bool),Ul ops Ah->Ul ops (El (Ka q ops l Ah) Ah)
 | [],Ah,h=>h
 |i::r,Ah,h=>by
  simp only [Ka]
  split
  ·rename_i hc
   rw [Af,Af] at hc
   have hi:i∈Region.ready .any ops Ah:=by simpa using hc.2.1
   exact aS q r _ (h.set hi)
  ·exact aS q r Ah h
theorem Wo: ∀(l:List Nat) (Ah:Array Bool),(El l Ah).size=Ah.size
 | [],_=>rfl
 |i::r,Ah=>by simp only [El];rw [Wo r];simp
theorem fQ: ∀(l:List Nat) (Ah:Array Bool) (k:Nat),k∈l->k<Ah.size->(El l Ah).getD k false=true
 |i::r,Ah,k,h,hk=>by
  simp only [El]
  by_cases hr:k∈r
  ·exact fQ r _ k hr (by simpa using hk)
  ·have:k=i:=(Bg.1 h).resolve_right hr
   subst this
   have hs: ∀(l:List Nat) (A:Array Bool),A.getD k false=true->(El l A).getD k false=true:=by
    intro l
    induction l with
    |nil=>exact λA h=>h
    |cons j l ih=>exact λA h=>ih _ (getD_set_true h)
   exact hs r _ (by simp [hk])
theorem dD: ∀(l:List Nat) (Ah:Array Bool) (k:Nat),k∉l->(El l Ah).getD k false=Ah.getD k false
 | [],_,_,_=>rfl
 |i::r,Ah,k,h=>by
  simp only [El]
  rw [dD r _ k λhk=>h (Ao _ hk),getD_set_ne false (λe=>h (by rw [e];simp))]
def Mr (E:List Nat) (Ah:Array Bool):List Nat:=E.filter λr=>!Ah.getD r false
def dw (ops:Array Oper) (r:Nat):Option Tmp:=(ops[r]?).bind (·.dst)
def l6 (ops:Array Oper) (Q:List Nat):List Nat:=Q.filterMap (dw ops)
def Sm (ops:Array Oper):List Nat->St->St
 | [],st=>st
 |r::Q,st=>(Sm ops Q st).put (dw ops r) .undef
def RP (ops:Array Oper):List Nat->Act->Act->Prop
 | [],a,a'=>a'=a
 |r::Q,a,a'=> ∃u,RP ops Q (a.put (dw ops r) u) a'
theorem Abs {H:List (Nat×OB)} {v:Value} :Bm X w π H .undef v:=trivial
theorem jf (s:St) (d:Option Tmp) (v:AV) (t:Nat):(d=some t->(s.put d v).get t=v\/(s.put d v).get t= .undef)/\(d≠some t->(s.put d v).get t=s.get t):=by
 cases d with
 |none=>exact ⟨λh=>(by cases h),λ_=>rfl⟩
 |some e=>
  have key:(s.put (some e) v).get t=if e=t/\t<s.tmps.length then v else s.get t:=Rk _ _ _ _ _
  refine ⟨λh=>?_,λh=>?_⟩
  ·cases h
   rw [key]
   by_cases hl:t<s.tmps.length
   ·rw [Ab ⟨rfl,hl⟩];exact .inl rfl
   ·rw [Ai (λh=>hl h.2)]
    exact .inr (by unfold St.get;rw [Aj,Dm (by omega)];rfl)
  ·rw [key,Ai]
   rintro ⟨rfl,_⟩
   exact h rfl
theorem kG (s:St) (d:Option Tmp) (v:AV):(s.put d v).heap=s.heap:=by cases d<;>rfl
theorem o9 (s:St) (d:Option Tmp) (v:AV):(s.put d v).tmps.length=s.tmps.length:=by
 cases d with
 |none=>rfl
 |some d=>exact ai _ _ _
theorem Rg: ∀(Q:List Nat) (st:St),(Sm ops Q st).heap=st.heap
 | [],_=>rfl
 |r::Q,st=>by simp only [Sm];rw [kG,Rg Q]
theorem Ws: ∀(Q:List Nat) (st:St),(Sm ops Q st).tmps.length=st.tmps.length
 | [],_=>rfl
 |r::Q,st=>by simp only [Sm];rw [o9,Ws Q]
theorem Me {Q:List Nat} {t:Nat} :t∈l6 ops Q↔ ∃r∈Q,dw ops r=some t:=List.mem_filterMap
theorem Sn: ∀(Q:List Nat) (st:St) (t:Nat),(t∈l6 ops Q->(Sm ops Q st).get t= .undef)/\(t∉l6 ops Q->(Sm ops Q st).get t=st.get t)
 | [],st,t=>⟨λh=>by simp [l6] at h,λ_=>rfl⟩
 |r::Q,st,t=>by
  obtain ⟨h1,h2⟩:=Sn Q st t
  obtain ⟨g1,g2⟩:=jf (Sm ops Q st) (dw ops r) .undef t
  simp only [Sm]
  by_cases hd:dw ops r=some t
  ·refine ⟨λ_=>(g1 hd).elim id id,λh=>absurd (Me.2 ⟨r,Fk ..,hd⟩) h⟩
  ·refine ⟨λh=>?_,λh=>?_⟩
   ·rw [g2 hd]
    obtain ⟨q,hq,he⟩:=Me.1 h
    rcases Bg.1 hq with rfl|hq
    ·exact absurd he hd
    ·exact h1 (Me.2 ⟨q,hq,he⟩)
   ·rw [g2 hd]
    exact h2 λhm=>by
     obtain ⟨q,hq,he⟩:=Me.1 hm
     exact h (Me.2 ⟨q,Ao _ hq,he⟩)
theorem ur {st s:St} {a:Act} (h:Bh X π st a w) (hh:s.heap=st.heap) (hl:s.tmps.length=st.tmps.length) (hg: ∀t,s.get t=st.get t\/s.get t= .undef):Bh X π s a w:=by
 refine ⟨by rw [hh];exact h.1,⟨by rw [hl];exact h.2.size,h.2.defers,λt=>?_⟩⟩
 rw [hh]
 rcases hg t with e|e
 ·rw [e];exact h.2.tmps t
 ·rw [e];exact Abs
theorem HW {st s:St} {o:Oper} (hh:s.heap=st.heap) (hg: ∀t,t∈o.looksAt ops->s.get t=st.get t):Xk T Γ ops s o=Xk T Γ ops st o:=by
 obtain ⟨ts,H⟩:=s
 obtain ⟨ts',H'⟩:=st
 simp only at hh
 subst hh
 exact yr hg
theorem qI (hT:Ed P T) (Po:Ll P Γ) {st:St} {a:Act} (h:Bh X π st a w) {i:Nat} {o:Oper} (ho:ops[i]?=some o) (hp:kB ops i=true) {v:AV} (hv:Xk T Γ ops st o=some v):
  ∃u,(∀(Q:Exit->Act->World->Prop) (K:Act->World->Prop),K (a.put o.dst u) w->wpOp P ops Q i K a w)/\Bm X w π st.heap v u:=by
 unfold kB at hp
 rw [ho] at hp
 simp only at hp
 have hgd:o.guard=none:=by
  obtain ⟨dst,op,ty,pos,af,gd⟩:=o
  cases gd with
  |none=>rfl
  |some g=>split at hp<;>first|rfl|(rename_i h4;cases h4)|cases hp
 have hb:Xn T Γ st o=some v:=by
  unfold Xk at hv
  rw [hgd] at hv
  exact hv
 have hw:Region.wanted o (yielded ops a.tmps)=true:=by simp [Region.wanted,hgd]
 have fin: ∀s:Sem Value,execOp a.eval o=(do pure (.value (<-s)))->Fc T Γ st o=some v-> ∃u,(∀(Q:Exit->Act->World->Prop) (K:Act->World->Prop),K (a.put o.dst u) w->wpOp P ops Q i K a w)/\Bm X w π st.heap v u:=by
  intro s he hq
  have hg:=j7 hT Po h o v hq
  rw [he,Sem.run_bind] at hg
  cases hr:s.run P w with
  |ok u w'=>
   rw [hr] at hg
   obtain ⟨e,hu⟩:=(show w'=w/\Bm X w π st.heap v u from hg)
   subst e
   refine ⟨u,λQ K hK=>?_,hu⟩
   unfold wpOp
   simp only [ho]
   rw [Ab hw]
   refine .inl ?_
   unfold Oper.wp
   rw [he,Sem.run_bind,hr]
   exact hK
  |halt x w'=>rw [hr] at hg;exact hg.elim
 obtain ⟨dst,op,ty,pos,af,gd⟩:=o
 simp only at hgd
 subst hgd
 split at hp
 ·rename_i x h3 h4
  simp only at h3;subst h3
  exact fin (pure (a.eval x)) (by simp [execOp]) hb
 ·rename_i x h3 h4
  simp only at h3;subst h3
  exact fin _ rfl hb
 ·rename_i x h3 h4
  simp only at h3;subst h3
  exact fin _ rfl hb
 ·rename_i x h3 h4
  simp only at h3;subst h3
  exact fin _ rfl hb
 ·cases hp
theorem WD {j:Nat} {oi oj:Oper} {v:Value} (hj:ops[j]?=some oj) (hap:oi.apart ops oj=true) (hsj: ∀cs b,oj.op≠ .select cs b)
  {Q:Exit->Act->World->Prop} (hQ: ∀c a w,¬Q (.panic c) a w) {K:Act->World->Prop} {a:Act} {w:World} (h:wpOp P ops Q j K (a.put oi.dst v) w):
  wpOp P ops Q j (λa' w'=>K (a'.put oi.dst v) w') a w:=by
 obtain ⟨h1,h2,h3⟩:=Oper.apart_spec hap
 unfold wpOp at*
 simp only [hj] at*
 rw [wanted_put oj a oi.dst v h1] at h
 split
 ·rename_i hw
  simp only [hw,Qa] at h
  rcases h with h|⟨Afp,Am1⟩
  case inr=>exact .inr ⟨by unfold Oper.asks at*;rw [execOp_put oj hsj a oi.dst v h1] at Afp;exact Afp,Am1⟩
  refine .inl ?_
  unfold Oper.wp at*
  rw [execOp_put oj hsj a oi.dst v h1] at h
  generalize (execOp a.eval oj).run P w=r at*
  cases r with
  |ok n w'=>
   cases n<;>simp only [Oper.upon] at h⊢
   case value u=>rw [<-Act.put_comm a v u h2];exact h
   case skip=>rw [<-Act.put_comm a v undef h2];exact h
   case defer d=>
    rw [<-Act.put_comm _ v undef h2,<-Act.put_defers]
    exact h
   case enter f args=>
    refine Calls.mono h λe qV he=>?_
    cases e with
    |returned u=>show K ((a.put oj.dst u).put oi.dst v) qV;rw [<-Act.put_comm a v u h2];exact he
    |panicked c=>exact absurd he (hQ _ _ _)
    |outgrown=>exact he
   case row row args=>exact Rows.mono h λu qV he=>by rw [<-Act.put_comm a v u h2];exact he
  |halt x w'=>
   cases x<;>simp only [Oper.upon] at h⊢
   case panic u=>exact absurd h (hQ _ _ _)
 ·rename_i hw
  simp only [hw] at h
  rw [<-Act.put_comm a v undef h2];exact h
theorem xX: ∀ {Q:List Nat} {a a':Act},RP ops Q a a'->a'.defers=a.defers/\a'.tmps.size=a.tmps.size/\ ∀t,t∉l6 ops Q->a'.tmps.getD t undef=a.tmps.getD t undef
 | [],a,a',h=>by cases h;exact ⟨rfl,rfl,λ_ _=>rfl⟩
 |r::Q,a,a',⟨u,h⟩=>by
  obtain ⟨h1,h2,h3⟩:=xX h
  have hp:(a.put (dw ops r) u).defers=a.defers/\(a.put (dw ops r) u).tmps.size=a.tmps.size:=by cases dw ops r<;>simp [Act.put]
  refine ⟨h1.trans hp.1,h2.trans hp.2,λt ht=>?_⟩
  have hn:dw ops r≠some t:= λe=>ht (Me.2 ⟨r,Fk ..,e⟩)
  rw [h3 t λhm=>ht (by obtain ⟨q,hq,he⟩:=Me.1 hm;exact Me.2 ⟨q,Ao _ hq,he⟩)]
  cases hd:dw ops r with
  |none=>rfl
  |some d=>
   have Jr:d≠t:= λe=>hn (by rw [hd,e])
   simp [Act.put,Array.getElem?_setIfInBounds_ne Jr]
theorem Aar {Q:List Nat} {st:St} {a a':Act} (hp:RP ops Q a a') (h:Bh X π st a' w):Bh X π (Sm ops Q st) a w:=by
 obtain ⟨h1,h2,h3⟩:=xX hp
 refine ⟨by rw [Rg];exact h.1,⟨by rw [Ws,<-h2];exact h.2.size,by rw [<-h1];exact h.2.defers,λt=>?_⟩⟩
 rw [Rg]
 by_cases ht:t∈l6 ops Q
 ·rw [(Sn Q st t).1 ht];exact Abs
 ·rw [(Sn Q st t).2 ht,<-h3 t ht];exact h.2.tmps t
theorem yu {j:Nat} {oj:Oper} (hj:ops[j]?=some oj) (hsj: ∀cs b,oj.op≠ .select cs b) {Q:Exit->Act->World->Prop} (hQ: ∀c a w,¬Q (.panic c) a w) {K:Act->World->Prop} :
  ∀(L:List Nat) (a a':Act) (w:World),(∀r∈L,∃o,ops[r]?=some o/\o.apart ops oj=true)->RP ops L a a'->wpOp P ops Q j K a' w->wpOp P ops Q j (λa2 w2=> ∃a3,RP ops L a2 a3/\K a3 w2) a w
 | [],a,a',w,_,hp,h=>by cases hp;exact wpOp_mono (λa2 w2 hk=>⟨a2,rfl,hk⟩) h
 |r::L,a,a',w,hap,⟨u,hp⟩,h=>by
  obtain ⟨o,ho,ha⟩:=hap r (Fk ..)
  have hd:dw ops r=o.dst:=by unfold dw;rw [ho];rfl
  rw [hd] at hp
  have ih:=yu hj hsj hQ L _ a' w (λq hq=>hap q (Ao _ hq)) hp h
  exact wpOp_mono (λa2 w2 ⟨a3,h1,h2⟩=>⟨a3,⟨u,by rw [hd];exact h1⟩,h2⟩) (WD hj ha hsj hQ ih)
def JD (ops:Array Oper):List Nat->Prop
 | []=>True
 |r::L=>(∀q∈r::L,∀o d,ops[r]?=some o->dw ops q=some d->d∉o.looksAt ops)/\(∀q∈L,∀d,dw ops r=some d->dw ops q≠some d)/\JD ops L
def x5 (ops:Array Oper):List Nat->Prop
 | []=>True
 |r::L=>(∀q∈L,Region.waitsFor .any ops q r=true\/ ∀o d,ops[q]?=some o->dw ops r=some d->d∉o.looksAt ops)/\x5 ops L
theorem JD.filter {p:Nat->Bool} : ∀ {L:List Nat},JD ops L->JD ops (L.filter p)
 | [],_=>trivial
 |r::L,⟨h1,h2,h3⟩=>by
  rw [ff]
  split
  ·exact ⟨λq hq=>h1 q (by rcases Bg.1 hq with rfl|hq;exact Fk ..;exact Ao _ (Bw.1 hq).1),λq hq=>h2 q (Bw.1 hq).1,h3.filter⟩
  ·exact h3.filter
theorem x5.filter {p:Nat->Bool} : ∀ {L:List Nat},x5 ops L->x5 ops (L.filter p)
 | [],_=>trivial
 |r::L,⟨h1,h3⟩=>by
  rw [ff]
  split
  ·exact ⟨λq hq=>h1 q (Bw.1 hq).1,h3.filter⟩
  ·exact h3.filter
theorem al {i j:Nat} {p:Oper->Oper->Bool} (h:pW ops i j p=true): ∃x y,ops[i]?=some x/\ops[j]?=some y/\p x y=true:=by
 unfold pW at h
 split at h
 ·rename_i x y h1 h2;exact ⟨x,y,h1,h2,h⟩
 ·cases h
theorem gE {x y:Oper} (h:oL ops x y=true): ∀d,x.dst=some d->d∉y.looksAt ops:= λd hd=>by
 unfold oL at h
 rw [hd] at h
 simpa using h
theorem DP {x y:Oper} (h:JX x y=true): ∀d,x.dst=some d->y.dst≠some d:= λd hd=>by
 unfold JX at h
 rw [hd] at h
 simpa using h
theorem cK {r:Nat} {o:Oper} (h:ops[r]?=some o):dw ops r=o.dst:=by unfold dw;rw [h];rfl
theorem qD: ∀ {E:List Nat},zM ops E=true->JD ops E/\x5 ops E
 | [],_=>⟨trivial,trivial⟩
 |r::E,h=>by
  simp only [zM,Af,Az] at h
  obtain ⟨⟨h1,h2⟩,h3⟩:=h
  obtain ⟨g1,g2⟩:=qD h3
  refine ⟨⟨λq hq o d ho hd=>?_,λq hq d hd=>?_,g1⟩,λq hq=>?_,g2⟩
  ·rcases Bg.1 hq with rfl|hq
   ·obtain ⟨x,y,hx,hy,hp⟩:=al h1
    rw [ho] at hx hy;cases hx;cases hy
    rw [cK ho] at hd
    exact gE hp d hd
   ·obtain ⟨x,y,hx,hy,hp⟩:=al (h2 q hq).1
    rw [ho] at hx;cases hx
    rw [cK hy] at hd
    exact gE (Bj.1 hp).2 d hd
  ·obtain ⟨x,y,hx,hy,hp⟩:=al (h2 q hq).1
   rw [cK hx] at hd
   rw [cK hy]
   exact DP (Bj.1 hp).1 d hd
  ·have h4:=(h2 q hq).2
   rw [Mi] at h4
   rcases h4 with h4|h4
   ·exact .inl h4
   ·refine .inr λo d ho hd=>?_
    obtain ⟨x,y,hx,hy,hp⟩:=al h4
    rw [ho] at hy;cases hy
    rw [cK hx] at hd
    exact gE hp d hd
theorem Afc (hT:Ed P T) (Po:Ll P Γ) {st:St} : ∀(L:List Nat) (a:Act),(∀r∈L,kB ops r=true/\ ∃o v,ops[r]?=some o/\Xk T Γ ops st o=some v/\ ∀d,o.dst=some d->st.get d=v)->JD ops L->
  Bh X π (Sm ops L st) a w-> ∃a',RP ops L a a'/\Bh X π st a' w
 | [],a,_,_,h=>⟨a,rfl,h⟩
 |r::L,a,hs,⟨f1,f2,f3⟩,h=>by
  obtain ⟨hr,o,v,ho,hv,hd⟩:=hs r (Fk ..)
  have hdo:=cK ho
  have EO:Xk T Γ ops (Sm ops (r::L) st) o=some v:=by
   rw [HW (st:=st) (Rg _ _) λt ht=>(Sn _ _ _).2 λhm=>by
    obtain ⟨q,hq,he⟩:=Me.1 hm
    exact f1 q hq o t ho he ht]
   exact hv
  obtain ⟨u,_,hu⟩:=qI hT Po h ho hr EO
  have h2:=h.put o.dst hu
  have h3:Bh X π (Sm ops L st) (a.put o.dst u) w:=by
   refine ur h2 ?_ ?_ λt=>?_
   ·rw [kG,Rg,Rg]
   ·rw [o9,Ws,Ws]
   ·obtain ⟨g1,g2⟩:=jf (Sm ops (r::L) st) o.dst v t
    by_cases he:o.dst=some t
    ·have s9:t∉l6 ops L:= λhm=>by
      obtain ⟨q,hq,YS⟩:=Me.1 hm
      exact f2 q hq t (by rw [hdo];exact he) YS
     rw [(Sn L st t).2 s9,hd t he]
     rcases g1 he with g|g
     ·exact .inl g.symm
     ·by_cases hl:t<st.tmps.length
      ·refine .inl ?_
       rw [he]
       show v=((Td (Sm ops (r::L) st).tmps t v).getD t .undef)
       rw [Rk,Ab ⟨rfl,by rw [Ws];exact hl⟩]
      ·refine .inr ?_
       rw [<-hd t he]
       unfold St.get
       rw [Aj,Dm (by omega)]
       rfl
    ·rw [g2 he]
     have:(Sm ops (r::L) st).get t=(Sm ops L st).get t:=(jf (Sm ops L st) (dw ops r) .undef t).2 (by rw [hdo];exact he)
     exact .inl this.symm
  obtain ⟨a',hp,iv⟩:=Afc hT Po L _ (λq hq=>hs q (Ao _ hq)) f3 h3
  exact ⟨a',⟨u,by rw [hdo];exact hp⟩,iv⟩
theorem XR: ∀ {L:List Nat},JD ops L->x5 ops L-> ∀ {i:Nat} {o:Oper},i∈L->ops[i]?=some o->(∀q∈L,Region.waitsFor .any ops i q=true->False)-> ∀q∈L,∀d,dw ops q=some d->d∉o.looksAt ops
 | [],_,_,i,_,hi,_,_=>by cases hi
 |r::L,⟨f1,f2,f3⟩,⟨b1,b2⟩,i,o,hi,ho,hw=> λq hq d hd=>by
  by_cases hir:i=r
  ·subst hir
   exact f1 q hq o d ho hd
  ·have kR:=(Bg.1 hi).resolve_left hir
   rcases Bg.1 hq with rfl|lu
   ·rcases b1 i kR with h|h
    ·exact (hw q hq h).elim
    ·exact h o d ho hd
   ·exact XR f3 b2 kR ho (λq hq=>hw q (Ao _ hq)) q lu d hd
theorem qe {Ah:Array Bool} (aH:Ah.size=ops.size): ∀ {E:List Nat} {L:Array Bool} {r:Nat} {Q:List Nat},jG ops E L=true->(∀j,L.getD j false=true->Ah.getD j false=true)->Mr E Ah=r::Q->r∈Region.ready .any ops Ah
 | [],_,_,_,_,_,h=>by simp [Mr] at h
 |e::E,L,r,Q,hr,hl,hp=>by
  simp only [jG,Af,Ke] at hr
  unfold Mr at hp
  rw [ff] at hp
  by_cases he:Ah.getD e false=true
  ·rw [Ai (by rw [he];simp)] at hp
   refine qe aH hr.2 (λj hj=>?_) hp
   by_cases hej:e=j
   ·subst hej;exact he
   ·rw [getD_set_ne false hej] at hj;exact hl j hj
  ·have he:Ah.getD e false=false:=by simpa using he
   rw [Ab (by rw [he];rfl)] at hp
   injection hp with xA QD
   subst xA
   obtain ⟨_,o,ho,Jt⟩:=mem_ready.1 hr.1
   have Li:e<Ah.size:=by rw [aH];exact (Nt.1 ho).1
   exact mem_ready.2 ⟨getD_in Li he,o,ho,λx hx hb=>hl _ (Jt x hx hb)⟩
theorem eM {Ah:Array Bool} {j:Nat} (h:Ah.getD j true=false):j<Ah.size:=by
 rcases Nat.lt_or_ge j Ah.size with h'|h'
 ·exact h'
 ·simp [Array.getElem?_eq_none h'] at h
theorem x4 (hT:Ed P T) (Po:Ll P Γ) {Q:Exit->Act->World->Prop} (hQ: ∀c a w,¬Q (.panic c) a w) {K:St->Prop} (hK: ∀st a w,K st->Rel X st a w->Q .normal a w) (bY:Region.noSelect ops=true)
  {E:List Nat} {L0:Array Bool} (hE:cW ops E L0=true): ∀(n f:Nat) (Ah LA:Array Bool) (st:St) (a:Act) (w:World),n=f+(Mr E Ah).length->Ah.size=ops.size->LA.size=ops.size->
   (∀j,LA.getD j false=(Ah.getD j false||E.contains j))->Ul ops Ah->(∀j,L0.getD j false=true->Ah.getD j false=true)->r8 T Γ ops E K f LA st->Rel X (Sm ops (Mr E Ah) st) a w->wpAny P .any ops Q n Ah a w:=by
 simp only [cW,Af,Az] at hE
 obtain ⟨⟨hre,hry⟩,hpr,hap⟩:=hE
 obtain ⟨Alq,qk⟩:=qD hpr
 have key: ∀(n f:Nat) (Ah LA:Array Bool) (st:St) (a:Act) (w:World),n=f+(Mr E Ah).length->Ah.size=ops.size->LA.size=ops.size->
   (∀j,LA.getD j false=(Ah.getD j false||E.contains j))->Ul ops Ah->(∀j,L0.getD j false=true->Ah.getD j false=true)->r8 T Γ ops E K f LA st->Rel X (Sm ops (Mr E Ah) st) a w->
   (∀j,j∈Region.ready .any ops Ah->j∉E->j∈Region.ready .any ops LA)/\(Region.ready .any ops Ah= []->Q .normal a w/\f=0/\Mr E Ah= []):=by
  intro n f Ah LA st a w hn jk rv hLA Qj hL0 tj hrel
  have h1: ∀j,j∈Region.ready .any ops Ah->j∉E->j∈Region.ready .any ops LA:= λj hj hjE=>by
   obtain ⟨oP,o,ho,Jt⟩:=mem_ready.1 hj
   have Li:=eM oP
   refine mem_ready.2 ⟨getD_in (by omega) ?_,o,ho,λe he hb=>by rw [hLA,Jt e he hb];rfl⟩
   rw [hLA,getD_both oP]
   simpa using hjE
  refine ⟨h1,λh0=>?_⟩
  cases hpe:Mr E Ah with
  |cons r L=>
   have:=qe jk hry hL0 hpe
   rw [h0] at this
   cases this
  |nil=>
   have Jt: ∀r,r∈E->Ah.getD r false=true:= λr hr=>by
    have:r∉Mr E Ah:=by rw [hpe];simp
    unfold Mr at this
    rw [Bw] at this
    by_cases hl:Ah.getD r false=true
    ·exact hl
    ·exact absurd ⟨hr,by simpa using hl⟩ this
   have hb: ∀j,j∈Region.ready .any ops LA->j∈Region.ready .any ops Ah:= λj hj=>by
    obtain ⟨oP,o,ho,hw⟩:=mem_ready.1 hj
    have Li:=eM oP
    have he: ∀k,LA.getD k false=Ah.getD k false:= λk=>by
     rw [hLA]
     by_cases hk:k∈E
     ·rw [Jt k hk];rfl
     ·rw [show E.contains k=false by simpa using hk,iy]
    exact mem_ready.2 ⟨getD_in (by omega) (by rw [<-he];exact getD_both oP),o,ho,λe hx hbd=>by rw [<-he];exact hw e hx hbd⟩
   cases f with
   |zero=>
    obtain ⟨_,_,hk⟩:=tj
    rw [hpe] at hrel
    exact ⟨hK _ _ _ hk hrel,rfl,rfl⟩
   |succ f=>
    obtain ⟨_,Jr,_⟩:=tj
    obtain ⟨j,hj⟩:=List.exists_mem_of_ne_nil _ Jr
    have:=hb j hj
    rw [h0] at this
    cases this
 intro n
 induction n with
 |zero=>
  intro f Ah LA st a w hn jk rv hLA Qj hL0 tj hrel
  obtain ⟨k1,k2⟩:=key 0 f Ah LA st a w hn jk rv hLA Qj hL0 tj hrel
  have hf:f=0:=by omega
  have hp:Mr E Ah= []:=List.length_eq_zero_iff.1 (by omega)
  subst hf
  obtain ⟨_,hr,_⟩:=tj
  have h0:Region.ready .any ops Ah= []:=List.eq_nil_iff_forall_not_mem.2 λj hj=>by
   by_cases hjE:j∈E
   ·have oP:=getD_both (mem_ready.1 hj).1
    have:j∈Mr E Ah:=Bw.2 ⟨hjE,by rw [oP];rfl⟩
    rw [hp] at this
    cases this
   ·have:=k1 j hj hjE
    rw [hr] at this
    cases this
  exact ⟨h0,(k2 h0).1⟩
 |succ n ih=>
  intro f Ah LA st a w hn jk rv hLA Qj hL0 tj hrel
  obtain ⟨k1,k2⟩:=key (n+1) f Ah LA st a w hn jk rv hLA Qj hL0 tj hrel
  have Pn:Ab1 T Γ ops E LA st:=by cases f<;>exact tj.1
  have YN: ∀r∈Mr E Ah,r∈E/\Ah.getD r false=false:= λr hr=>by
   obtain ⟨h1,h2⟩:=Bw.1 hr
   exact ⟨h1,by simpa using h2⟩
  have Agg: ∀r∈Mr E Ah,kB ops r=true/\ ∃o v,ops[r]?=some o/\Xk T Γ ops st o=some v/\ ∀d,o.dst=some d->st.get d=v:= λr hr=>by
   obtain ⟨h1,h2⟩:=YN r hr
   refine ⟨hre r h1,(Pn r h1).resolve_left λhw=>?_⟩
   unfold sn at hw
   obtain ⟨j,_,hj⟩:=Fh.1 hw
   simp only [Af,Es] at hj
   obtain ⟨hj1,hj2,hj3⟩:=hj
   rw [hLA,hj1,iy] at hj2
   have:=Qj j r hj2 hj3
   rw [h2] at this
   cases this
  refine ⟨λh0=>(k2 h0).1,λi hi=>?_⟩
  obtain ⟨π,hrel⟩:=hrel
  have hiw: ∀q∈Mr E Ah,Region.waitsFor .any ops i q=true->False:= λq hq hw=>by
   have:=cX hi hw
   rw [(YN q hq).2] at this
   cases this
  obtain ⟨oP,oi,hoi,_⟩:=mem_ready.1 hi
  have Li:=eM oP
  by_cases hiE:i∈E
  ·have WM:i∈Mr E Ah:=Bw.2 ⟨hiE,by rw [getD_both oP];rfl⟩
   obtain ⟨hrd,o,v,ho,hv,hd⟩:=Agg i WM
   have hnl:=XR (Alq.filter (p:= λr=>!Ah.getD r false)) (qk.filter (p:= λr=>!Ah.getD r false)) WM ho hiw
   have EO:Xk T Γ ops (Sm ops (Mr E Ah) st) o=some v:=by
    rw [HW (st:=st) (Rg _ _) λt ht=>(Sn _ _ _).2 λhm=>by
     obtain ⟨q,hq,he⟩:=Me.1 hm
     exact hnl q hq t he ht]
    exact hv
   obtain ⟨u,hy,hu⟩:=qI hT Po hrel ho hrd EO
   refine hy Q _ ?_
   have hpe: ∀q,q∈Mr E (Ah.setIfInBounds i true)↔q∈Mr E Ah/\q≠i:= λq=>by
    unfold Mr
    rw [Bw,Bw]
    by_cases hqi:q=i
    ·subst hqi
     simp [Li]
    ·rw [getD_set_ne false (Hs hqi)]
     exact ⟨λh=>⟨h,hqi⟩,λh=>h.1⟩
   have hlen:(Mr E Ah).length=(Mr E (Ah.setIfInBounds i true)).length+1:=by
    have s9: ∀(E:List Nat) (L:Array Bool),jG ops E L=true->E.Nodup/\ ∀r∈E,L.getD r true=false:=by
     intro E
     induction E with
     |nil=>exact λL _=>⟨Nu,λr hr=>by cases hr⟩
     |cons e E ihE=>
      intro L h
      simp only [jG,Af,Ke] at h
      obtain ⟨g1,g2⟩:=ihE _ h.2
      have he:=(mem_ready.1 h.1).1
      have lq:=eM he
      refine ⟨Cd.2 ⟨λhm=>?_,g1⟩,λr hr=>?_⟩
      ·have:=g2 e hm
       simp [lq] at this
      ·rcases Bg.1 hr with rfl|hr
       ·exact he
       ·have Jr:e≠r:= λe'=>by subst e';have:=g2 e hr;simp [lq] at this
        have:=g2 r hr
        rw [getD_set_ne true Jr] at this
        exact this
    have hEn:=(s9 E L0 hry).1
    have Atk: ∀L:List Nat,L.Nodup->i∈L->(L.filter λr=>!Ah.getD r false).length=(L.filter λr=>!(Ah.setIfInBounds i true).getD r false).length+1:=by
     intro L
     induction L with
     |nil=>exact λ_ h=>by cases h
     |cons x L ihL=>
      intro hn hm
      obtain ⟨hx,hn⟩:=Cd.1 hn
      rw [ff,ff]
      by_cases hxi:x=i
      ·subst hxi
       rw [Ab (by rw [getD_both oP];rfl),Ai (by simp [Li])]
       have:L.filter (λr=>!Ah.getD r false)=L.filter (λr=>!(Ah.setIfInBounds x true).getD r false):=List.filter_congr λq hq=>by
        rw [getD_set_ne false (λe=>hx (by rw [e];exact hq))]
       rw [Ay,this]
      ·have hm:=(Bg.1 hm).resolve_left (Hs hxi)
       rw [getD_set_ne false (Hs hxi)]
       split
       ·rw [Ay,Ay,ihL hn hm]
       ·exact ihL hn hm
    exact Atk E hEn hiE
   refine ih f (Ah.setIfInBounds i true) LA st _ w (by omega) (by simp [jk]) rv (λj=>?_) (Qj.set hi) (λj hj=>getD_set_true (hL0 j hj)) tj ⟨π,?_⟩
   ·rw [hLA]
    by_cases jh:i=j
    ·subst jh
     rw [show E.contains i=true by simpa using hiE,Bool.or_true,Bool.or_true]
    ·rw [getD_set_ne false jh]
   ·have h2:=hrel.put o.dst hu
    refine ur h2 ?_ ?_ λt=>?_
    ·rw [kG,Rg,Rg]
    ·rw [o9,Ws,Ws]
    ·have hdo:=cK ho
     by_cases hm:t∈l6 ops (Mr E (Ah.setIfInBounds i true))
     ·exact .inr ((Sn _ _ _).1 hm)
     ·rw [(Sn _ _ _).2 hm]
      obtain ⟨g1,g2⟩:=jf (Sm ops (Mr E Ah) st) o.dst v t
      by_cases he:o.dst=some t
      ·rw [hd t he]
       rcases g1 he with g|g
       ·exact .inl g.symm
       ·by_cases hl:t<st.tmps.length
        ·refine .inl ?_
         rw [he]
         show v=((Td (Sm ops (Mr E Ah) st).tmps t v).getD t .undef)
         rw [Rk,Ab ⟨rfl,by rw [Ws];exact hl⟩]
        ·refine .inr ?_
         rw [<-hd t he]
         unfold St.get
         rw [Aj,Dm (by omega)]
         rfl
      ·rw [g2 he]
       refine .inl ((Sn _ _ _).2 λhm2=>?_).symm
       obtain ⟨q,hq,YS⟩:=Me.1 hm2
       by_cases hqi:q=i
       ·subst hqi
        rw [hdo] at YS
        exact he YS
       ·exact hm (Me.2 ⟨q,(hpe q).2 ⟨hq,hqi⟩,YS⟩)
  ·cases f with
   |zero=>
    obtain ⟨_,hr,_⟩:=tj
    have:=k1 i hi hiE
    rw [hr] at this
    cases this
   |succ f=>
    obtain ⟨_,_,Amb⟩:=tj
    obtain ⟨o,st',ho,he,gS⟩:=Amb i (k1 i hi hiE)
    obtain ⟨a',YQ,Zx⟩:=Afc hT Po (Mr E Ah) a Agg Alq.filter hrel
    have lv:wpOp P ops Q i (λa2 w2=>Rel X st' a2 w2) a' w:=by
     unfold wpOp
     simp only [ho]
     exact Wf hT Po Zx o he λa2 w2 h2=>h2
    have z0:=yu (Q:=Q) ho (λcs b=>Region.noSelect_spec bY i o cs b ho) hQ (Mr E Ah) a a' w (λr hr=>?_) YQ lv
    ·refine wpOp_mono (λa2 w2 hk=>?_) z0
     obtain ⟨a3,hp3,π3,hr3⟩:=hk
     have hpe:Mr E (Ah.setIfInBounds i true)=Mr E Ah:=by
      unfold Mr
      refine List.filter_congr λq hq=>?_
      rw [getD_set_ne false (λe=>hiE (by rw [e];exact hq))]
     refine ih f (Ah.setIfInBounds i true) (LA.setIfInBounds i true) st' a2 w2 (by rw [hpe];omega) (by simp [jk]) (by simp [rv]) (λj=>?_) (Qj.set hi) (λj hj=>getD_set_true (hL0 j hj)) gS ⟨π3,by rw [hpe];exact Aar hp3 hr3⟩
     by_cases jh:i=j
     ·subst jh
      simp [Li,jk▸Li,rv]
     ·rw [getD_set_ne false jh,getD_set_ne false jh,hLA]
    ·obtain ⟨hrE,hrl⟩:=YN r hr
     have h3:=Az.1 (Az.1 hap r hrE) i (Dl.2 (by omega))
     simp only [Mi] at h3
     rcases h3 with ((h3|h3)|h3)|h3
     ·exact absurd (by simpa using h3) hiE
     ·have:=hL0 i h3
      rw [getD_both oP] at this
      cases this
     ·exact (hiw r hr h3).elim
     ·obtain ⟨x,y,hx,hy,hp⟩:=al h3
      rw [ho] at hy;cases hy
      exact ⟨x,hx,hp⟩
theorem nD: ∀(E:List Nat) (s0 s1:St),Ge T Γ ops E s0=some s1->s1.heap=s0.heap/\s1.tmps.length=s0.tmps.length/\ ∀t,t∉l6 ops E->s1.get t=s0.get t
 | [],s0,s1,h=>by
  simp only [Ge,Aa] at h
  subst h
  exact ⟨rfl,rfl,λ_ _=>rfl⟩
 |r::E,s0,s1,h=>by
  simp only [Ge] at h
  split at h
  ·cases h
  rename_i o ho
  split at h
  rotate_left
  ·cases h
  rename_i v hv
  obtain ⟨h1,h2,h3⟩:=nD E _ _ h
  refine ⟨by rw [h1,kG],by rw [h2,o9],λt ht=>?_⟩
  rw [h3 t λhm=>ht (by obtain ⟨q,hq,he⟩:=Me.1 hm;exact Me.2 ⟨q,Ao _ hq,he⟩)]
  exact (jf s0 o.dst v t).2 λe=>ht (Me.2 ⟨r,Fk ..,by rw [cK ho];exact e⟩)
theorem xS: ∀ {E:List Nat} {L0:Array Bool},jG ops E L0=true-> ∀r∈E,L0.getD r true=false
 | [],_,_,_,hr=>by cases hr
 |e::E,L0,h,r,hr=>by
  simp only [jG,Af,Ke] at h
  have he:=(mem_ready.1 h.1).1
  rcases Bg.1 hr with rfl|hr
  ·exact he
  ·have h2:=xS h.2 r hr
   have Jr:e≠r:= λe'=>by subst e';simp [eM he] at h2
   rw [getD_set_ne true Jr] at h2
   exact h2
theorem wZ (hT:Ed P T) (Po:Ll P Γ) {Q:Exit->Act->World->Prop} (hQ: ∀c a w,¬Q (.panic c) a w) {K:St->Prop} (hK: ∀st a w,K st->Rel X st a w->Q .normal a w) (bY:Region.noSelect ops=true)
  {E:List Nat} {L0:Array Bool} (hE:cW ops E L0=true) {n:Nat} (hn:E.length<=n) {cA st1:St} (h1:Ge T Γ ops E cA=some st1) (h2:r8 T Γ ops E K (n-E.length) (El E L0) st1)
  (aH:L0.size=ops.size) (Qj:Ul ops L0) {a:Act} {w:World} (hr:Rel X cA a w):wpAny P .any ops Q n L0 a w:=by
 have hE':=hE
 simp only [cW,Af] at hE'
 have oP:=xS hE'.1.2
 have hp:Mr E L0=E:=List.filter_eq_self.2 λr hr=>by rw [getD_both (oP r hr)];rfl
 refine x4 hT Po hQ hK bY hE n (n-E.length) L0 (El E L0) st1 a w (by rw [hp];omega) aH (by rw [Wo];exact aH) (λj=>?_) Qj (λj hj=>hj) h2 ?_
 ·by_cases hj:j∈E
  ·rw [fQ E L0 j hj (eM (oP j hj)),show E.contains j=true by simpa using hj,Bool.or_true]
  ·rw [dD E L0 j hj,show E.contains j=false by simpa using hj,iy]
 ·obtain ⟨π,hr⟩:=hr
  obtain ⟨g1,g2,g3⟩:=nD E _ _ h1
  refine ⟨π,ur hr (by rw [Rg,g1]) (by rw [Ws,g2]) λt=>?_⟩
  rw [hp]
  by_cases ht:t∈l6 ops E
  ·exact .inr ((Sn _ _ _).1 ht)
  ·exact .inl (((Sn _ _ _).2 ht).trans (g3 t ht))
theorem Xz (live:List Nat): ∀(i:Nat) (l:List AV),(Ja live i l).length=l.length
 |_,[]=>rfl
 |i,v::r=>by simp [Ja,Xz live (i+1) r]
theorem bO (live:List Nat): ∀(i:Nat) (l:List AV) (t:Nat),(Ja live i l).getD t .undef= .undef\/(Ja live i l).getD t .undef=l.getD t .undef
 |_,[],t=> .inr rfl
 |i,v::r,0=>by
  simp only [Ja,Xt]
  split
  ·exact .inr rfl
  ·exact .inl rfl
 |i,v::r,t+1=>by
  simp only [Ja,Nz]
  exact bO live (i+1) r t
theorem dx: ∀(l:List Nat) (st:St) (a:Act) (w:World),Rel X st a w->Rel X (bo l st) a w
 | [],_,_,_,h=>h
 |k::r,_,a,w,⟨_,h⟩=>dx r _ a w ⟨_,h.forget k⟩
theorem VG (dead:List Nat) {st:St} {a:Act} {w:World} (h:Rel X st a w):Rel X (st.Rb dead) a w:=by
 obtain ⟨π,h⟩:=h
 unfold St.Rb
 refine dx _ _ a w ⟨π,h.1,⟨by simp [Xz,h.2.size],h.2.defers,λt=>?_⟩⟩
 show Bm X w π st.heap ((Ja _ 0 st.tmps).getD t .undef) _
 rcases bO ((List.range st.tmps.length).filter λt=>!dead.contains t) 0 st.tmps t with e|e
 ·rw [e];trivial
 ·rw [e];exact h.2.tmps t
theorem qJ (hT:Ed P T) (Po:Ll P Γ) (hm:P.follows .mixedOrders=true) {Q:Exit->Act->World->Prop} {id:Nat} {draw:Bool} {st:St} {K:St->Prop} {a:Act} (h:Rel X st a w)
  (he:kY T Γ ops draw st K) (hQ: ∀st' a' w',K st'->Rel X st' a' w'->Q .normal a' w'):(Code.region id ops draw).wp P Q a w:=by
 rcases he with ⟨st',h1,h2⟩|⟨rfl,bY,cA,h1,h2⟩
 ·exact p8 hT Po hm h h1 λa' w' h'=>hQ st' a' w' h2 h'
 ·refine wp_mono (Q:= λe a w=>e= .normal/\Q .normal a w) ?_ λe a w h=>h.1▸h.2
  refine wp_region_any hm ?_
  have hrel:Rel X st a {w with drawn:=w.drawn+1} :=by
   obtain ⟨π,h⟩:=h
   exact ⟨π,h.quiet ⟨rfl,rfl,rfl,Ap _,λ_ _=>rfl⟩⟩
  have hlen:(Ld ops).length<=ops.size:=by
   have:=dH (ops:=ops) (!ku false ops) (List.range ops.size) (Array.replicate ops.size false)
   rw [List.length_range] at this
   exact this
  have YL:(Array.replicate ops.size false).size=ops.size:=by simp
  have hmv:(El (Ld ops) (Array.replicate ops.size false)).size=ops.size:=by rw [Wo,YL]
  have:=cy hT (!ku false ops) (X:=X) (P:=P) (T:=T) (Γ:=Γ) (Q:= λe a w=>e= .normal/\Q .normal a w) (n:=ops.size-(Ld ops).length) (st1:=cA) (λc a w hq=>by cases hq.1) bY (List.range ops.size) (Array.replicate ops.size false) st a _ h1 hrel λa' w' h'=>by
   rcases h2 with h2|⟨E,st1,hE,hEn,hE1,hE2⟩
   ·exact lX hT Po (λst' a' w' hk hr=>⟨rfl,hQ st' a' w' hk hr⟩) _ _ _ _ _ h2 h'
   ·exact wZ hT Po (λc a w hq=>by cases hq.1) (λst' a' w' hk hr=>⟨rfl,hQ st' a' w' hk hr⟩) bY hE hEn hE1 hE2 hmv (aS _ _ _ qb) h'
  have e:(Ka (!ku false ops) ops (List.range ops.size) (Array.replicate ops.size false)).length+(ops.size-(Ld ops).length)=ops.size:=by
   have e2:(Ka (!ku false ops) ops (List.range ops.size) (Array.replicate ops.size false)).length=(Ld ops).length:=rfl
   omega
  rw [e] at this
  exact this
theorem MQ (hT:Ed P T) (Po:Ll P Γ) (hm:P.follows .mixedOrders=true) {Q:Exit->Act->World->Prop} {id:Nat} {draw:Bool} {st:St} {K:St->Prop} {a:Act} (h:Rel X st a w)
  (he:yz T Γ ops draw st K) (hQ: ∀st' a' w',K st'->Rel X st' a' w'->Q .normal a' w'):(Code.region id ops draw).wp P Q a w:=by
 rcases he with he|⟨dead,_,he⟩
 ·exact qJ hT Po hm h he hQ
 ·exact qJ hT Po hm h he λst' a' w' hk hr=>hQ _ a' w' hk (VG dead hr)
end
end Go.Proofs.YtkkdpknjohcekaaGreat
