/-
  Part 25 of the proof that the statement FnMethods holds.
-/
import Derived.Test.YtkkdpknjohcekaaGreatCFMethods23
namespace Go.Proofs.YtkkdpknjohcekaaGreat
open Go.RowKit
section
variable {P:Program} {T:Tab} {Γ:Env} {X:Ctx} {w w':World} {π:Pi} {ops:Array Oper} {hd tl:List Nat}
structure Zx (ops:Array Oper) (tl fl:List Nat) (Ag:Array Bool):Prop where
 size:Ag.size=ops.size
 done: ∀i,i∈fl->Ag.getD i false=true
 closed: ∀j oj,ops[j]?=some oj->Ag.getD j false=true-> ∀e∈oj.after,Region.binds .any e=true->Ag.getD e.on false=true
 tail: ∀t,t∈tl->Ag.getD t true=false
theorem Zx.set {fl:List Nat} {i:Nat} {Ag:Array Bool} (inv:Zx ops tl fl Ag) (hi:i∈Region.ready .any ops Ag) (Vv:i∉tl):Zx ops tl fl (Ag.setIfInBounds i true):=by
 obtain ⟨_,oi,hoi,Le⟩:=mem_ready.1 hi
 refine ⟨by simp [inv.size],λk hk=>getD_set_true (inv.done k hk),λj oj hj hl e he hb=>?_,λt ht=>by
  have Jd:i≠t:= λe=>Vv (by rw [e];exact ht)
  rw [getD_set_ne true Jd];exact inv.tail t ht⟩
 by_cases kA:i=j
 ·subst kA
  have:oj=oi:=Bd (hj.symm.trans hoi)
  subst this
  exact getD_set_true (Le e he hb)
 ·rw [getD_set_ne false kA] at hl
  exact getD_set_true (inv.closed j oj hj hl e he hb)
theorem LI (k:Nat) (r:List Nat) (h:(r.all λt=>(k::r).any λk=>Region.waitsFor .any ops t k)=true): ∀t,t∈r-> ∃k',(k'=k\/k'∈r)/\Region.waitsFor .any ops t k'=true:= λt ht=>by
 obtain ⟨k',h1,h2⟩:=Eh.1 (Bc.1 h t ht)
 exact ⟨k',Bb.1 h1,h2⟩
theorem JK {fl:List Nat} {Ag:Array Bool} (hs:uY ops hd tl=true) (inv:Zx ops tl fl Ag) (aN: ∀i,i∈hd->i<ops.size):
  ∀(d i:Nat),ops.size-i=d->i∈hd->Ag.getD i true=false-> ∀t,t∈tl->t∉Region.ready .any ops Ag:=by
 cases tl with
 |nil=>intro d i _ _ _ t ht;cases ht
 |cons f r=>
  simp only [uY,Ah] at hs
  obtain ⟨ca,vU⟩:=hs
  intro d
  induction d using Nat.strongRecOn with
  |_ d ih=>
   intro i KK hi pa t ht hr
   obtain ⟨_,ot,hot,Le⟩:=mem_ready.1 hr
   rcases Bb.1 ht with rfl|o0
   ·have h1:=Bc.1 ca i hi
    obtain ⟨j,hj,hj2⟩:=Eh.1 h1
    simp only [Ah,Ru] at hj2
    obtain ⟨oj,hoj,e,he,hb,hon⟩:=Region.waitsFor_spec hj2.2
    rcases Bb.1 hj with rfl|hjh
    ·have:oj=ot:=Bd (hoj.symm.trans hot)
     subst this
     have h2:=Le e he hb
     rw [hon,getD_both pa] at h2
     cases h2
    ·cases hl:Ag.getD j false with
     |true=>
      have h2:=inv.closed j oj hoj hl e he hb
      rw [hon,getD_both pa] at h2
      cases h2
     |false=>
      have hjs:j<Ag.size:=by rw [inv.size];exact aN j hjh
      have:=aN j hjh
      exact ih (ops.size-j) (by omega) j rfl hjh (getD_in hjs hl) t (by simp) hr
   ·obtain ⟨k',h1,h2⟩:=LI f r vU t o0
    obtain ⟨o',ho',e,he,hb,hon⟩:=Region.waitsFor_spec h2
    have:o'=ot:=Bd (ho'.symm.trans hot)
    subst this
    have h3:=Le e he hb
    have hk:k'∈f::r:=by rcases h1 with rfl|h1<;>simp [*]
    rw [hon,getD_both (inv.tail k' hk)] at h3
    cases h3
def YS (T:Tab) (Γ:Env) (ops:Array Oper) (hd:List Nat) (L:Array Bool->St->Prop):Nat->Array Bool->St->Prop
 |0,Ag,st=>L Ag st
 |f+1,Ag,st=>
  Region.ready .any ops Ag≠ []/\ ∀i∈Region.ready .any ops Ag,i∈hd/\ ∃o v,ops[i]?=some o/\Xv T Γ ops st o=some v/\YS T Γ ops hd L f (Ag.setIfInBounds i true) (st.put o.dst v)
theorem DR (hT:Ep P T) (Pw:Lr P Γ) {Q:Exit->Act->World->Prop} {K:Act->World->Prop} {st:St} {a:Act} (h:Rel X st a w) {i:Nat} {o:Oper} {v:AV} (ho:ops[i]?=some o) (hv:Xv T Γ ops st o=some v)
  (hK: ∀a' w',Rel X (st.put o.dst v) a' w'->K a' w'):wpOp P ops Q i K a w:=by
 obtain ⟨π,h⟩:=h
 have run:Xz T Γ st o=some v->o.wp P a w K Q:= λhe=>rH (X:=X) (st':=st) (av:=v) (FC hT Pw h o v he) hK
 have skip:v= .at .skip->K (a.put o.dst undef) w:= λe=>by subst e;exact hK _ _ ⟨π,h.put o.dst IQ⟩
 unfold wpOp
 simp only [ho]
 unfold Xv at hv
 split at hv
 ·rename_i hg
  rw [Ab (by simp [Region.wanted,hg])]
  exact .inl (run hv)
 ·rename_i j want hg
  split at hv
  ·rename_i b hb
   have hy:=(fm h j).1 b hb
   split at hv
   ·rename_i LZ
    rw [Ab (by simp only [Region.wanted,hg,hy];simpa using LZ)]
    exact .inl (run hv)
   ·rename_i LZ
    rw [Ai (by simp only [Region.wanted,hg,hy];simpa using LZ)]
    simp only [Aa] at hv
    exact skip hv.symm
  ·rename_i hb
   have hy:=(fm h j).2 hb
   rw [Ai (by simp [Region.wanted,hg,hy])]
   simp only [Aa] at hv
   exact skip hv.symm
  ·cases hv
theorem lQ (hT:Ep P T) (Pw:Lr P Γ) {g:Nat} {L:Array Bool->St->Prop} {Q:Exit->Act->World->Prop} (hL: ∀Ag st a w,L Ag st->Rel X st a w->wpAny P .any ops Q g Ag a w):
  ∀(f:Nat) (Ag:Array Bool) (st:St) (a:Act) (w:World),YS T Γ ops hd L f Ag st->Rel X st a w->wpAny P .any ops Q (f+g) Ag a w
 |0,Ag,st,a,w,h,hr=>by rw [Bt];exact hL _ _ _ _ h hr
 |f+1,Ag,st,a,w,h,hr=>by
  rw [show f+1+g=(f+g)+1 by omega]
  refine ⟨λh0=>absurd h0 h.1,λi hi=>?_⟩
  obtain ⟨_,o,v,ho,hv,gP⟩:=h.2 i hi
  exact DR hT Pw hr ho hv λa' w' h'=>lQ hT Pw hL f _ _ _ _ gP h'
theorem KN {fl:List Nat} {i:Nat} {oi:Oper} {v:AV} {L:Array Bool->St->Prop} (hi:ops[i]?=some oi) (hs:uY ops hd tl=true) (aN: ∀i,i∈hd->i<ops.size) (Vv:i∈hd)
  (Le: ∀j,j<ops.size->j∈fl\/j∈hd\/j∈tl) (FV: ∀j,j∈hd->j∉tl) (Anl: ∀Ag st,L Ag st-> ∀j∈Region.ready .any ops Ag,j∈tl):
  ∀(f:Nat) (Ag:Array Bool) (st:St),Zx ops tl fl Ag->
   (∀j oj,ops[j]?=some oj->j≠i->Ag.getD j true=false->(∀e∈oj.after,Region.binds .any e=true->e.on≠i)->oi.apart ops oj=true)->
   i∈Region.ready .any ops Ag->Xv T Γ ops st oi=some v->
   YS T Γ ops hd L f (Ag.setIfInBounds i true) (st.put oi.dst v)->YS T Γ ops hd L (f+1) Ag st:=by
 intro f
 have Aph: ∀Ag,Zx ops tl fl Ag->i∈Region.ready .any ops Ag-> ∀j,j∈Region.ready .any ops Ag->j∈hd:=by
  intro Ag inv hr j hj
  obtain ⟨pa,oj,hoj,_⟩:=mem_ready.1 hj
  rcases Le j (Oa.1 hoj).1 with h|h|h
  ·have h1:=inv.done j h
   rw [getD_both pa] at h1;cases h1
  ·exact h
  ·exact absurd hj (JK hs inv aN _ i rfl Vv (mem_ready.1 hr).1 j h)
 induction f with
 |zero=>
  intro Ag st inv _ hr hv Hh
  refine ⟨λh=>(by rw [h] at hr;cases hr),λj hj=>?_⟩
  have hjh:=Aph Ag inv hr j hj
  refine ⟨hjh,?_⟩
  by_cases so:j=i
  ·subst so;exact ⟨oi,v,hi,hv,Hh⟩
  ·exact absurd (Anl _ _ Hh j (ready_mono hj so)) (FV j hjh)
 |succ f ih=>
  intro Ag st inv nW hr hv Hh
  have pa:=(mem_ready.1 hr).1
  refine ⟨λh=>(by rw [h] at hr;cases hr),λj hj=>?_⟩
  have hjh:=Aph Ag inv hr j hj
  refine ⟨hjh,?_⟩
  by_cases so:j=i
  ·subst so;exact ⟨oi,v,hi,hv,Hh⟩
  ·obtain ⟨_,oj,vj,hoj,hvj,gP⟩:=Hh.2 j (ready_mono hj so)
   obtain ⟨Anu,oj',Auz,Anb⟩:=mem_ready.1 hj
   have:oj'=oj:=Bd (Auz.symm.trans hoj)
   subst this
   have tS: ∀e∈oj'.after,Region.binds .any e=true->e.on≠i:= λe he hb heq=>by
    have h1:=Anb e he hb
    rw [heq,getD_both pa] at h1
    cases h1
   obtain ⟨p1,p2,p3⟩:=Oper.apart_spec (nW j oj' hoj so Anu tS)
   rw [JO p1] at hvj
   refine ⟨oj',vj,hoj,hvj,?_⟩
   have Ajk: ∀k ok,ops[k]?=some ok->k≠i->(Ag.setIfInBounds j true).getD k true=false->
     (∀e∈ok.after,Region.binds .any e=true->e.on≠i)->oi.apart ops ok=true:= λk ok hk hki Ap2 hno=>by
    refine nW k ok hk hki ?_ hno
    by_cases hjk:j=k
    ·subst hjk;exact Anu
    ·rw [getD_set_ne true hjk] at Ap2;exact Ap2
   refine ih (Ag.setIfInBounds j true) (st.put oj'.dst vj) (inv.set hj (FV j hjh)) Ajk (ready_mono hr (Hv so)) (by rw [JO p3];exact hv) ?_
   rw [Array.setIfInBounds_comm _ _ so,<-St.put_comm st v vj p2]
   exact gP
theorem ru: ∀(l:List Nat) (Ag:Array Bool),oE ops l Ag=true-> ∀j∈Region.ready .any ops Ag,j∈l
 | [],Ag,h,j,hj=>by simp only [oE,List.isEmpty_iff] at h;rw [h] at hj;cases hj
 |k::r,Ag,h,j,hj=>by
  simp only [oE,Ah,Lh,Ru] at h
  rcases h.1 with h1|h1
  ·rw [h1] at hj
   simp at hj
   simp [hj]
  ·by_cases e:j=k
   ·simp [e]
   ·exact Ap _ (ru r _ h.2 j (ready_mono hj e))
theorem DV {fl:List Nat} (cb:Region.noSelect ops=true) (hs:uY ops hd tl=true) (aN: ∀i,i∈hd->i<ops.size) (Le: ∀j,j<ops.size->j∈fl\/j∈hd\/j∈tl) (FV: ∀j,j∈hd->j∉tl) (st':St):
  ∀(l:List Nat) (Ag:Array Bool) (st:St),(∀i,i∈l->i∈hd)->Zx ops tl fl Ag->pG ops tl l Ag=true->Hb T Γ ops l st=some st'->
  YS T Γ ops hd (λAE s=>oE ops tl AE=true/\s=st') l.length Ag st
 | [],Ag,st,_,_,hB,he=>by
  simp only [Hb,Aa] at he
  exact ⟨by simpa [pG] using hB,he⟩
 |k::l,Ag,st,hl,inv,hB,he=>by
  simp only [pG,Ah] at hB
  obtain ⟨⟨hr,hf⟩,hB'⟩:=hB
  have hkh:=hl k (by simp)
  have kW:k∈Region.ready .any ops Ag:=by simpa using hr
  simp only [Hb] at he
  split at he
  ·cases he
  ·rename_i o ho
   split at he
   ·rename_i v hv
    exact KN ho hs aN hkh Le FV (λAE s hL=>ru tl AE hL.1) l.length Ag st inv (Region.free_spec ho hf) kW hv
     (DV cb hs aN Le FV st' l _ _ (λi hi=>hl i (by simp [hi])) (inv.set kW (FV k hkh)) hB' he)
   ·cases he
theorem zA {Q:Exit->Act->World->Prop} (hQ: ∀e a w,Q e a w->e= .normal) {k i:Nat} {x:Operand} {o:Oper} (ho:ops[k]?=some o) (sr:o.op= .extract x i) (hg:o.guard=none) {K:Act->World->Prop} {a:Act} {w:World}
  (h:wpOp P ops Q k K a w): ∃v,Yields P ops o v a/\K (a.put o.dst v) w:=by
 unfold wpOp at h
 simp only [ho] at h
 have hw:Region.wanted o (yielded ops a.tmps)=true:=by simp [Region.wanted,hg]
 rw [Ab hw] at h
 rcases h with h|⟨_,a',w',h⟩
 ·unfold Oper.wp at h
  have hr: ∀w,(execOp a.eval o).run P w=(do pure (Next.value (<-Instr.extract (a.eval x) i))).run P w:= λw=>by unfold execOp;rw [sr]
  rw [hr] at h
  unfold Instr.extract at h hr
  split at h
  ·rename_i vs hx
   split at h
   ·rename_i v hv
    rw [hx] at hr
    simp only [hv] at hr
    exact ⟨v, .inl ⟨hw,λw=>(hr w).trans rfl⟩,h⟩
   ·exact h.elim
  ·exact h.elim
 ·cases hQ _ _ _ h
theorem dS {Q:Exit->Act->World->Prop} (hQ: ∀e a w,Q e a w->e= .normal) (cb:Region.noSelect ops=true): ∀(l:List Nat) (Ag:Array Bool) (a:Act) (w:World),oE ops l Ag=true->wpOps P ops Q l a w->wpAny P .any ops Q l.length Ag a w
 | [],Ag,a,w,hB,h=>⟨by simpa [oE] using hB,h⟩
 |k::r,Ag,a,w,hB,h=>by
  simp only [oE,Ah,Lh,Ru] at hB
  rw [wpOps_cons] at h
  rcases hB.1 with h0|⟨h1,h2,h3⟩
  ·refine ⟨λh1=>(by rw [h0] at h1;cases h1),λi hi=>?_⟩
   rw [h0] at hi
   have hik:i=k:=by simpa using hi
   subst hik
   exact wpOp_mono (λa' w' h'=>dS hQ cb r _ a' w' hB.2 h') h
  ·unfold Aav at h1
   split at h1
   ·rename_i o ho
    split at h1
    ·rename_i x i sr hg
     obtain ⟨v,hy,hk⟩:=zA hQ ho sr hg h
     exact wpAny_take ho cb h3 h2 (λc a w hq=>by cases hQ _ _ _ hq) hy (dS hQ cb r _ _ w hB.2 hk)
    ·cases h1
   ·cases h1
theorem nQ {P:Program} {o:Oper} {t:Tmp} {a:Act} (h:o.op= .move (.tmp t)) (hg:o.guard=none):Yields P ops o (a.tmps.getD t undef) a:=by
 refine .inl ⟨by simp [Region.wanted,hg],λw=>?_⟩
 unfold execOp
 rw [h]
 rfl
theorem zT {hd tl:List Nat} {i:Nat} (h:o3 ops hd tl i=true): ∃o t,ops[i]?=some o/\o.op= .move (.tmp t)/\o.guard=none:=by
 unfold o3 at h
 split at h
 ·rename_i o ho
  simp only [Ah] at h
  have h1:=h.1
  split at h1
  ·rename_i t h2 h3
   exact ⟨o,t,ho,h2,h3⟩
  ·cases h1
 ·cases h
theorem ik {q:Bool} {hd:List Nat} {Q:Exit->Act->World->Prop} (hQ: ∀c a w,¬Q (.panic c) a w) (cb:Region.noSelect ops=true) {n:Nat} {st1:St}
  (gP: ∀Ag st a w,(∀j oj,ops[j]?=some oj->Ag.getD j false=true-> ∀e∈oj.after,Region.binds .any e=true->Ag.getD e.on false=true)->Ag.size=ops.size->pG ops tl hd Ag=true->st=st1->Rel X st a w->
   (∀j,Ag.getD j false=true↔j∈Ws q Γ ops)->wpAny P .any ops Q n Ag a w):
  ∀(l dn:List Nat) (Ag:Array Bool) (st:St) (a:Act) (w:World),(∀j,j∈Ws q Γ ops↔j∈dn\/j∈l)->(∀i,i∈l-> ∃o t,ops[i]?=some o/\o.op= .move (.tmp t)/\o.guard=none)->
   (∀j oj,ops[j]?=some oj->Ag.getD j false=true-> ∀e∈oj.after,Region.binds .any e=true->Ag.getD e.on false=true)->Ag.size=ops.size->(∀j,Ag.getD j false=true↔j∈dn)->
   nP ops tl hd l Ag=true->Hb T Γ ops l st=some st1->Rel X st a w->wpAny P .any ops Q (l.length+n) Ag a w
 | [],dn,Ag,st,a,w,hm,_,hc,aN,hdn,hf,he,hr=>by
  simp only [Hb,Aa] at he
  rw [Gp,Bt]
  exact gP Ag st a w hc aN (by simpa [nP] using hf) he hr λj=>by rw [hdn j,hm j];simp
 |k::l,dn,Ag,st,a,w,hm,hl,hc,aN,hdn,hf,he,hr=>by
  simp only [nP,Ah] at hf
  obtain ⟨⟨h1,h2⟩,h3⟩:=hf
  obtain ⟨o,t,ho,sr,hg⟩:=hl k (by simp)
  have wi:k∈Region.ready .any ops Ag:=by simpa using h1
  obtain ⟨_,o',ho',Le⟩:=mem_ready.1 wi
  have ho2:o'=o:=Bd (ho'.symm.trans ho)
  subst ho2
  have hks:k<Ag.size:=by rw [aN];exact (Oa.1 ho).1
  simp only [Hb,ho] at he
  have hv:Xv T Γ ops st o'=some (st.get t):=by simp only [Xv,hg,Xz,Gf,sr];rfl
  rw [hv] at he
  rw [Ay,show l.length+1+n=(l.length+n)+1 by omega]
  refine wpAny_take ho cb h2 h1 (λc a w hq=>absurd hq (hQ c _ w)) (nQ sr hg) ?_
  obtain ⟨π,hr⟩:=hr
  refine ik hQ cb gP l (k::dn) _ _ _ _ (λj=>by rw [hm j,Bb,Bb];exact ⟨λh=>h.elim (λh=> .inl (.inr h)) (λh=>h.elim (λh=> .inl (.inl h)) .inr),λh=>h.elim (λh=>h.elim (λh=> .inr (.inl h)) .inl) (λh=> .inr (.inr h))⟩) (λi hi=>hl i (by simp [hi])) ?_ (by simp [aN]) (λj=>?_) h3 he ⟨π,hr.put o'.dst (hr.2.tmps t)⟩
  ·intro j oj hj hlj e hem hb
   by_cases we:k=j
   ·subst we
    have:oj=o':=Bd (hj.symm.trans ho)
    subst this
    exact getD_set_true (Le e hem hb)
   ·rw [getD_set_ne false we] at hlj
    exact getD_set_true (hc j oj hj hlj e hem hb)
  ·by_cases we:k=j
   ·subst we
    refine ⟨λ_=>by simp,λ_=>?_⟩
    simp [hks]
   ·rw [getD_set_ne false we,hdn j]
    simp [Hv we]
theorem gJ {ops:Array Oper} : ∀(a b:List Nat) (st st':St),Hb T Γ ops (a++b) st=some st'-> ∃s,Hb T Γ ops a st=some s/\Hb T Γ ops b s=some st'
 | [],b,st,st',h=>⟨st,rfl,h⟩
 |i::a,b,st,st',h=>by
  simp only [Kj,Hb] at h⊢
  split at h
  ·cases h
  ·split at h
   ·exact gJ a b _ st' h
   ·cases h
theorem py (hT:Ep P T) (Pw:Lr P Γ) (hm:P.follows .mixedOrders=true) {Q:Exit->Act->World->Prop} {id:Nat} {draw:Bool} {st st':St} {a:Act} (h:Rel X st a w)
  (he:Sr T Γ ops draw st=some st') (hQ: ∀a' w',Rel X st' a' w'->Q .normal a' w'):(Code.region id ops draw).wp P Q a w:=by
 unfold Sr at he
 cases draw with
 |false=>
  rw [Ai (by simp)] at he
  exact wp_region_list (lg hT Pw ops.toList st st' a w h he hQ)
 |true=>
  rw [Ab rfl] at he
  have go: ∀(q:Bool),de q Γ ops=true->(match Hb T Γ ops (kx q Γ ops) st with
    |some st'=>Nu T Γ ops (Kk q Γ ops) st'
    |none=>none)=some st'->(Code.region id ops true).wp P Q a w:=by
   intro q gO he
   split at he
   ·rename_i st1 h1
    simp only [de,Ah,Xt] at gO
    obtain ⟨⟨⟨cb,hlen⟩,Aji⟩,Aov⟩:=gO
    refine wp_mono (Q:= λe a w=>e= .normal/\Q .normal a w) ?_ λe a w h=>h.1▸h.2
    refine wp_region_any hm ?_
    have hrel:Rel X st a {w with drawn:=w.drawn+1} :=by
     obtain ⟨π,h⟩:=h
     exact ⟨π,h.quiet ⟨rfl,rfl,rfl,Aq _,λ_ _=>rfl⟩⟩
    obtain ⟨s0,h0,h1⟩:=gJ _ _ _ _ h1
    have Vv: ∀i,i∈cX q Γ ops->i<ops.size:= λi hi=>Ff.1 (Cf.1 hi).1
    have aN: ∀i,i∈Ww q Γ ops->i<ops.size:= λi hi=>Vv i (Cf.1 hi).1
    have Le: ∀j,j<ops.size->j∈Ws q Γ ops\/j∈Ww q Γ ops\/j∈Kk q Γ ops:= λj hj=>by
     by_cases ht:j∈Kk q Γ ops
     ·exact .inr (.inr ht)
     ·have hh:j∈cX q Γ ops:=Cf.2 ⟨Ff.2 hj,by simpa using ht⟩
      cases hfl:o3 ops (cX q Γ ops) (Kk q Γ ops) j with
      |true=>exact .inl (Cf.2 ⟨hh,hfl⟩)
      |false=>exact .inr (.inl (Cf.2 ⟨hh,by rw [hfl];rfl⟩))
    have Aht: ∀j,j∈cX q Γ ops->j∉Kk q Γ ops:= λj hj=>by
     have:=(Cf.1 hj).2
     simpa using this
    have FV: ∀j,j∈Ww q Γ ops->j∉Kk q Γ ops:= λj hj=>Aht j (Cf.1 hj).1
    have Anj: ∀j,j∈Ws q Γ ops->j∉Kk q Γ ops:= λj hj=>Aht j (Cf.1 hj).1
    have htl: ∀t,t∈Kk q Γ ops->t<ops.size:=by
     intro t ht
     unfold Kk at ht
     have: ∀(l:List Nat) (acc:List Nat),(∀i,i∈acc->i<ops.size)->(∀i,i∈l->i<ops.size)-> ∀i,i∈l.foldl (init:=acc) (λacc i=>match ops[i]? with
       |some o=>if Ab4 q Γ o||o.after.any (λe=>Region.binds .any e&&acc.contains e.on) then acc++ [i] else acc
       |none=>acc)->i<ops.size:=by
      intro l
      induction l with
      |nil=>intro acc h1 _ i hi;exact h1 i hi
      |cons x l ih=>
       intro acc h1 h2 i hi
       simp only [Rw] at hi
       refine ih _ ?_ (λi hi=>h2 i (by simp [hi])) i hi
       intro k hk
       split at hk
       ·split at hk
        ·rcases Ba.1 hk with hk|hk
         ·exact h1 k hk
         ·simp at hk;rw [hk];exact h2 x (by simp)
        ·exact h1 k hk
       ·exact h1 k hk
     exact this (List.range ops.size) [] (by simp) (λi hi=>Ff.1 hi) t ht
    rw [<-hlen]
    refine ik (q:=q) (X:=X) (T:=T) (Γ:=Γ) (tl:=Kk q Γ ops) (hd:=Ww q Γ ops) (st1:=s0) (λc a w hq=>by cases hq.1) cb ?_ (Ws q Γ ops) [] _ st a _ (λj=>by simp)
     (λi hi=>zT (Cf.1 hi).2) (λj oj _ hl=>(by rw [hlen,getD_replicate_false] at hl;cases hl)) (by simp [hlen]) (λj=>by rw [hlen,getD_replicate_false];simp) (by rw [hlen];exact Aji) h0 hrel
    intro Ag s a' w' hc xL Ans hs hr hfl
    subst hs
    have Avz:Zx ops (Kk q Γ ops) (Ws q Γ ops) Ag:=
     ⟨xL,λi hi=>(hfl i).2 hi,hc,λt ht=>getD_in (by rw [xL];exact htl t ht) (by
      cases hg:Ag.getD t false with
      |false=>rfl
      |true=>exact absurd ht (Anj t ((hfl t).1 hg)))⟩
    have HA:=DV (T:=T) (Γ:=Γ) cb Aov aN Le FV st1 (Ww q Γ ops) _ s (λi hi=>hi) Avz Ans h1
    exact lQ (X:=X) (P:=P) (Q:= λe a w=>e= .normal/\Q .normal a w) (g:=(Kk q Γ ops).length) hT Pw (λAg s a' w' hL hr=>by
     obtain ⟨Ava,rfl⟩:=hL
     exact dS (λe a w h=>h.1) cb (Kk q Γ ops) Ag a' w' Ava (l9 hT Pw _ _ st' a' w' hr he λa w h=>⟨rfl,hQ a w h⟩)) _ _ _ _ _ HA hr
   ·cases he
  split at he
  ·rename_i gO;exact go false gO he
  ·split at he
   ·rename_i gO;exact go true gO he
   ·cases he
theorem dK (q:Bool): ∀(l:List Nat) (Ag:Array Bool),(Ki q ops l Ag).length<=l.length
 | [],_=>Aq _
 |i::r,Ag=>by
  simp only [Ki]
  split
  ·simp only [Ay];have:=dK q r (Ag.setIfInBounds i true);omega
  ·simp only [Ay];have:=dK q r Ag;omega
theorem IG (hT:Ep P T) {st:St} {a:Act} (h:Bh X π st a w) {i:Nat} {o:Oper} (ho:ops[i]?=some o) (hp:kC ops i=true) {v:AV} (hv:Xv T Γ ops st o=some v):
  ∃u,Yields P ops o u a/\Bs X w π st.heap v u:=by
 unfold kC at hp
 rw [ho] at hp
 simp only at hp
 obtain ⟨dst,op,ty,pos,af,gd⟩:=o
 split at hp
 ·rename_i t h3 h4
  simp only at h3 h4;subst h3;subst h4
  refine ⟨a.tmps.getD t undef,nQ rfl rfl,?_⟩
  simp only [Xv,Xz,Gf,Aa] at hv
  subst hv
  exact h.2.tmps t
 ·rename_i x h3 h4
  simp only at h3 h4;subst h3;subst h4
  have e:=Ed h.2 x
  have fin:(∃ad,a.eval x= .pointer (some ad))->Yields P ops ⟨dst, .nilCheck x,ty,pos,af,none⟩ (a.eval x) a:= λ⟨ad,hx⟩=>
   .inl ⟨by simp [Region.wanted],λw=>by simp [execOp,hx]⟩
  simp only [Xv,Xz,Gf] at hv
  split at hv
  ·rename_i fr τ y hx
   simp only [Aa] at hv;subst hv
   rw [hx] at e
   have e':=e
   obtain ⟨cs,hc,hv⟩:=e
   simp only [Cells] at hc
   obtain ⟨g,o,rfl,_⟩:=hc
   simp only [Ce,Ty.Ar,Dh,Si,iI] at hv
   exact ⟨_,fin ⟨_,hv⟩,e'⟩
  ·rename_i fr τ y hx
   simp only [Aa] at hv;subst hv
   rw [hx] at e
   obtain ⟨cs,hc,hv⟩:=e
   simp only [Cells] at hc
   rcases hc with ⟨h0,_⟩|⟨y',g,o,h0,rfl,hr⟩
   ·cases h0
   simp only [Aa] at h0;subst h0
   simp only [Ce,Ty.Ar,Dh,Si,iI] at hv
   exact ⟨_,fin ⟨_,hv⟩,[_],⟨g,o,rfl,hr⟩,by rw [hv];simp [Ce,Ty.Ar]⟩
  ·rename_i l i hx
   simp only [Aa] at hv;subst hv
   rw [hx] at e
   have e':=e
   obtain ⟨r,tid,vs,_,_,hv⟩:=e
   exact ⟨_,fin ⟨_,hv⟩,e'⟩
  ·rename_i l i hx
   simp only [Aa] at hv;subst hv
   rw [hx] at e
   have e':=e
   obtain ⟨r,b,sz,n,_,_,_,_,hv⟩:=e
   exact ⟨_,fin ⟨_,hv⟩,e'⟩
  ·cases hv
 ·rename_i s x f h3 h4
  simp only at h3 h4;subst h3;subst h4
  simp only [Xv,Xz,Gf] at hv
  obtain ⟨u,h1,h2⟩:=cS hT (st:=st) _ _ _ _ v (Ed h.2 x) hv
  refine ⟨u, .inl ⟨by simp [Region.wanted],λw=>?_⟩,h2⟩
  have:=h1 w
  simp only [execOp,Sem.run_bind]
  first
   |(rw [this];rfl)
   |simp [this]
 ·cases hp
theorem BI {i:Nat} (h:zU ops i=true):kC ops i=true:=by
 unfold zU at h
 unfold kC
 split at h
 ·rename_i o ho
  split at h
  ·rename_i h1 h2
   simp only [h1,h2]
  ·cases h
 ·cases h
theorem cF (hT:Ep P T) (q:Bool) {Q:Exit->Act->World->Prop} (hQ: ∀c a w,¬Q (.panic c) a w) (cb:Region.noSelect ops=true) {n:Nat} {st1:St} :
  ∀(l:List Nat) (Ag:Array Bool) (st:St) (a:Act) (w:World),Hb T Γ ops (Ki q ops l Ag) st=some st1->Rel X st a w->
   (∀a w,Rel X st1 a w->wpAny P .any ops Q n (Fb (Ki q ops l Ag) Ag) a w)->wpAny P .any ops Q ((Ki q ops l Ag).length+n) Ag a w
 | [],Ag,st,a,w,he,hr,hK=>by
  simp only [Ki,Hb,Aa] at he
  subst he
  simp only [Ki,Gp,Bt]
  exact hK a w hr
 |k::l,Ag,st,a,w,he,hr,hK=>by
  simp only [Ki] at he hK⊢
  split
  ·rename_i hc
   rw [Ab hc] at he hK
   simp only [Ah] at hc
   obtain ⟨h0,h1,h2⟩:=hc
   have hp:kC ops k=true:=by
    cases q with
    |true=>exact h0
    |false=>exact BI h0
   simp only [Hb] at he
   split at he
   ·cases he
   rename_i o ho
   split at he
   rotate_left
   ·cases he
   rename_i v hv
   obtain ⟨π,hr⟩:=hr
   obtain ⟨u,hy,hu⟩:=IG (Γ:=Γ) hT hr ho hp hv
   rw [Ay,show (Ki q ops l (Ag.setIfInBounds k true)).length+1+n=((Ki q ops l (Ag.setIfInBounds k true)).length+n)+1 by omega]
   refine wpAny_take ho cb h2 h1 (λc a w hq=>absurd hq (hQ c _ w)) hy ?_
   exact cF hT q hQ cb l _ _ _ _ he ⟨π,hr.put o.dst hu⟩ hK
  ·rename_i hc
   rw [Ai hc] at he hK
   exact cF hT q hQ cb l Ag st a w he hr hK
theorem lR (hT:Ep P T) (Pw:Lr P Γ) {Q:Exit->Act->World->Prop} {K:St->Prop} (hK: ∀st a w,K st->Rel X st a w->Q .normal a w):
  ∀(f:Nat) (Ag:Array Bool) (st:St) (a:Act) (w:World),anyS T Γ ops K f Ag st->Rel X st a w->wpAny P .any ops Q f Ag a w
 |0,Ag,st,a,w,h,hr=>⟨h.1,hK _ _ _ h.2 hr⟩
 |f+1,Ag,st,a,w,h,hr=>by
  refine ⟨λh0=>absurd h0 h.1,λi hi=>?_⟩
  obtain ⟨o,st',ho,he,gP⟩:=h.2 i hi
  obtain ⟨π,hr⟩:=hr
  unfold wpOp
  simp only [ho]
  exact Wr hT Pw hr o he λa' w' h'=>lR hT Pw hK f _ _ _ _ gP h'
def Us (ops:Array Oper) (Ag:Array Bool):Prop:= ∀k a,Ag.getD k false=true->Region.waitsFor .any ops k a=true->Ag.getD a false=true
theorem dg {Ag:Array Bool} {i a:Nat} (h:i∈Region.ready .any ops Ag) (hw:Region.waitsFor .any ops i a=true):Ag.getD a false=true:=by
 obtain ⟨_,o,ho,Le⟩:=mem_ready.1 h
 obtain ⟨o',ho',e,he,hb,rfl⟩:=Region.waitsFor_spec hw
 rw [ho] at ho'
 cases ho'
 exact Le e he hb
theorem Us.set {Ag:Array Bool} (hc:Us ops Ag) {i:Nat} (hi:i∈Region.ready .any ops Ag):Us ops (Ag.setIfInBounds i true):= λk a hk hw=>by
 by_cases hik:i=k
 ·subst hik
  exact getD_set_true (dg hi hw)
 ·rw [getD_set_ne false hik] at hk
  exact getD_set_true (hc k a hk hw)
theorem qD:Us ops (Array.replicate ops.size false):= λk a hk _=>by
 rw [getD_replicate_false] at hk
 cases hk
theorem aW (q:Bool): ∀(l:List Nat) (Ag:Array Bool),Us ops Ag->Us ops (Fb (Ki q ops l Ag) Ag)
 | [],Ag,h=>h
 |i::r,Ag,h=>by
  simp only [Ki]
  split
  ·rename_i hc
   rw [Ah,Ah] at hc
   have hi:i∈Region.ready .any ops Ag:=by simpa using hc.2.1
   exact aW q r _ (h.set hi)
  ·exact aW q r Ag h
theorem Xa: ∀(l:List Nat) (Ag:Array Bool),(Fb l Ag).size=Ag.size
 | [],_=>rfl
 |i::r,Ag=>by simp only [Fb];rw [Xa r];simp
theorem fI: ∀(l:List Nat) (Ag:Array Bool) (k:Nat),k∈l->k<Ag.size->(Fb l Ag).getD k false=true
 |i::r,Ag,k,h,hk=>by
  simp only [Fb]
  by_cases hr:k∈r
  ·exact fI r _ k hr (by simpa using hk)
  ·have:k=i:=(Bb.1 h).resolve_right hr
   subst this
   have hs: ∀(l:List Nat) (A:Array Bool),A.getD k false=true->(Fb l A).getD k false=true:=by
    intro l
    induction l with
    |nil=>exact λA h=>h
    |cons j l ih=>exact λA h=>ih _ (getD_set_true h)
   exact hs r _ (by simp [hk])
theorem dJ: ∀(l:List Nat) (Ag:Array Bool) (k:Nat),k∉l->(Fb l Ag).getD k false=Ag.getD k false
 | [],_,_,_=>rfl
 |i::r,Ag,k,h=>by
  simp only [Fb]
  rw [dJ r _ k λhk=>h (Ap _ hk),getD_set_ne false (λe=>h (by rw [e];simp))]
def Mz (E:List Nat) (Ag:Array Bool):List Nat:=E.filter λr=>!Ag.getD r false
def dC (ops:Array Oper) (r:Nat):Option Tmp:=(ops[r]?).bind (·.dst)
def l8 (ops:Array Oper) (Q:List Nat):List Nat:=Q.filterMap (dC ops)
def Su (ops:Array Oper):List Nat->St->St
 | [],st=>st
 |r::Q,st=>(Su ops Q st).put (dC ops r) .undef
def TK (ops:Array Oper):List Nat->Act->Act->Prop
 | [],a,a'=>a'=a
 |r::Q,a,a'=> ∃u,TK ops Q (a.put (dC ops r) u) a'
theorem Ad3 {H:List (Nat×OB)} {v:Value} :Bs X w π H .undef v:=trivial
theorem je (s:St) (d:Option Tmp) (v:AV) (t:Nat):(d=some t->(s.put d v).get t=v\/(s.put d v).get t= .undef)/\(d≠some t->(s.put d v).get t=s.get t):=by
 cases d with
 |none=>exact ⟨λh=>(by cases h),λ_=>rfl⟩
 |some e=>
  have key:(s.put (some e) v).get t=if e=t/\t<s.tmps.length then v else s.get t:=Rp _ _ _ _ _
  refine ⟨λh=>?_,λh=>?_⟩
  ·cases h
   rw [key]
   by_cases hl:t<s.tmps.length
   ·rw [Ab ⟨rfl,hl⟩];exact .inl rfl
   ·rw [Ai (λh=>hl h.2)]
    exact .inr (by unfold St.get;rw [Ak,Ei (by omega)];rfl)
  ·rw [key,Ai]
   rintro ⟨rfl,_⟩
   exact h rfl
theorem kH (s:St) (d:Option Tmp) (v:AV):(s.put d v).heap=s.heap:=by cases d<;>rfl
theorem oz (s:St) (d:Option Tmp) (v:AV):(s.put d v).tmps.length=s.tmps.length:=by
 cases d with
 |none=>rfl
 |some d=>exact ar _ _ _
theorem Rk: ∀(Q:List Nat) (st:St),(Su ops Q st).heap=st.heap
 | [],_=>rfl
 |r::Q,st=>by simp only [Su];rw [kH,Rk Q]
theorem Xd: ∀(Q:List Nat) (st:St),(Su ops Q st).tmps.length=st.tmps.length
 | [],_=>rfl
 |r::Q,st=>by simp only [Su];rw [oz,Xd Q]
theorem Mq {Q:List Nat} {t:Nat} :t∈l8 ops Q↔ ∃r∈Q,dC ops r=some t:=List.mem_filterMap
theorem Sv: ∀(Q:List Nat) (st:St) (t:Nat),(t∈l8 ops Q->(Su ops Q st).get t= .undef)/\(t∉l8 ops Q->(Su ops Q st).get t=st.get t)
 | [],st,t=>⟨λh=>by simp [l8] at h,λ_=>rfl⟩
 |r::Q,st,t=>by
  obtain ⟨h1,h2⟩:=Sv Q st t
  obtain ⟨g1,g2⟩:=je (Su ops Q st) (dC ops r) .undef t
  simp only [Su]
  by_cases hd:dC ops r=some t
  ·refine ⟨λ_=>(g1 hd).elim id id,λh=>absurd (Mq.2 ⟨r,Lg ..,hd⟩) h⟩
  ·refine ⟨λh=>?_,λh=>?_⟩
   ·rw [g2 hd]
    obtain ⟨q,hq,he⟩:=Mq.1 h
    rcases Bb.1 hq with rfl|hq
    ·exact absurd he hd
    ·exact h1 (Mq.2 ⟨q,hq,he⟩)
   ·rw [g2 hd]
    exact h2 λhm=>by
     obtain ⟨q,hq,he⟩:=Mq.1 hm
     exact h (Mq.2 ⟨q,Ap _ hq,he⟩)
theorem uO {st s:St} {a:Act} (h:Bh X π st a w) (hh:s.heap=st.heap) (hl:s.tmps.length=st.tmps.length) (hg: ∀t,s.get t=st.get t\/s.get t= .undef):Bh X π s a w:=by
 refine ⟨by rw [hh];exact h.1,⟨by rw [hl];exact h.2.size,h.2.defers,λt=>?_⟩⟩
 rw [hh]
 rcases hg t with e|e
 ·rw [e];exact h.2.tmps t
 ·rw [e];exact Ad3
theorem JN {st s:St} {o:Oper} (hh:s.heap=st.heap) (hg: ∀t,t∈o.looksAt ops->s.get t=st.get t):Xv T Γ ops s o=Xv T Γ ops st o:=by
 obtain ⟨ts,H⟩:=s
 obtain ⟨ts',H'⟩:=st
 simp only at hh
 subst hh
 exact yY hg
theorem rj (hT:Ep P T) (Pw:Lr P Γ) {st:St} {a:Act} (h:Bh X π st a w) {i:Nat} {o:Oper} (ho:ops[i]?=some o) (hp:kD ops i=true) {v:AV} (hv:Xv T Γ ops st o=some v):
  ∃u,(∀(Q:Exit->Act->World->Prop) (K:Act->World->Prop),K (a.put o.dst u) w->wpOp P ops Q i K a w)/\Bs X w π st.heap v u:=by
 unfold kD at hp
 rw [ho] at hp
 simp only at hp
 have wb:o.guard=none:=by
  obtain ⟨dst,op,ty,pos,af,gd⟩:=o
  cases gd with
  |none=>rfl
  |some g=>split at hp<;>first|rfl|(rename_i h4;cases h4)|cases hp
 have hb:Xz T Γ st o=some v:=by
  unfold Xv at hv
  rw [wb] at hv
  exact hv
 have hw:Region.wanted o (yielded ops a.tmps)=true:=by simp [Region.wanted,wb]
 have fin: ∀s:Sem Value,execOp a.eval o=(do pure (.value (<-s)))->Gf T Γ st o=some v-> ∃u,(∀(Q:Exit->Act->World->Prop) (K:Act->World->Prop),K (a.put o.dst u) w->wpOp P ops Q i K a w)/\Bs X w π st.heap v u:=by
  intro s he hq
  have hg:=j6 hT Pw h o v hq
  rw [he,Sem.run_bind] at hg
  cases hr:s.run P w with
  |ok u w'=>
   rw [hr] at hg
   obtain ⟨e,hu⟩:=(show w'=w/\Bs X w π st.heap v u from hg)
   subst e
   refine ⟨u,λQ K hK=>?_,hu⟩
   unfold wpOp
   simp only [ho]
   rw [Ab hw]
   refine .inl ?_
   unfold Oper.wp
   rw [he,Sem.run_bind,hr]
   exact hK
  |halt x w'=>rw [hr] at hg;exact hg.elim
 obtain ⟨dst,op,ty,pos,af,gd⟩:=o
 simp only at wb
 subst wb
 split at hp
 ·rename_i x h3 h4
  simp only at h3;subst h3
  exact fin (pure (a.eval x)) (by simp [execOp]) hb
 ·rename_i x h3 h4
  simp only at h3;subst h3
  exact fin _ rfl hb
 ·rename_i x h3 h4
  simp only at h3;subst h3
  exact fin _ rfl hb
 ·rename_i x h3 h4
  simp only at h3;subst h3
  exact fin _ rfl hb
 ·cases hp
theorem YD {j:Nat} {oi oj:Oper} {v:Value} (hj:ops[j]?=some oj) (hap:oi.apart ops oj=true) (hsj: ∀cs b,oj.op≠ .select cs b)
  {Q:Exit->Act->World->Prop} (hQ: ∀c a w,¬Q (.panic c) a w) {K:Act->World->Prop} {a:Act} {w:World} (h:wpOp P ops Q j K (a.put oi.dst v) w):
  wpOp P ops Q j (λa' w'=>K (a'.put oi.dst v) w') a w:=by
 obtain ⟨h1,h2,h3⟩:=Oper.apart_spec hap
 unfold wpOp at*
 simp only [hj] at*
 rw [wanted_put oj a oi.dst v h1] at h
 split
 ·rename_i hw
  simp only [hw,Pl] at h
  rcases h with h|⟨Ahm,Anx⟩
  case inr=>exact .inr ⟨by unfold Oper.asks at*;rw [execOp_put oj hsj a oi.dst v h1] at Ahm;exact Ahm,Anx⟩
  refine .inl ?_
  unfold Oper.wp at*
  rw [execOp_put oj hsj a oi.dst v h1] at h
  generalize (execOp a.eval oj).run P w=r at*
  cases r with
  |ok n w'=>
   cases n<;>simp only [Oper.upon] at h⊢
   case value u=>rw [<-Act.put_comm a v u h2];exact h
   case skip=>rw [<-Act.put_comm a v undef h2];exact h
   case defer d=>
    rw [<-Act.put_comm _ v undef h2,<-Act.put_defers]
    exact h
   case enter f args=>
    refine Calls.mono h λe rG he=>?_
    cases e with
    |returned u=>show K ((a.put oj.dst u).put oi.dst v) rG;rw [<-Act.put_comm a v u h2];exact he
    |panicked c=>exact absurd he (hQ _ _ _)
    |outgrown=>exact he
   case row row args=>exact Rows.mono h λu rG he=>by rw [<-Act.put_comm a v u h2];exact he
  |halt x w'=>
   cases x<;>simp only [Oper.upon] at h⊢
   case panic u=>exact absurd h (hQ _ _ _)
 ·rename_i hw
  simp only [hw] at h
  rw [<-Act.put_comm a v undef h2];exact h
theorem yx: ∀ {Q:List Nat} {a a':Act},TK ops Q a a'->a'.defers=a.defers/\a'.tmps.size=a.tmps.size/\ ∀t,t∉l8 ops Q->a'.tmps.getD t undef=a.tmps.getD t undef
 | [],a,a',h=>by cases h;exact ⟨rfl,rfl,λ_ _=>rfl⟩
 |r::Q,a,a',⟨u,h⟩=>by
  obtain ⟨h1,h2,h3⟩:=yx h
  have hp:(a.put (dC ops r) u).defers=a.defers/\(a.put (dC ops r) u).tmps.size=a.tmps.size:=by cases dC ops r<;>simp [Act.put]
  refine ⟨h1.trans hp.1,h2.trans hp.2,λt ht=>?_⟩
  have hn:dC ops r≠some t:= λe=>ht (Mq.2 ⟨r,Lg ..,e⟩)
  rw [h3 t λhm=>ht (by obtain ⟨q,hq,he⟩:=Mq.1 hm;exact Mq.2 ⟨q,Ap _ hq,he⟩)]
  cases hd:dC ops r with
  |none=>rfl
  |some d=>
   have Jd:d≠t:= λe=>hn (by rw [hd,e])
   simp [Act.put,Array.getElem?_setIfInBounds_ne Jd]
theorem Ac8 {Q:List Nat} {st:St} {a a':Act} (hp:TK ops Q a a') (h:Bh X π st a' w):Bh X π (Su ops Q st) a w:=by
 obtain ⟨h1,h2,h3⟩:=yx hp
 refine ⟨by rw [Rk];exact h.1,⟨by rw [Xd,<-h2];exact h.2.size,by rw [<-h1];exact h.2.defers,λt=>?_⟩⟩
 rw [Rk]
 by_cases ht:t∈l8 ops Q
 ·rw [(Sv Q st t).1 ht];exact Ad3
 ·rw [(Sv Q st t).2 ht,<-h3 t ht];exact h.2.tmps t
theorem z6 {j:Nat} {oj:Oper} (hj:ops[j]?=some oj) (hsj: ∀cs b,oj.op≠ .select cs b) {Q:Exit->Act->World->Prop} (hQ: ∀c a w,¬Q (.panic c) a w) {K:Act->World->Prop} :
  ∀(L:List Nat) (a a':Act) (w:World),(∀r∈L,∃o,ops[r]?=some o/\o.apart ops oj=true)->TK ops L a a'->wpOp P ops Q j K a' w->wpOp P ops Q j (λa2 w2=> ∃a3,TK ops L a2 a3/\K a3 w2) a w
 | [],a,a',w,_,hp,h=>by cases hp;exact wpOp_mono (λa2 w2 hk=>⟨a2,rfl,hk⟩) h
 |r::L,a,a',w,hap,⟨u,hp⟩,h=>by
  obtain ⟨o,ho,ha⟩:=hap r (Lg ..)
  have hd:dC ops r=o.dst:=by unfold dC;rw [ho];rfl
  rw [hd] at hp
  have ih:=z6 hj hsj hQ L _ a' w (λq hq=>hap q (Ap _ hq)) hp h
  exact wpOp_mono (λa2 w2 ⟨a3,h1,h2⟩=>⟨a3,⟨u,by rw [hd];exact h1⟩,h2⟩) (YD hj ha hsj hQ ih)
def KP (ops:Array Oper):List Nat->Prop
 | []=>True
 |r::L=>(∀q∈r::L,∀o d,ops[r]?=some o->dC ops q=some d->d∉o.looksAt ops)/\(∀q∈L,∀d,dC ops r=some d->dC ops q≠some d)/\KP ops L
def xo (ops:Array Oper):List Nat->Prop
 | []=>True
 |r::L=>(∀q∈L,Region.waitsFor .any ops q r=true\/ ∀o d,ops[q]?=some o->dC ops r=some d->d∉o.looksAt ops)/\xo ops L
theorem KP.filter {p:Nat->Bool} : ∀ {L:List Nat},KP ops L->KP ops (L.filter p)
 | [],_=>trivial
 |r::L,⟨h1,h2,h3⟩=>by
  rw [List.filter_cons]
  split
  ·exact ⟨λq hq=>h1 q (by rcases Bb.1 hq with rfl|hq;exact Lg ..;exact Ap _ (Cf.1 hq).1),λq hq=>h2 q (Cf.1 hq).1,h3.filter⟩
  ·exact h3.filter
theorem xo.filter {p:Nat->Bool} : ∀ {L:List Nat},xo ops L->xo ops (L.filter p)
 | [],_=>trivial
 |r::L,⟨h1,h3⟩=>by
  rw [List.filter_cons]
  split
  ·exact ⟨λq hq=>h1 q (Cf.1 hq).1,h3.filter⟩
  ·exact h3.filter
theorem au {i j:Nat} {p:Oper->Oper->Bool} (h:qw ops i j p=true): ∃x y,ops[i]?=some x/\ops[j]?=some y/\p x y=true:=by
 unfold qw at h
 split at h
 ·rename_i x y h1 h2;exact ⟨x,y,h1,h2,h⟩
 ·cases h
theorem gw {x y:Oper} (h:oW ops x y=true): ∀d,x.dst=some d->d∉y.looksAt ops:= λd hd=>by
 unfold oW at h
 rw [hd] at h
 simpa using h
theorem FB {x y:Oper} (h:LO x y=true): ∀d,x.dst=some d->y.dst≠some d:= λd hd=>by
 unfold LO at h
 rw [hd] at h
 simpa using h
theorem cR {r:Nat} {o:Oper} (h:ops[r]?=some o):dC ops r=o.dst:=by unfold dC;rw [h];rfl
theorem r9: ∀ {E:List Nat},BD ops E=true->KP ops E/\xo ops E
 | [],_=>⟨trivial,trivial⟩
 |r::E,h=>by
  simp only [BD,Ah,Bc] at h
  obtain ⟨⟨h1,h2⟩,h3⟩:=h
  obtain ⟨g1,g2⟩:=r9 h3
  refine ⟨⟨λq hq o d ho hd=>?_,λq hq d hd=>?_,g1⟩,λq hq=>?_,g2⟩
  ·rcases Bb.1 hq with rfl|hq
   ·obtain ⟨x,y,hx,hy,hp⟩:=au h1
    rw [ho] at hx hy;cases hx;cases hy
    rw [cR ho] at hd
    exact gw hp d hd
   ·obtain ⟨x,y,hx,hy,hp⟩:=au (h2 q hq).1
    rw [ho] at hx;cases hx
    rw [cR hy] at hd
    exact gw (Cx.1 hp).2 d hd
  ·obtain ⟨x,y,hx,hy,hp⟩:=au (h2 q hq).1
   rw [cR hx] at hd
   rw [cR hy]
   exact FB (Cx.1 hp).1 d hd
  ·have h4:=(h2 q hq).2
   rw [Lh] at h4
   rcases h4 with h4|h4
   ·exact .inl h4
   ·refine .inr λo d ho hd=>?_
    obtain ⟨x,y,hx,hy,hp⟩:=au h4
    rw [ho] at hy;cases hy
    rw [cR hx] at hd
    exact gw hp d hd
theorem Aha (hT:Ep P T) (Pw:Lr P Γ) {st:St} : ∀(L:List Nat) (a:Act),(∀r∈L,kD ops r=true/\ ∃o v,ops[r]?=some o/\Xv T Γ ops st o=some v/\ ∀d,o.dst=some d->st.get d=v)->KP ops L->
  Bh X π (Su ops L st) a w-> ∃a',TK ops L a a'/\Bh X π st a' w
 | [],a,_,_,h=>⟨a,rfl,h⟩
 |r::L,a,hs,⟨f1,f2,f3⟩,h=>by
  obtain ⟨hr,o,v,ho,hv,hd⟩:=hs r (Lg ..)
  have hdo:=cR ho
  have tV:Xv T Γ ops (Su ops (r::L) st) o=some v:=by
   rw [JN (st:=st) (Rk _ _) λt ht=>(Sv _ _ _).2 λhm=>by
    obtain ⟨q,hq,he⟩:=Mq.1 hm
    exact f1 q hq o t ho he ht]
   exact hv
  obtain ⟨u,_,hu⟩:=rj hT Pw h ho hr tV
  have h2:=h.put o.dst hu
  have h3:Bh X π (Su ops L st) (a.put o.dst u) w:=by
   refine uO h2 ?_ ?_ λt=>?_
   ·rw [kH,Rk,Rk]
   ·rw [oz,Xd,Xd]
   ·obtain ⟨g1,g2⟩:=je (Su ops (r::L) st) o.dst v t
    by_cases he:o.dst=some t
    ·have rS:t∉l8 ops L:= λhm=>by
      obtain ⟨q,hq,hqe⟩:=Mq.1 hm
      exact f2 q hq t (by rw [hdo];exact he) hqe
     rw [(Sv L st t).2 rS,hd t he]
     rcases g1 he with g|g
     ·exact .inl g.symm
     ·by_cases hl:t<st.tmps.length
      ·refine .inl ?_
       rw [he]
       show v=((Tk (Su ops (r::L) st).tmps t v).getD t .undef)
       rw [Rp,Ab ⟨rfl,by rw [Xd];exact hl⟩]
      ·refine .inr ?_
       rw [<-hd t he]
       unfold St.get
       rw [Ak,Ei (by omega)]
       rfl
    ·rw [g2 he]
     have:(Su ops (r::L) st).get t=(Su ops L st).get t:=(je (Su ops L st) (dC ops r) .undef t).2 (by rw [hdo];exact he)
     exact .inl this.symm
  obtain ⟨a',hp,iu⟩:=Aha hT Pw L _ (λq hq=>hs q (Ap _ hq)) f3 h3
  exact ⟨a',⟨u,by rw [hdo];exact hp⟩,iu⟩
theorem ZT: ∀ {L:List Nat},KP ops L->xo ops L-> ∀ {i:Nat} {o:Oper},i∈L->ops[i]?=some o->(∀q∈L,Region.waitsFor .any ops i q=true->False)-> ∀q∈L,∀d,dC ops q=some d->d∉o.looksAt ops
 | [],_,_,i,_,hi,_,_=>by cases hi
 |r::L,⟨f1,f2,f3⟩,⟨b1,b2⟩,i,o,hi,ho,hw=> λq hq d hd=>by
  by_cases hir:i=r
  ·subst hir
   exact f1 q hq o d ho hd
  ·have gM:=(Bb.1 hi).resolve_left hir
   rcases Bb.1 hq with rfl|iB
   ·rcases b1 i gM with h|h
    ·exact (hw q hq h).elim
    ·exact h o d ho hd
   ·exact ZT f3 b2 gM ho (λq hq=>hw q (Ap _ hq)) q iB d hd
theorem qH {Ag:Array Bool} (aN:Ag.size=ops.size): ∀ {E:List Nat} {L:Array Bool} {r:Nat} {Q:List Nat},jE ops E L=true->(∀j,L.getD j false=true->Ag.getD j false=true)->Mz E Ag=r::Q->r∈Region.ready .any ops Ag
 | [],_,_,_,_,_,h=>by simp [Mz] at h
 |e::E,L,r,Q,hr,hl,hp=>by
  simp only [jE,Ah,Ko] at hr
  unfold Mz at hp
  rw [List.filter_cons] at hp
  by_cases he:Ag.getD e false=true
  ·rw [Ai (by rw [he];simp)] at hp
   refine qH aN hr.2 (λj hj=>?_) hp
   by_cases hej:e=j
   ·subst hej;exact he
   ·rw [getD_set_ne false hej] at hj;exact hl j hj
  ·have he:Ag.getD e false=false:=by simpa using he
   rw [Ab (by rw [he];rfl)] at hp
   injection hp with xM SC
   subst xM
   obtain ⟨_,o,ho,Le⟩:=mem_ready.1 hr.1
   have Me:e<Ag.size:=by rw [aN];exact (Oa.1 ho).1
   exact mem_ready.2 ⟨getD_in Me he,o,ho,λx hx hb=>hl _ (Le x hx hb)⟩
theorem eL {Ag:Array Bool} {j:Nat} (h:Ag.getD j true=false):j<Ag.size:=by
 rcases Nat.lt_or_ge j Ag.size with h'|h'
 ·exact h'
 ·simp [Array.getElem?_eq_none h'] at h
theorem xm (hT:Ep P T) (Pw:Lr P Γ) {Q:Exit->Act->World->Prop} (hQ: ∀c a w,¬Q (.panic c) a w) {K:St->Prop} (hK: ∀st a w,K st->Rel X st a w->Q .normal a w) (cb:Region.noSelect ops=true)
  {E:List Nat} {L0:Array Bool} (hE:df ops E L0=true): ∀(n f:Nat) (Ag LA:Array Bool) (st:St) (a:Act) (w:World),n=f+(Mz E Ag).length->Ag.size=ops.size->LA.size=ops.size->
   (∀j,LA.getD j false=(Ag.getD j false||E.contains j))->Us ops Ag->(∀j,L0.getD j false=true->Ag.getD j false=true)->rK T Γ ops E K f LA st->Rel X (Su ops (Mz E Ag) st) a w->wpAny P .any ops Q n Ag a w:=by
 simp only [df,Ah,Bc] at hE
 obtain ⟨⟨hre,hry⟩,hpr,hap⟩:=hE
 obtain ⟨Ano,qO⟩:=r9 hpr
 have key: ∀(n f:Nat) (Ag LA:Array Bool) (st:St) (a:Act) (w:World),n=f+(Mz E Ag).length->Ag.size=ops.size->LA.size=ops.size->
   (∀j,LA.getD j false=(Ag.getD j false||E.contains j))->Us ops Ag->(∀j,L0.getD j false=true->Ag.getD j false=true)->rK T Γ ops E K f LA st->Rel X (Su ops (Mz E Ag) st) a w->
   (∀j,j∈Region.ready .any ops Ag->j∉E->j∈Region.ready .any ops LA)/\(Region.ready .any ops Ag= []->Q .normal a w/\f=0/\Mz E Ag= []):=by
  intro n f Ag LA st a w hn ca vU hLA Sa hL0 mi hrel
  have h1: ∀j,j∈Region.ready .any ops Ag->j∉E->j∈Region.ready .any ops LA:= λj hj hjE=>by
   obtain ⟨pa,o,ho,Le⟩:=mem_ready.1 hj
   have Me:=eL pa
   refine mem_ready.2 ⟨getD_in (by omega) ?_,o,ho,λe he hb=>by rw [hLA,Le e he hb];rfl⟩
   rw [hLA,getD_both pa]
   simpa using hjE
  refine ⟨h1,λh0=>?_⟩
  cases SD:Mz E Ag with
  |cons r L=>
   have:=qH ca hry hL0 SD
   rw [h0] at this
   cases this
  |nil=>
   have Le: ∀r,r∈E->Ag.getD r false=true:= λr hr=>by
    have:r∉Mz E Ag:=by rw [SD];simp
    unfold Mz at this
    rw [Cf] at this
    by_cases hl:Ag.getD r false=true
    ·exact hl
    ·exact absurd ⟨hr,by simpa using hl⟩ this
   have hb: ∀j,j∈Region.ready .any ops LA->j∈Region.ready .any ops Ag:= λj hj=>by
    obtain ⟨pa,o,ho,hw⟩:=mem_ready.1 hj
    have Me:=eL pa
    have he: ∀k,LA.getD k false=Ag.getD k false:= λk=>by
     rw [hLA]
     by_cases hk:k∈E
     ·rw [Le k hk];rfl
     ·rw [show E.contains k=false by simpa using hk,iz]
    exact mem_ready.2 ⟨getD_in (by omega) (by rw [<-he];exact getD_both pa),o,ho,λe hx hbd=>by rw [<-he];exact hw e hx hbd⟩
   cases f with
   |zero=>
    obtain ⟨_,_,hk⟩:=mi
    rw [SD] at hrel
    exact ⟨hK _ _ _ hk hrel,rfl,rfl⟩
   |succ f=>
    obtain ⟨_,Jd,_⟩:=mi
    obtain ⟨j,hj⟩:=List.exists_mem_of_ne_nil _ Jd
    have:=hb j hj
    rw [h0] at this
    cases this
 intro n
 induction n with
 |zero=>
  intro f Ag LA st a w hn ca vU hLA Sa hL0 mi hrel
  obtain ⟨k1,k2⟩:=key 0 f Ag LA st a w hn ca vU hLA Sa hL0 mi hrel
  have hf:f=0:=by omega
  have hp:Mz E Ag= []:=List.length_eq_zero_iff.1 (by omega)
  subst hf
  obtain ⟨_,hr,_⟩:=mi
  have h0:Region.ready .any ops Ag= []:=List.eq_nil_iff_forall_not_mem.2 λj hj=>by
   by_cases hjE:j∈E
   ·have pa:=getD_both (mem_ready.1 hj).1
    have:j∈Mz E Ag:=Cf.2 ⟨hjE,by rw [pa];rfl⟩
    rw [hp] at this
    cases this
   ·have:=k1 j hj hjE
    rw [hr] at this
    cases this
  exact ⟨h0,(k2 h0).1⟩
 |succ n ih=>
  intro f Ag LA st a w hn ca vU hLA Sa hL0 mi hrel
  obtain ⟨k1,k2⟩:=key (n+1) f Ag LA st a w hn ca vU hLA Sa hL0 mi hrel
  have Qj:Ach T Γ ops E LA st:=by cases f<;>exact mi.1
  have Aa9: ∀r∈Mz E Ag,r∈E/\Ag.getD r false=false:= λr hr=>by
   obtain ⟨h1,h2⟩:=Cf.1 hr
   exact ⟨h1,by simpa using h2⟩
  have Aib: ∀r∈Mz E Ag,kD ops r=true/\ ∃o v,ops[r]?=some o/\Xv T Γ ops st o=some v/\ ∀d,o.dst=some d->st.get d=v:= λr hr=>by
   obtain ⟨h1,h2⟩:=Aa9 r hr
   refine ⟨hre r h1,(Qj r h1).resolve_left λhw=>?_⟩
   unfold sA at hw
   obtain ⟨j,_,hj⟩:=Eh.1 hw
   simp only [Ah,Fm] at hj
   obtain ⟨hj1,hj2,hj3⟩:=hj
   rw [hLA,hj1,iz] at hj2
   have:=Sa j r hj2 hj3
   rw [h2] at this
   cases this
  refine ⟨λh0=>(k2 h0).1,λi hi=>?_⟩
  obtain ⟨π,hrel⟩:=hrel
  have hiw: ∀q∈Mz E Ag,Region.waitsFor .any ops i q=true->False:= λq hq hw=>by
   have:=dg hi hw
   rw [(Aa9 q hq).2] at this
   cases this
  obtain ⟨pa,oi,hoi,_⟩:=mem_ready.1 hi
  have Me:=eL pa
  by_cases hiE:i∈E
  ·have YM:i∈Mz E Ag:=Cf.2 ⟨hiE,by rw [getD_both pa];rfl⟩
   obtain ⟨hrd,o,v,ho,hv,hd⟩:=Aib i YM
   have hnl:=ZT (Ano.filter (p:= λr=>!Ag.getD r false)) (qO.filter (p:= λr=>!Ag.getD r false)) YM ho hiw
   have tV:Xv T Γ ops (Su ops (Mz E Ag) st) o=some v:=by
    rw [JN (st:=st) (Rk _ _) λt ht=>(Sv _ _ _).2 λhm=>by
     obtain ⟨q,hq,he⟩:=Mq.1 hm
     exact hnl q hq t he ht]
    exact hv
   obtain ⟨u,hy,hu⟩:=rj hT Pw hrel ho hrd tV
   refine hy Q _ ?_
   have SD: ∀q,q∈Mz E (Ag.setIfInBounds i true)↔q∈Mz E Ag/\q≠i:= λq=>by
    unfold Mz
    rw [Cf,Cf]
    by_cases hqi:q=i
    ·subst hqi
     simp [Me]
    ·rw [getD_set_ne false (Hv hqi)]
     exact ⟨λh=>⟨h,hqi⟩,λh=>h.1⟩
   have hlen:(Mz E Ag).length=(Mz E (Ag.setIfInBounds i true)).length+1:=by
    have rS: ∀(E:List Nat) (L:Array Bool),jE ops E L=true->E.Nodup/\ ∀r∈E,L.getD r true=false:=by
     intro E
     induction E with
     |nil=>exact λL _=>⟨Ob,λr hr=>by cases hr⟩
     |cons e E ihE=>
      intro L h
      simp only [jE,Ah,Ko] at h
      obtain ⟨g1,g2⟩:=ihE _ h.2
      have he:=(mem_ready.1 h.1).1
      have jg:=eL he
      refine ⟨Cg.2 ⟨λhm=>?_,g1⟩,λr hr=>?_⟩
      ·have:=g2 e hm
       simp [jg] at this
      ·rcases Bb.1 hr with rfl|hr
       ·exact he
       ·have Jd:e≠r:= λe'=>by subst e';have:=g2 e hr;simp [jg] at this
        have:=g2 r hr
        rw [getD_set_ne true Jd] at this
        exact this
    have hEn:=(rS E L0 hry).1
    have Aw0: ∀L:List Nat,L.Nodup->i∈L->(L.filter λr=>!Ag.getD r false).length=(L.filter λr=>!(Ag.setIfInBounds i true).getD r false).length+1:=by
     intro L
     induction L with
     |nil=>exact λ_ h=>by cases h
     |cons x L ihL=>
      intro hn hm
      obtain ⟨hx,hn⟩:=Cg.1 hn
      rw [List.filter_cons,List.filter_cons]
      by_cases hxi:x=i
      ·subst hxi
       rw [Ab (by rw [getD_both pa];rfl),Ai (by simp [Me])]
       have:L.filter (λr=>!Ag.getD r false)=L.filter (λr=>!(Ag.setIfInBounds x true).getD r false):=List.filter_congr λq hq=>by
        rw [getD_set_ne false (λe=>hx (by rw [e];exact hq))]
       rw [Ay,this]
      ·have hm:=(Bb.1 hm).resolve_left (Hv hxi)
       rw [getD_set_ne false (Hv hxi)]
       split
       ·rw [Ay,Ay,ihL hn hm]
       ·exact ihL hn hm
    exact Aw0 E hEn hiE
   refine ih f (Ag.setIfInBounds i true) LA st _ w (by omega) (by simp [ca]) vU (λj=>?_) (Sa.set hi) (λj hj=>getD_set_true (hL0 j hj)) mi ⟨π,?_⟩
   ·rw [hLA]
    by_cases kA:i=j
    ·subst kA
     rw [show E.contains i=true by simpa using hiE,Bool.or_true,Bool.or_true]
    ·rw [getD_set_ne false kA]
   ·have h2:=hrel.put o.dst hu
    refine uO h2 ?_ ?_ λt=>?_
    ·rw [kH,Rk,Rk]
    ·rw [oz,Xd,Xd]
    ·have hdo:=cR ho
     by_cases hm:t∈l8 ops (Mz E (Ag.setIfInBounds i true))
     ·exact .inr ((Sv _ _ _).1 hm)
     ·rw [(Sv _ _ _).2 hm]
      obtain ⟨g1,g2⟩:=je (Su ops (Mz E Ag) st) o.dst v t
      by_cases he:o.dst=some t
      ·rw [hd t he]
       rcases g1 he with g|g
       ·exact .inl g.symm
       ·by_cases hl:t<st.tmps.length
        ·refine .inl ?_
         rw [he]
         show v=((Tk (Su ops (Mz E Ag) st).tmps t v).getD t .undef)
         rw [Rp,Ab ⟨rfl,by rw [Xd];exact hl⟩]
        ·refine .inr ?_
         rw [<-hd t he]
         unfold St.get
         rw [Ak,Ei (by omega)]
         rfl
      ·rw [g2 he]
       refine .inl ((Sv _ _ _).2 λhm2=>?_).symm
       obtain ⟨q,hq,hqe⟩:=Mq.1 hm2
       by_cases hqi:q=i
       ·subst hqi
        rw [hdo] at hqe
        exact he hqe
       ·exact hm (Mq.2 ⟨q,(SD q).2 ⟨hq,hqi⟩,hqe⟩)
  ·cases f with
   |zero=>
    obtain ⟨_,hr,_⟩:=mi
    have:=k1 i hi hiE
    rw [hr] at this
    cases this
   |succ f=>
    obtain ⟨_,_,Ao7⟩:=mi
    obtain ⟨o,st',ho,he,gP⟩:=Ao7 i (k1 i hi hiE)
    obtain ⟨a',Aac,gL⟩:=Aha hT Pw (Mz E Ag) a Aib Ano.filter hrel
    have xQ:wpOp P ops Q i (λa2 w2=>Rel X st' a2 w2) a' w:=by
     unfold wpOp
     simp only [ho]
     exact Wr hT Pw gL o he λa2 w2 h2=>h2
    have zG:=z6 (Q:=Q) ho (λcs b=>Region.noSelect_spec cb i o cs b ho) hQ (Mz E Ag) a a' w (λr hr=>?_) Aac xQ
    ·refine wpOp_mono (λa2 w2 hk=>?_) zG
     obtain ⟨a3,hp3,π3,hr3⟩:=hk
     have SD:Mz E (Ag.setIfInBounds i true)=Mz E Ag:=by
      unfold Mz
      refine List.filter_congr λq hq=>?_
      rw [getD_set_ne false (λe=>hiE (by rw [e];exact hq))]
     refine ih f (Ag.setIfInBounds i true) (LA.setIfInBounds i true) st' a2 w2 (by rw [SD];omega) (by simp [ca]) (by simp [vU]) (λj=>?_) (Sa.set hi) (λj hj=>getD_set_true (hL0 j hj)) gP ⟨π3,by rw [SD];exact Ac8 hp3 hr3⟩
     by_cases kA:i=j
     ·subst kA
      simp [Me,ca▸Me,vU]
     ·rw [getD_set_ne false kA,getD_set_ne false kA,hLA]
    ·obtain ⟨hrE,hrl⟩:=Aa9 r hr
     have h3:=Bc.1 (Bc.1 hap r hrE) i (Ff.2 (by omega))
     simp only [Lh] at h3
     rcases h3 with ((h3|h3)|h3)|h3
     ·exact absurd (by simpa using h3) hiE
     ·have:=hL0 i h3
      rw [getD_both pa] at this
      cases this
     ·exact (hiw r hr h3).elim
     ·obtain ⟨x,y,hx,hy,hp⟩:=au h3
      rw [ho] at hy;cases hy
      exact ⟨x,hx,hp⟩
theorem nL: ∀(E:List Nat) (s0 s1:St),Hb T Γ ops E s0=some s1->s1.heap=s0.heap/\s1.tmps.length=s0.tmps.length/\ ∀t,t∉l8 ops E->s1.get t=s0.get t
 | [],s0,s1,h=>by
  simp only [Hb,Aa] at h
  subst h
  exact ⟨rfl,rfl,λ_ _=>rfl⟩
 |r::E,s0,s1,h=>by
  simp only [Hb] at h
  split at h
  ·cases h
  rename_i o ho
  split at h
  rotate_left
  ·cases h
  rename_i v hv
  obtain ⟨h1,h2,h3⟩:=nL E _ _ h
  refine ⟨by rw [h1,kH],by rw [h2,oz],λt ht=>?_⟩
  rw [h3 t λhm=>ht (by obtain ⟨q,hq,he⟩:=Mq.1 hm;exact Mq.2 ⟨q,Ap _ hq,he⟩)]
  exact (je s0 o.dst v t).2 λe=>ht (Mq.2 ⟨r,Lg ..,by rw [cR ho];exact e⟩)
theorem yp: ∀ {E:List Nat} {L0:Array Bool},jE ops E L0=true-> ∀r∈E,L0.getD r true=false
 | [],_,_,_,hr=>by cases hr
 |e::E,L0,h,r,hr=>by
  simp only [jE,Ah,Ko] at h
  have he:=(mem_ready.1 h.1).1
  rcases Bb.1 hr with rfl|hr
  ·exact he
  ·have h2:=yp h.2 r hr
   have Jd:e≠r:= λe'=>by subst e';simp [eL he] at h2
   rw [getD_set_ne true Jd] at h2
   exact h2
theorem xl (hT:Ep P T) (Pw:Lr P Γ) {Q:Exit->Act->World->Prop} (hQ: ∀c a w,¬Q (.panic c) a w) {K:St->Prop} (hK: ∀st a w,K st->Rel X st a w->Q .normal a w) (cb:Region.noSelect ops=true)
  {E:List Nat} {L0:Array Bool} (hE:df ops E L0=true) {n:Nat} (hn:E.length<=n) {cI st1:St} (h1:Hb T Γ ops E cI=some st1) (h2:rK T Γ ops E K (n-E.length) (Fb E L0) st1)
  (aN:L0.size=ops.size) (Sa:Us ops L0) {a:Act} {w:World} (hr:Rel X cI a w):wpAny P .any ops Q n L0 a w:=by
 have hE':=hE
 simp only [df,Ah] at hE'
 have pa:=yp hE'.1.2
 have hp:Mz E L0=E:=List.filter_eq_self.2 λr hr=>by rw [getD_both (pa r hr)];rfl
 refine xm hT Pw hQ hK cb hE n (n-E.length) L0 (Fb E L0) st1 a w (by rw [hp];omega) aN (by rw [Xa];exact aN) (λj=>?_) Sa (λj hj=>hj) h2 ?_
 ·by_cases hj:j∈E
  ·rw [fI E L0 j hj (eL (pa j hj)),show E.contains j=true by simpa using hj,Bool.or_true]
  ·rw [dJ E L0 j hj,show E.contains j=false by simpa using hj,iz]
 ·obtain ⟨π,hr⟩:=hr
  obtain ⟨g1,g2,g3⟩:=nL E _ _ h1
  refine ⟨π,uO hr (by rw [Rk,g1]) (by rw [Xd,g2]) λt=>?_⟩
  rw [hp]
  by_cases ht:t∈l8 ops E
  ·exact .inr ((Sv _ _ _).1 ht)
  ·exact .inl (((Sv _ _ _).2 ht).trans (g3 t ht))
theorem Yh (live:List Nat): ∀(i:Nat) (l:List AV),(Jf live i l).length=l.length
 |_,[]=>rfl
 |i,v::r=>by simp [Jf,Yh live (i+1) r]
theorem bT (live:List Nat): ∀(i:Nat) (l:List AV) (t:Nat),(Jf live i l).getD t .undef= .undef\/(Jf live i l).getD t .undef=l.getD t .undef
 |_,[],t=> .inr rfl
 |i,v::r,0=>by
  simp only [Jf,Yd]
  split
  ·exact .inr rfl
  ·exact .inl rfl
 |i,v::r,t+1=>by
  simp only [Jf,Ok]
  exact bT live (i+1) r t
theorem dE: ∀(l:List Nat) (st:St) (a:Act) (w:World),Rel X st a w->Rel X (bu l st) a w
 | [],_,_,_,h=>h
 |k::r,_,a,w,⟨_,h⟩=>dE r _ a w ⟨_,h.forget k⟩
theorem XE (dead:List Nat) {st:St} {a:Act} {w:World} (h:Rel X st a w):Rel X (st.Re dead) a w:=by
 obtain ⟨π,h⟩:=h
 unfold St.Re
 refine dE _ _ a w ⟨π,h.1,⟨by simp [Yh,h.2.size],h.2.defers,λt=>?_⟩⟩
 show Bs X w π st.heap ((Jf _ 0 st.tmps).getD t .undef) _
 rcases bT ((List.range st.tmps.length).filter λt=>!dead.contains t) 0 st.tmps t with e|e
 ·rw [e];trivial
 ·rw [e];exact h.2.tmps t
theorem rk (hT:Ep P T) (Pw:Lr P Γ) (hm:P.follows .mixedOrders=true) {Q:Exit->Act->World->Prop} {id:Nat} {draw:Bool} {st:St} {K:St->Prop} {a:Act} (h:Rel X st a w)
  (he:kZ T Γ ops draw st K) (hQ: ∀st' a' w',K st'->Rel X st' a' w'->Q .normal a' w'):(Code.region id ops draw).wp P Q a w:=by
 rcases he with ⟨st',h1,h2⟩|⟨rfl,cb,cI,h1,h2⟩
 ·exact py hT Pw hm h h1 λa' w' h'=>hQ st' a' w' h2 h'
 ·refine wp_mono (Q:= λe a w=>e= .normal/\Q .normal a w) ?_ λe a w h=>h.1▸h.2
  refine wp_region_any hm ?_
  have hrel:Rel X st a {w with drawn:=w.drawn+1} :=by
   obtain ⟨π,h⟩:=h
   exact ⟨π,h.quiet ⟨rfl,rfl,rfl,Aq _,λ_ _=>rfl⟩⟩
  have hlen:(Ll ops).length<=ops.size:=by
   have:=dK (ops:=ops) (!kq false ops) (List.range ops.size) (Array.replicate ops.size false)
   rw [List.length_range] at this
   exact this
  have tQ:(Array.replicate ops.size false).size=ops.size:=by simp
  have hmv:(Fb (Ll ops) (Array.replicate ops.size false)).size=ops.size:=by rw [Xa,tQ]
  have:=cF hT (!kq false ops) (X:=X) (P:=P) (T:=T) (Γ:=Γ) (Q:= λe a w=>e= .normal/\Q .normal a w) (n:=ops.size-(Ll ops).length) (st1:=cI) (λc a w hq=>by cases hq.1) cb (List.range ops.size) (Array.replicate ops.size false) st a _ h1 hrel λa' w' h'=>by
   rcases h2 with h2|⟨E,st1,hE,hEn,hE1,hE2⟩
   ·exact lR hT Pw (λst' a' w' hk hr=>⟨rfl,hQ st' a' w' hk hr⟩) _ _ _ _ _ h2 h'
   ·exact xl hT Pw (λc a w hq=>by cases hq.1) (λst' a' w' hk hr=>⟨rfl,hQ st' a' w' hk hr⟩) cb hE hEn hE1 hE2 hmv (aW _ _ _ qD) h'
  have e:(Ki (!kq false ops) ops (List.range ops.size) (Array.replicate ops.size false)).length+(ops.size-(Ll ops).length)=ops.size:=by
   have e2:(Ki (!kq false ops) ops (List.range ops.size) (Array.replicate ops.size false)).length=(Ll ops).length:=rfl
   omega
  rw [e] at this
  exact this
theorem OF (hT:Ep P T) (Pw:Lr P Γ) (hm:P.follows .mixedOrders=true) {Q:Exit->Act->World->Prop} {id:Nat} {draw:Bool} {st:St} {K:St->Prop} {a:Act} (h:Rel X st a w)
  (he:za T Γ ops draw st K) (hQ: ∀st' a' w',K st'->Rel X st' a' w'->Q .normal a' w'):(Code.region id ops draw).wp P Q a w:=by
 rcases he with he|⟨dead,_,he⟩
 ·exact rk hT Pw hm h he hQ
 ·exact rk hT Pw hm h he λst' a' w' hk hr=>hQ _ a' w' hk (XE dead hr)
end
end Go.Proofs.YtkkdpknjohcekaaGreat
