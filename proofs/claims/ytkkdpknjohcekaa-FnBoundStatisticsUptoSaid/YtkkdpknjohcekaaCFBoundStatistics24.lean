/-
  Part 25 of the proof that the statement FnBoundStatistics holds.
-/
import Derived.Test.YtkkdpknjohcekaaCFBoundStatistics23
namespace Go.Proofs.Ytkkdpknjohcekaa
open Go.RowKit
section
variable {P:Program} {T:Tab} {Γ:Env} {X:Ctx} {w w':World} {π:Pi} {ops:Array Oper} {hd tl:List Nat}
structure Zs (ops:Array Oper) (tl fl:List Nat) (Ag:Array Bool):Prop where
 size:Ag.size=ops.size
 done: ∀i,i∈fl->Ag.getD i false=true
 closed: ∀j oj,ops[j]?=some oj->Ag.getD j false=true-> ∀e∈oj.after,Region.binds .any e=true->Ag.getD e.on false=true
 tail: ∀t,t∈tl->Ag.getD t true=false
theorem Zs.set {fl:List Nat} {i:Nat} {Ag:Array Bool} (inv:Zs ops tl fl Ag) (hi:i∈Region.ready .any ops Ag) (Xm:i∉tl):Zs ops tl fl (Ag.setIfInBounds i true):=by
 obtain ⟨_,oi,hoi,Kl⟩:=mem_ready.1 hi
 refine ⟨by simp [inv.size],λk hk=>getD_set_true (inv.done k hk),λj oj hj hl e he hb=>?_,λt ht=>by
  have Iv:i≠t:= λe=>Xm (by rw [e];exact ht)
  rw [getD_set_ne true Iv];exact inv.tail t ht⟩
 by_cases jV:i=j
 ·subst jV
  have:oj=oi:=Bb (hj.symm.trans hoi)
  subst this
  exact getD_set_true (Kl e he hb)
 ·rw [getD_set_ne false jV] at hl
  exact getD_set_true (inv.closed j oj hj hl e he hb)
theorem JX (k:Nat) (r:List Nat) (h:(r.all λt=>(k::r).any λk=>Region.waitsFor .any ops t k)=true): ∀t,t∈r-> ∃k',(k'=k\/k'∈r)/\Region.waitsFor .any ops t k'=true:= λt ht=>by
 obtain ⟨k',h1,h2⟩:=Ir.1 (Ba.1 h t ht)
 exact ⟨k',Bc.1 h1,h2⟩
theorem HX {fl:List Nat} {Ag:Array Bool} (hs:uz ops hd tl=true) (inv:Zs ops tl fl Ag) (aB: ∀i,i∈hd->i<ops.size):
  ∀(d i:Nat),ops.size-i=d->i∈hd->Ag.getD i true=false-> ∀t,t∈tl->t∉Region.ready .any ops Ag:=by
 cases tl with
 |nil=>intro d i _ _ _ t ht;cases ht
 |cons f r=>
  simp only [uz,Af] at hs
  obtain ⟨iP,rq⟩:=hs
  intro d
  induction d using Nat.strongRecOn with
  |_ d ih=>
   intro i SL hi oE t ht hr
   obtain ⟨_,ot,hot,Kl⟩:=mem_ready.1 hr
   rcases Bc.1 ht with rfl|nz
   ·have h1:=Ba.1 iP i hi
    obtain ⟨j,hj,hj2⟩:=Ir.1 h1
    simp only [Af,Rd] at hj2
    obtain ⟨oj,hoj,e,he,hb,hon⟩:=Region.waitsFor_spec hj2.2
    rcases Bc.1 hj with rfl|hjh
    ·have:oj=ot:=Bb (hoj.symm.trans hot)
     subst this
     have h2:=Kl e he hb
     rw [hon,getD_both oE] at h2
     cases h2
    ·cases hl:Ag.getD j false with
     |true=>
      have h2:=inv.closed j oj hoj hl e he hb
      rw [hon,getD_both oE] at h2
      cases h2
     |false=>
      have hjs:j<Ag.size:=by rw [inv.size];exact aB j hjh
      have:=aB j hjh
      exact ih (ops.size-j) (by omega) j rfl hjh (getD_in hjs hl) t (by simp) hr
   ·obtain ⟨k',h1,h2⟩:=JX f r rq t nz
    obtain ⟨o',ho',e,he,hb,hon⟩:=Region.waitsFor_spec h2
    have:o'=ot:=Bb (ho'.symm.trans hot)
    subst this
    have h3:=Kl e he hb
    have hk:k'∈f::r:=by rcases h1 with rfl|h1<;>simp [*]
    rw [hon,getD_both (inv.tail k' hk)] at h3
    cases h3
def WL (T:Tab) (Γ:Env) (ops:Array Oper) (hd:List Nat) (L:Array Bool->St->Prop):Nat->Array Bool->St->Prop
 |0,Ag,st=>L Ag st
 |f+1,Ag,st=>
  Region.ready .any ops Ag≠ []/\ ∀i∈Region.ready .any ops Ag,i∈hd/\ ∃o v,ops[i]?=some o/\Xq T Γ ops st o=some v/\WL T Γ ops hd L f (Ag.setIfInBounds i true) (st.put o.dst v)
theorem BW (hT:Dz P T) (Pb:Kx P Γ) {Q:Exit->Act->World->Prop} {K:Act->World->Prop} {st:St} {a:Act} (h:Rel X st a w) {i:Nat} {o:Oper} {v:AV} (ho:ops[i]?=some o) (hv:Xq T Γ ops st o=some v)
  (hK: ∀a' w',Rel X (st.put o.dst v) a' w'->K a' w'):wpOp P ops Q i K a w:=by
 obtain ⟨π,h⟩:=h
 have run:Xr T Γ st o=some v->o.wp P a w K Q:= λhe=>qZ (X:=X) (st':=st) (av:=v) (DJ hT Pb h o v he) hK
 have skip:v= .at .skip->K (a.put o.dst undef) w:= λe=>by subst e;exact hK _ _ ⟨π,h.put o.dst HI⟩
 unfold wpOp
 simp only [ho]
 unfold Xq at hv
 split at hv
 ·rename_i hg
  rw [Ac (by simp [Region.wanted,hg])]
  exact .inl (run hv)
 ·rename_i j want hg
  split at hv
  ·rename_i b hb
   have hy:=(eU h j).1 b hb
   split at hv
   ·rename_i KO
    rw [Ac (by simp only [Region.wanted,hg,hy];simpa using KO)]
    exact .inl (run hv)
   ·rename_i KO
    rw [Ak (by simp only [Region.wanted,hg,hy];simpa using KO)]
    simp only [Aa] at hv
    exact skip hv.symm
  ·rename_i hb
   have hy:=(eU h j).2 hb
   rw [Ak (by simp [Region.wanted,hg,hy])]
   simp only [Aa] at hv
   exact skip hv.symm
  ·cases hv
theorem lE (hT:Dz P T) (Pb:Kx P Γ) {g:Nat} {L:Array Bool->St->Prop} {Q:Exit->Act->World->Prop} (hL: ∀Ag st a w,L Ag st->Rel X st a w->wpAny P .any ops Q g Ag a w):
  ∀(f:Nat) (Ag:Array Bool) (st:St) (a:Act) (w:World),WL T Γ ops hd L f Ag st->Rel X st a w->wpAny P .any ops Q (f+g) Ag a w
 |0,Ag,st,a,w,h,hr=>by rw [Bo];exact hL _ _ _ _ h hr
 |f+1,Ag,st,a,w,h,hr=>by
  rw [show f+1+g=(f+g)+1 by omega]
  refine ⟨λh0=>absurd h0 h.1,λi hi=>?_⟩
  obtain ⟨_,o,v,ho,hv,gp⟩:=h.2 i hi
  exact BW hT Pb hr ho hv λa' w' h'=>lE hT Pb hL f _ _ _ _ gp h'
theorem JI {fl:List Nat} {i:Nat} {oi:Oper} {v:AV} {L:Array Bool->St->Prop} (hi:ops[i]?=some oi) (hs:uz ops hd tl=true) (aB: ∀i,i∈hd->i<ops.size) (Xm:i∈hd)
  (Kl: ∀j,j<ops.size->j∈fl\/j∈hd\/j∈tl) (ED: ∀j,j∈hd->j∉tl) (Alf: ∀Ag st,L Ag st-> ∀j∈Region.ready .any ops Ag,j∈tl):
  ∀(f:Nat) (Ag:Array Bool) (st:St),Zs ops tl fl Ag->
   (∀j oj,ops[j]?=some oj->j≠i->Ag.getD j true=false->(∀e∈oj.after,Region.binds .any e=true->e.on≠i)->oi.apart ops oj=true)->
   i∈Region.ready .any ops Ag->Xq T Γ ops st oi=some v->
   WL T Γ ops hd L f (Ag.setIfInBounds i true) (st.put oi.dst v)->WL T Γ ops hd L (f+1) Ag st:=by
 intro f
 have An5: ∀Ag,Zs ops tl fl Ag->i∈Region.ready .any ops Ag-> ∀j,j∈Region.ready .any ops Ag->j∈hd:=by
  intro Ag inv hr j hj
  obtain ⟨oE,oj,hoj,_⟩:=mem_ready.1 hj
  rcases Kl j (Nk.1 hoj).1 with h|h|h
  ·have h1:=inv.done j h
   rw [getD_both oE] at h1;cases h1
  ·exact h
  ·exact absurd hj (HX hs inv aB _ i rfl Xm (mem_ready.1 hr).1 j h)
 induction f with
 |zero=>
  intro Ag st inv _ hr hv Hh
  refine ⟨λh=>(by rw [h] at hr;cases hr),λj hj=>?_⟩
  have hjh:=An5 Ag inv hr j hj
  refine ⟨hjh,?_⟩
  by_cases rZ:j=i
  ·subst rZ;exact ⟨oi,v,hi,hv,Hh⟩
  ·exact absurd (Alf _ _ Hh j (ready_mono hj rZ)) (ED j hjh)
 |succ f ih=>
  intro Ag st inv nu hr hv Hh
  have oE:=(mem_ready.1 hr).1
  refine ⟨λh=>(by rw [h] at hr;cases hr),λj hj=>?_⟩
  have hjh:=An5 Ag inv hr j hj
  refine ⟨hjh,?_⟩
  by_cases rZ:j=i
  ·subst rZ;exact ⟨oi,v,hi,hv,Hh⟩
  ·obtain ⟨_,oj,vj,hoj,hvj,gp⟩:=Hh.2 j (ready_mono hj rZ)
   obtain ⟨Alo,oj',As3,Al5⟩:=mem_ready.1 hj
   have:oj'=oj:=Bb (As3.symm.trans hoj)
   subst this
   have tv: ∀e∈oj'.after,Region.binds .any e=true->e.on≠i:= λe he hb heq=>by
    have h1:=Al5 e he hb
    rw [heq,getD_both oE] at h1
    cases h1
   obtain ⟨p1,p2,p3⟩:=Oper.apart_spec (nu j oj' hoj rZ Alo tv)
   rw [IC p1] at hvj
   refine ⟨oj',vj,hoj,hvj,?_⟩
   have Ahl: ∀k ok,ops[k]?=some ok->k≠i->(Ag.setIfInBounds j true).getD k true=false->
     (∀e∈ok.after,Region.binds .any e=true->e.on≠i)->oi.apart ops ok=true:= λk ok hk hki Amr hno=>by
    refine nu k ok hk hki ?_ hno
    by_cases hjk:j=k
    ·subst hjk;exact Alo
    ·rw [getD_set_ne true hjk] at Amr;exact Amr
   refine ih (Ag.setIfInBounds j true) (st.put oj'.dst vj) (inv.set hj (ED j hjh)) Ahl (ready_mono hr (Gb rZ)) (by rw [IC p3];exact hv) ?_
   rw [Array.setIfInBounds_comm _ _ rZ,<-St.put_comm st v vj p2]
   exact gp
theorem qP: ∀(l:List Nat) (Ag:Array Bool),o0 ops l Ag=true-> ∀j∈Region.ready .any ops Ag,j∈l
 | [],Ag,h,j,hj=>by simp only [o0,List.isEmpty_iff] at h;rw [h] at hj;cases hj
 |k::r,Ag,h,j,hj=>by
  simp only [o0,Af,Lu,Rd] at h
  rcases h.1 with h1|h1
  ·rw [h1] at hj
   simp at hj
   simp [hj]
  ·by_cases e:j=k
   ·simp [e]
   ·exact Aq _ (qP r _ h.2 j (ready_mono hj e))
theorem CD {fl:List Nat} (bP:Region.noSelect ops=true) (hs:uz ops hd tl=true) (aB: ∀i,i∈hd->i<ops.size) (Kl: ∀j,j<ops.size->j∈fl\/j∈hd\/j∈tl) (ED: ∀j,j∈hd->j∉tl) (st':St):
  ∀(l:List Nat) (Ag:Array Bool) (st:St),(∀i,i∈l->i∈hd)->Zs ops tl fl Ag->p7 ops tl l Ag=true->Ge T Γ ops l st=some st'->
  WL T Γ ops hd (λzp s=>o0 ops tl zp=true/\s=st') l.length Ag st
 | [],Ag,st,_,_,hB,he=>by
  simp only [Ge,Aa] at he
  exact ⟨by simpa [p7] using hB,he⟩
 |k::l,Ag,st,hl,inv,hB,he=>by
  simp only [p7,Af] at hB
  obtain ⟨⟨hr,hf⟩,hB'⟩:=hB
  have hkh:=hl k (by simp)
  have dG:k∈Region.ready .any ops Ag:=by simpa using hr
  simp only [Ge] at he
  split at he
  ·cases he
  ·rename_i o ho
   split at he
   ·rename_i v hv
    exact JI ho hs aB hkh Kl ED (λzp s hL=>qP tl zp hL.1) l.length Ag st inv (Region.free_spec ho hf) dG hv
     (CD bP hs aB Kl ED st' l _ _ (λi hi=>hl i (by simp [hi])) (inv.set dG (ED k hkh)) hB' he)
   ·cases he
theorem yQ {Q:Exit->Act->World->Prop} (hQ: ∀e a w,Q e a w->e= .normal) {k i:Nat} {x:Operand} {o:Oper} (ho:ops[k]?=some o) (sa:o.op= .extract x i) (hg:o.guard=none) {K:Act->World->Prop} {a:Act} {w:World}
  (h:wpOp P ops Q k K a w): ∃v,Yields P ops o v a/\K (a.put o.dst v) w:=by
 unfold wpOp at h
 simp only [ho] at h
 have hw:Region.wanted o (yielded ops a.tmps)=true:=by simp [Region.wanted,hg]
 rw [Ac hw] at h
 rcases h with h|⟨_,a',w',h⟩
 ·unfold Oper.wp at h
  have hr: ∀w,(execOp a.eval o).run P w=(do pure (Next.value (<-Instr.extract (a.eval x) i))).run P w:= λw=>by unfold execOp;rw [sa]
  rw [hr] at h
  unfold Instr.extract at h hr
  split at h
  ·rename_i vs hx
   split at h
   ·rename_i v hv
    rw [hx] at hr
    simp only [hv] at hr
    exact ⟨v, .inl ⟨hw,λw=>(hr w).trans rfl⟩,h⟩
   ·exact h.elim
  ·exact h.elim
 ·cases hQ _ _ _ h
theorem dD {Q:Exit->Act->World->Prop} (hQ: ∀e a w,Q e a w->e= .normal) (bP:Region.noSelect ops=true): ∀(l:List Nat) (Ag:Array Bool) (a:Act) (w:World),o0 ops l Ag=true->wpOps P ops Q l a w->wpAny P .any ops Q l.length Ag a w
 | [],Ag,a,w,hB,h=>⟨by simpa [o0] using hB,h⟩
 |k::r,Ag,a,w,hB,h=>by
  simp only [o0,Af,Lu,Rd] at hB
  rw [wpOps_cons] at h
  rcases hB.1 with h0|⟨h1,h2,h3⟩
  ·refine ⟨λh1=>(by rw [h0] at h1;cases h1),λi hi=>?_⟩
   rw [h0] at hi
   have hik:i=k:=by simpa using hi
   subst hik
   exact wpOp_mono (λa' w' h'=>dD hQ bP r _ a' w' hB.2 h') h
  ·unfold ZH at h1
   split at h1
   ·rename_i o ho
    split at h1
    ·rename_i x i sa hg
     obtain ⟨v,hy,hk⟩:=yQ hQ ho sa hg h
     exact wpAny_take ho bP h3 h2 (λc a w hq=>by cases hQ _ _ _ hq) hy (dD hQ bP r _ _ w hB.2 hk)
    ·cases h1
   ·cases h1
theorem nj {P:Program} {o:Oper} {t:Tmp} {a:Act} (h:o.op= .move (.tmp t)) (hg:o.guard=none):Yields P ops o (a.tmps.getD t undef) a:=by
 refine .inl ⟨by simp [Region.wanted,hg],λw=>?_⟩
 unfold execOp
 rw [h]
 rfl
theorem zd {hd tl:List Nat} {i:Nat} (h:nB ops hd tl i=true): ∃o t,ops[i]?=some o/\o.op= .move (.tmp t)/\o.guard=none:=by
 unfold nB at h
 split at h
 ·rename_i o ho
  simp only [Af] at h
  have h1:=h.1
  split at h1
  ·rename_i t h2 h3
   exact ⟨o,t,ho,h2,h3⟩
  ·cases h1
 ·cases h
theorem gJ {q:Bool} {hd:List Nat} {Q:Exit->Act->World->Prop} (hQ: ∀c a w,¬Q (.panic c) a w) (bP:Region.noSelect ops=true) {n:Nat} {st1:St}
  (gp: ∀Ag st a w,(∀j oj,ops[j]?=some oj->Ag.getD j false=true-> ∀e∈oj.after,Region.binds .any e=true->Ag.getD e.on false=true)->Ag.size=ops.size->p7 ops tl hd Ag=true->st=st1->Rel X st a w->
   (∀j,Ag.getD j false=true↔j∈Wg q Γ ops)->wpAny P .any ops Q n Ag a w):
  ∀(l dn:List Nat) (Ag:Array Bool) (st:St) (a:Act) (w:World),(∀j,j∈Wg q Γ ops↔j∈dn\/j∈l)->(∀i,i∈l-> ∃o t,ops[i]?=some o/\o.op= .move (.tmp t)/\o.guard=none)->
   (∀j oj,ops[j]?=some oj->Ag.getD j false=true-> ∀e∈oj.after,Region.binds .any e=true->Ag.getD e.on false=true)->Ag.size=ops.size->(∀j,Ag.getD j false=true↔j∈dn)->
   ni ops tl hd l Ag=true->Ge T Γ ops l st=some st1->Rel X st a w->wpAny P .any ops Q (l.length+n) Ag a w
 | [],dn,Ag,st,a,w,hm,_,hc,aB,hdn,hf,he,hr=>by
  simp only [Ge,Aa] at he
  rw [Fg,Bo]
  exact gp Ag st a w hc aB (by simpa [ni] using hf) he hr λj=>by rw [hdn j,hm j];simp
 |k::l,dn,Ag,st,a,w,hm,hl,hc,aB,hdn,hf,he,hr=>by
  simp only [ni,Af] at hf
  obtain ⟨⟨h1,h2⟩,h3⟩:=hf
  obtain ⟨o,t,ho,sa,hg⟩:=hl k (by simp)
  have vN:k∈Region.ready .any ops Ag:=by simpa using h1
  obtain ⟨_,o',ho',Kl⟩:=mem_ready.1 vN
  have ho2:o'=o:=Bb (ho'.symm.trans ho)
  subst ho2
  have hks:k<Ag.size:=by rw [aB];exact (Nk.1 ho).1
  simp only [Ge,ho] at he
  have hv:Xq T Γ ops st o'=some (st.get t):=by simp only [Xq,hg,Xr,Fa,sa];rfl
  rw [hv] at he
  rw [Av,show l.length+1+n=(l.length+n)+1 by omega]
  refine wpAny_take ho bP h2 h1 (λc a w hq=>absurd hq (hQ c _ w)) (nj sa hg) ?_
  obtain ⟨π,hr⟩:=hr
  refine gJ hQ bP gp l (k::dn) _ _ _ _ (λj=>by rw [hm j,Bc,Bc];exact ⟨λh=>h.elim (λh=> .inl (.inr h)) (λh=>h.elim (λh=> .inl (.inl h)) .inr),λh=>h.elim (λh=>h.elim (λh=> .inr (.inl h)) .inl) (λh=> .inr (.inr h))⟩) (λi hi=>hl i (by simp [hi])) ?_ (by simp [aB]) (λj=>?_) h3 he ⟨π,hr.put o'.dst (hr.2.tmps t)⟩
  ·intro j oj hj hlj e hem hb
   by_cases WH:k=j
   ·subst WH
    have:oj=o':=Bb (hj.symm.trans ho)
    subst this
    exact getD_set_true (Kl e hem hb)
   ·rw [getD_set_ne false WH] at hlj
    exact getD_set_true (hc j oj hj hlj e hem hb)
  ·by_cases WH:k=j
   ·subst WH
    refine ⟨λ_=>by simp,λ_=>?_⟩
    simp [hks]
   ·rw [getD_set_ne false WH,hdn j]
    simp [Gb WH]
theorem gh {ops:Array Oper} : ∀(a b:List Nat) (st st':St),Ge T Γ ops (a++b) st=some st'-> ∃s,Ge T Γ ops a st=some s/\Ge T Γ ops b s=some st'
 | [],b,st,st',h=>⟨st,rfl,h⟩
 |i::a,b,st,st',h=>by
  simp only [Ph,Ge] at h⊢
  split at h
  ·cases h
  ·split at h
   ·exact gh a b _ st' h
   ·cases h
theorem oT (hT:Dz P T) (Pb:Kx P Γ) (hm:P.follows .mixedOrders=true) {Q:Exit->Act->World->Prop} {id:Nat} {draw:Bool} {st st':St} {a:Act} (h:Rel X st a w)
  (he:Rw T Γ ops draw st=some st') (hQ: ∀a' w',Rel X st' a' w'->Q .normal a' w'):(Code.region id ops draw).wp P Q a w:=by
 unfold Rw at he
 cases draw with
 |false=>
  rw [Ak (by simp)] at he
  exact wp_region_list (kV hT Pb ops.toList st st' a w h he hQ)
 |true=>
  rw [Ac rfl] at he
  have go: ∀(q:Bool),cO q Γ ops=true->(match Ge T Γ ops (jR q Γ ops) st with
    |some st'=>Mz T Γ ops (Jp q Γ ops) st'
    |none=>none)=some st'->(Code.region id ops true).wp P Q a w:=by
   intro q ee he
   split at he
   ·rename_i st1 h1
    simp only [cO,Af,beq_iff_eq] at ee
    obtain ⟨⟨⟨bP,hlen⟩,Ahj⟩,Amm⟩:=ee
    refine wp_mono (Q:= λe a w=>e= .normal/\Q .normal a w) ?_ λe a w h=>h.1▸h.2
    refine wp_region_any hm ?_
    have hrel:Rel X st a {w with drawn:=w.drawn+1} :=by
     obtain ⟨π,h⟩:=h
     exact ⟨π,h.quiet ⟨rfl,rfl,rfl,Ap _,λ_ _=>rfl⟩⟩
    obtain ⟨s0,h0,h1⟩:=gh _ _ _ _ h1
    have Xm: ∀i,i∈cG q Γ ops->i<ops.size:= λi hi=>Dn.1 (Cg.1 hi).1
    have aB: ∀i,i∈Wj q Γ ops->i<ops.size:= λi hi=>Xm i (Cg.1 hi).1
    have Kl: ∀j,j<ops.size->j∈Wg q Γ ops\/j∈Wj q Γ ops\/j∈Jp q Γ ops:= λj hj=>by
     by_cases ht:j∈Jp q Γ ops
     ·exact .inr (.inr ht)
     ·have hh:j∈cG q Γ ops:=Cg.2 ⟨Dn.2 hj,by simpa using ht⟩
      cases hfl:nB ops (cG q Γ ops) (Jp q Γ ops) j with
      |true=>exact .inl (Cg.2 ⟨hh,hfl⟩)
      |false=>exact .inr (.inl (Cg.2 ⟨hh,by rw [hfl];rfl⟩))
    have Afp: ∀j,j∈cG q Γ ops->j∉Jp q Γ ops:= λj hj=>by
     have:=(Cg.1 hj).2
     simpa using this
    have ED: ∀j,j∈Wj q Γ ops->j∉Jp q Γ ops:= λj hj=>Afp j (Cg.1 hj).1
    have Ald: ∀j,j∈Wg q Γ ops->j∉Jp q Γ ops:= λj hj=>Afp j (Cg.1 hj).1
    have htl: ∀t,t∈Jp q Γ ops->t<ops.size:=by
     intro t ht
     unfold Jp at ht
     have: ∀(l:List Nat) (acc:List Nat),(∀i,i∈acc->i<ops.size)->(∀i,i∈l->i<ops.size)-> ∀i,i∈l.foldl (init:=acc) (λacc i=>match ops[i]? with
       |some o=>if ZQ q Γ o||o.after.any (λe=>Region.binds .any e&&acc.contains e.on) then acc++ [i] else acc
       |none=>acc)->i<ops.size:=by
      intro l
      induction l with
      |nil=>intro acc h1 _ i hi;exact h1 i hi
      |cons x l ih=>
       intro acc h1 h2 i hi
       simp only [Jj] at hi
       refine ih _ ?_ (λi hi=>h2 i (by simp [hi])) i hi
       intro k hk
       split at hk
       ·split at hk
        ·rcases Ax.1 hk with hk|hk
         ·exact h1 k hk
         ·simp at hk;rw [hk];exact h2 x (by simp)
        ·exact h1 k hk
       ·exact h1 k hk
     exact this (List.range ops.size) [] (by simp) (λi hi=>Dn.1 hi) t ht
    rw [<-hlen]
    refine gJ (q:=q) (X:=X) (T:=T) (Γ:=Γ) (tl:=Jp q Γ ops) (hd:=Wj q Γ ops) (st1:=s0) (λc a w hq=>by cases hq.1) bP ?_ (Wg q Γ ops) [] _ st a _ (λj=>by simp)
     (λi hi=>zd (Cg.1 hi).2) (λj oj _ hl=>(by rw [hlen,getD_replicate_false] at hl;cases hl)) (by simp [hlen]) (λj=>by rw [hlen,getD_replicate_false];simp) (by rw [hlen];exact Ahj) h0 hrel
    intro Ag s a' w' hc rk Aln hs hr hfl
    subst hs
    have Asz:Zs ops (Jp q Γ ops) (Wg q Γ ops) Ag:=
     ⟨rk,λi hi=>(hfl i).2 hi,hc,λt ht=>getD_in (by rw [rk];exact htl t ht) (by
      cases hg:Ag.getD t false with
      |false=>rfl
      |true=>exact absurd ht (Ald t ((hfl t).1 hg)))⟩
    have HA:=CD (T:=T) (Γ:=Γ) bP Amm aB Kl ED st1 (Wj q Γ ops) _ s (λi hi=>hi) Asz Aln h1
    exact lE (X:=X) (P:=P) (Q:= λe a w=>e= .normal/\Q .normal a w) (g:=(Jp q Γ ops).length) hT Pb (λAg s a' w' hL hr=>by
     obtain ⟨Ase,rfl⟩:=hL
     exact dD (λe a w h=>h.1) bP (Jp q Γ ops) Ag a' w' Ase (kR hT Pb _ _ st' a' w' hr he λa w h=>⟨rfl,hQ a w h⟩)) _ _ _ _ _ HA hr
   ·cases he
  split at he
  ·rename_i ee;exact go false ee he
  ·split at he
   ·rename_i ee;exact go true ee he
   ·cases he
theorem du (q:Bool): ∀(l:List Nat) (Ag:Array Bool),(Jo q ops l Ag).length<=l.length
 | [],_=>Ap _
 |i::r,Ag=>by
  simp only [Jo]
  split
  ·simp only [Av];have:=du q r (Ag.setIfInBounds i true);omega
  ·simp only [Av];have:=du q r Ag;omega
theorem GX (hT:Dz P T) {st:St} {a:Act} (h:Bh X π st a w) {i:Nat} {o:Oper} (ho:ops[i]?=some o) (hp:jW ops i=true) {v:AV} (hv:Xq T Γ ops st o=some v):
  ∃u,Yields P ops o u a/\Bq X w π st.heap v u:=by
 unfold jW at hp
 rw [ho] at hp
 simp only at hp
 obtain ⟨dst,op,ty,pos,af,gd⟩:=o
 split at hp
 ·rename_i t h3 h4
  simp only at h3 h4;subst h3;subst h4
  refine ⟨a.tmps.getD t undef,nj rfl rfl,?_⟩
  simp only [Xq,Xr,Fa,Aa] at hv
  subst hv
  exact h.2.tmps t
 ·rename_i x h3 h4
  simp only at h3 h4;subst h3;subst h4
  have e:=Dr h.2 x
  have fin:(∃ad,a.eval x= .pointer (some ad))->Yields P ops ⟨dst, .nilCheck x,ty,pos,af,none⟩ (a.eval x) a:= λ⟨ad,hx⟩=>
   .inl ⟨by simp [Region.wanted],λw=>by simp [execOp,hx]⟩
  simp only [Xq,Xr,Fa] at hv
  split at hv
  ·rename_i fr τ y hx
   simp only [Aa] at hv;subst hv
   rw [hx] at e
   have e':=e
   obtain ⟨cs,hc,hv⟩:=e
   simp only [Cells] at hc
   obtain ⟨g,o,rfl,_⟩:=hc
   simp only [Cb,Ty.Ao,Dc,Rn,hJ] at hv
   exact ⟨_,fin ⟨_,hv⟩,e'⟩
  ·rename_i fr τ y hx
   simp only [Aa] at hv;subst hv
   rw [hx] at e
   obtain ⟨cs,hc,hv⟩:=e
   simp only [Cells] at hc
   rcases hc with ⟨h0,_⟩|⟨y',g,o,h0,rfl,hr⟩
   ·cases h0
   simp only [Aa] at h0;subst h0
   simp only [Cb,Ty.Ao,Dc,Rn,hJ] at hv
   exact ⟨_,fin ⟨_,hv⟩,[_],⟨g,o,rfl,hr⟩,by rw [hv];simp [Cb,Ty.Ao]⟩
  ·rename_i l i hx
   simp only [Aa] at hv;subst hv
   rw [hx] at e
   have e':=e
   obtain ⟨r,tid,vs,_,_,hv⟩:=e
   exact ⟨_,fin ⟨_,hv⟩,e'⟩
  ·rename_i l i hx
   simp only [Aa] at hv;subst hv
   rw [hx] at e
   have e':=e
   obtain ⟨r,b,sz,n,_,_,_,_,hv⟩:=e
   exact ⟨_,fin ⟨_,hv⟩,e'⟩
  ·cases hv
 ·rename_i s x f h3 h4
  simp only at h3 h4;subst h3;subst h4
  simp only [Xq,Xr,Fa] at hv
  obtain ⟨u,h1,h2⟩:=cz hT (st:=st) _ _ _ _ v (Dr h.2 x) hv
  refine ⟨u, .inl ⟨by simp [Region.wanted],λw=>?_⟩,h2⟩
  have:=h1 w
  simp only [execOp,Sem.run_bind]
  first
   |(rw [this];rfl)
   |simp [this]
 ·cases hp
theorem zN {i:Nat} (h:ze ops i=true):jW ops i=true:=by
 unfold ze at h
 unfold jW
 split at h
 ·rename_i o ho
  split at h
  ·rename_i h1 h2
   simp only [h1,h2]
  ·cases h
 ·cases h
theorem cg (hT:Dz P T) (q:Bool) {Q:Exit->Act->World->Prop} (hQ: ∀c a w,¬Q (.panic c) a w) (bP:Region.noSelect ops=true) {n:Nat} {st1:St} :
  ∀(l:List Nat) (Ag:Array Bool) (st:St) (a:Act) (w:World),Ge T Γ ops (Jo q ops l Ag) st=some st1->Rel X st a w->
   (∀a w,Rel X st1 a w->wpAny P .any ops Q n (Ei (Jo q ops l Ag) Ag) a w)->wpAny P .any ops Q ((Jo q ops l Ag).length+n) Ag a w
 | [],Ag,st,a,w,he,hr,hK=>by
  simp only [Jo,Ge,Aa] at he
  subst he
  simp only [Jo,Fg,Bo]
  exact hK a w hr
 |k::l,Ag,st,a,w,he,hr,hK=>by
  simp only [Jo] at he hK⊢
  split
  ·rename_i hc
   rw [Ac hc] at he hK
   simp only [Af] at hc
   obtain ⟨h0,h1,h2⟩:=hc
   have hp:jW ops k=true:=by
    cases q with
    |true=>exact h0
    |false=>exact zN h0
   simp only [Ge] at he
   split at he
   ·cases he
   rename_i o ho
   split at he
   rotate_left
   ·cases he
   rename_i v hv
   obtain ⟨π,hr⟩:=hr
   obtain ⟨u,hy,hu⟩:=GX (Γ:=Γ) hT hr ho hp hv
   rw [Av,show (Jo q ops l (Ag.setIfInBounds k true)).length+1+n=((Jo q ops l (Ag.setIfInBounds k true)).length+n)+1 by omega]
   refine wpAny_take ho bP h2 h1 (λc a w hq=>absurd hq (hQ c _ w)) hy ?_
   exact cg hT q hQ bP l _ _ _ _ he ⟨π,hr.put o.dst hu⟩ hK
  ·rename_i hc
   rw [Ak hc] at he hK
   exact cg hT q hQ bP l Ag st a w he hr hK
theorem lF (hT:Dz P T) (Pb:Kx P Γ) {Q:Exit->Act->World->Prop} {K:St->Prop} (hK: ∀st a w,K st->Rel X st a w->Q .normal a w):
  ∀(f:Nat) (Ag:Array Bool) (st:St) (a:Act) (w:World),anyS T Γ ops K f Ag st->Rel X st a w->wpAny P .any ops Q f Ag a w
 |0,Ag,st,a,w,h,hr=>⟨h.1,hK _ _ _ h.2 hr⟩
 |f+1,Ag,st,a,w,h,hr=>by
  refine ⟨λh0=>absurd h0 h.1,λi hi=>?_⟩
  obtain ⟨o,st',ho,he,gp⟩:=h.2 i hi
  obtain ⟨π,hr⟩:=hr
  unfold wpOp
  simp only [ho]
  exact We hT Pb hr o he λa' w' h'=>lF hT Pb hK f _ _ _ _ gp h'
def Ug (ops:Array Oper) (Ag:Array Bool):Prop:= ∀k a,Ag.getD k false=true->Region.waitsFor .any ops k a=true->Ag.getD a false=true
theorem cQ {Ag:Array Bool} {i a:Nat} (h:i∈Region.ready .any ops Ag) (hw:Region.waitsFor .any ops i a=true):Ag.getD a false=true:=by
 obtain ⟨_,o,ho,Kl⟩:=mem_ready.1 h
 obtain ⟨o',ho',e,he,hb,rfl⟩:=Region.waitsFor_spec hw
 rw [ho] at ho'
 cases ho'
 exact Kl e he hb
theorem Ug.set {Ag:Array Bool} (hc:Ug ops Ag) {i:Nat} (hi:i∈Region.ready .any ops Ag):Ug ops (Ag.setIfInBounds i true):= λk a hk hw=>by
 by_cases hik:i=k
 ·subst hik
  exact getD_set_true (cQ hi hw)
 ·rw [getD_set_ne false hik] at hk
  exact getD_set_true (hc k a hk hw)
theorem q8:Ug ops (Array.replicate ops.size false):= λk a hk _=>by
 rw [getD_replicate_false] at hk
 cases hk
theorem aM (q:Bool): ∀(l:List Nat) (Ag:Array Bool),Ug ops Ag->Ug ops (Ei (Jo q ops l Ag) Ag)
 | [],Ag,h=>h
 |i::r,Ag,h=>by
  simp only [Jo]
  split
  ·rename_i hc
   rw [Af,Af] at hc
   have hi:i∈Region.ready .any ops Ag:=by simpa using hc.2.1
   exact aM q r _ (h.set hi)
  ·exact aM q r Ag h
theorem Wm: ∀(l:List Nat) (Ag:Array Bool),(Ei l Ag).size=Ag.size
 | [],_=>rfl
 |i::r,Ag=>by simp only [Ei];rw [Wm r];simp
theorem fk: ∀(l:List Nat) (Ag:Array Bool) (k:Nat),k∈l->k<Ag.size->(Ei l Ag).getD k false=true
 |i::r,Ag,k,h,hk=>by
  simp only [Ei]
  by_cases hr:k∈r
  ·exact fk r _ k hr (by simpa using hk)
  ·have:k=i:=(Bc.1 h).resolve_right hr
   subst this
   have hs: ∀(l:List Nat) (A:Array Bool),A.getD k false=true->(Ei l A).getD k false=true:=by
    intro l
    induction l with
    |nil=>exact λA h=>h
    |cons j l ih=>exact λA h=>ih _ (getD_set_true h)
   exact hs r _ (by simp [hk])
theorem dr: ∀(l:List Nat) (Ag:Array Bool) (k:Nat),k∉l->(Ei l Ag).getD k false=Ag.getD k false
 | [],_,_,_=>rfl
 |i::r,Ag,k,h=>by
  simp only [Ei]
  rw [dr r _ k λhk=>h (Aq _ hk),getD_set_ne false (λe=>h (by rw [e];simp))]
def Mf (E:List Nat) (Ag:Array Bool):List Nat:=E.filter λr=>!Ag.getD r false
def di (ops:Array Oper) (r:Nat):Option Tmp:=(ops[r]?).bind (·.dst)
def kQ (ops:Array Oper) (Q:List Nat):List Nat:=Q.filterMap (di ops)
def Se (ops:Array Oper):List Nat->St->St
 | [],st=>st
 |r::Q,st=>(Se ops Q st).put (di ops r) .undef
def RO (ops:Array Oper):List Nat->Act->Act->Prop
 | [],a,a'=>a'=a
 |r::Q,a,a'=> ∃u,RO ops Q (a.put (di ops r) u) a'
theorem Abo {H:List (Nat×OB)} {v:Value} :Bq X w π H .undef v:=trivial
theorem iN (s:St) (d:Option Tmp) (v:AV) (t:Nat):(d=some t->(s.put d v).get t=v\/(s.put d v).get t= .undef)/\(d≠some t->(s.put d v).get t=s.get t):=by
 cases d with
 |none=>exact ⟨λh=>(by cases h),λ_=>rfl⟩
 |some e=>
  have key:(s.put (some e) v).get t=if e=t/\t<s.tmps.length then v else s.get t:=Rb _ _ _ _ _
  refine ⟨λh=>?_,λh=>?_⟩
  ·cases h
   rw [key]
   by_cases hl:t<s.tmps.length
   ·rw [Ac ⟨rfl,hl⟩];exact .inl rfl
   ·rw [Ak (λh=>hl h.2)]
    exact .inr (by unfold St.get;rw [Ah,Dy (by omega)];rfl)
  ·rw [key,Ak]
   rintro ⟨rfl,_⟩
   exact h rfl
theorem kc (s:St) (d:Option Tmp) (v:AV):(s.put d v).heap=s.heap:=by cases d<;>rfl
theorem nU (s:St) (d:Option Tmp) (v:AV):(s.put d v).tmps.length=s.tmps.length:=by
 cases d with
 |none=>rfl
 |some d=>exact ab _ _ _
theorem Qw: ∀(Q:List Nat) (st:St),(Se ops Q st).heap=st.heap
 | [],_=>rfl
 |r::Q,st=>by simp only [Se];rw [kc,Qw Q]
theorem Wq: ∀(Q:List Nat) (st:St),(Se ops Q st).tmps.length=st.tmps.length
 | [],_=>rfl
 |r::Q,st=>by simp only [Se];rw [nU,Wq Q]
theorem Lq {Q:List Nat} {t:Nat} :t∈kQ ops Q↔ ∃r∈Q,di ops r=some t:=List.mem_filterMap
theorem Sf: ∀(Q:List Nat) (st:St) (t:Nat),(t∈kQ ops Q->(Se ops Q st).get t= .undef)/\(t∉kQ ops Q->(Se ops Q st).get t=st.get t)
 | [],st,t=>⟨λh=>by simp [kQ] at h,λ_=>rfl⟩
 |r::Q,st,t=>by
  obtain ⟨h1,h2⟩:=Sf Q st t
  obtain ⟨g1,g2⟩:=iN (Se ops Q st) (di ops r) .undef t
  simp only [Se]
  by_cases hd:di ops r=some t
  ·refine ⟨λ_=>(g1 hd).elim id id,λh=>absurd (Lq.2 ⟨r,Kn ..,hd⟩) h⟩
  ·refine ⟨λh=>?_,λh=>?_⟩
   ·rw [g2 hd]
    obtain ⟨q,hq,he⟩:=Lq.1 h
    rcases Bc.1 hq with rfl|hq
    ·exact absurd he hd
    ·exact h1 (Lq.2 ⟨q,hq,he⟩)
   ·rw [g2 hd]
    exact h2 λhm=>by
     obtain ⟨q,hq,he⟩:=Lq.1 hm
     exact h (Lq.2 ⟨q,Aq _ hq,he⟩)
theorem uj {st s:St} {a:Act} (h:Bh X π st a w) (hh:s.heap=st.heap) (hl:s.tmps.length=st.tmps.length) (hg: ∀t,s.get t=st.get t\/s.get t= .undef):Bh X π s a w:=by
 refine ⟨by rw [hh];exact h.1,⟨by rw [hl];exact h.2.size,h.2.defers,λt=>?_⟩⟩
 rw [hh]
 rcases hg t with e|e
 ·rw [e];exact h.2.tmps t
 ·rw [e];exact Abo
theorem IB {st s:St} {o:Oper} (hh:s.heap=st.heap) (hg: ∀t,t∈o.looksAt ops->s.get t=st.get t):Xq T Γ ops s o=Xq T Γ ops st o:=by
 obtain ⟨ts,H⟩:=s
 obtain ⟨ts',H'⟩:=st
 simp only at hh
 subst hh
 exact yk hg
theorem qL (hT:Dz P T) (Pb:Kx P Γ) {st:St} {a:Act} (h:Bh X π st a w) {i:Nat} {o:Oper} (ho:ops[i]?=some o) (hp:jX ops i=true) {v:AV} (hv:Xq T Γ ops st o=some v):
  ∃u,(∀(Q:Exit->Act->World->Prop) (K:Act->World->Prop),K (a.put o.dst u) w->wpOp P ops Q i K a w)/\Bq X w π st.heap v u:=by
 unfold jX at hp
 rw [ho] at hp
 simp only at hp
 have hgd:o.guard=none:=by
  obtain ⟨dst,op,ty,pos,af,gd⟩:=o
  cases gd with
  |none=>rfl
  |some g=>split at hp<;>first|rfl|(rename_i h4;cases h4)|cases hp
 have hb:Xr T Γ st o=some v:=by
  unfold Xq at hv
  rw [hgd] at hv
  exact hv
 have hw:Region.wanted o (yielded ops a.tmps)=true:=by simp [Region.wanted,hgd]
 have fin: ∀s:Sem Value,execOp a.eval o=(do pure (.value (<-s)))->Fa T Γ st o=some v-> ∃u,(∀(Q:Exit->Act->World->Prop) (K:Act->World->Prop),K (a.put o.dst u) w->wpOp P ops Q i K a w)/\Bq X w π st.heap v u:=by
  intro s he hq
  have hg:=iE hT Pb h o v hq
  rw [he,Sem.run_bind] at hg
  cases hr:s.run P w with
  |ok u w'=>
   rw [hr] at hg
   obtain ⟨e,hu⟩:=(show w'=w/\Bq X w π st.heap v u from hg)
   subst e
   refine ⟨u,λQ K hK=>?_,hu⟩
   unfold wpOp
   simp only [ho]
   rw [Ac hw]
   refine .inl ?_
   unfold Oper.wp
   rw [he,Sem.run_bind,hr]
   exact hK
  |halt x w'=>rw [hr] at hg;exact hg.elim
 obtain ⟨dst,op,ty,pos,af,gd⟩:=o
 simp only at hgd
 subst hgd
 split at hp
 ·rename_i x h3 h4
  simp only at h3;subst h3
  exact fin (pure (a.eval x)) (by simp [execOp]) hb
 ·rename_i x h3 h4
  simp only at h3;subst h3
  exact fin _ rfl hb
 ·rename_i x h3 h4
  simp only at h3;subst h3
  exact fin _ rfl hb
 ·rename_i x h3 h4
  simp only at h3;subst h3
  exact fin _ rfl hb
 ·cases hp
theorem WA {j:Nat} {oi oj:Oper} {v:Value} (hj:ops[j]?=some oj) (hap:oi.apart ops oj=true) (hsj: ∀cs b,oj.op≠ .select cs b)
  {Q:Exit->Act->World->Prop} (hQ: ∀c a w,¬Q (.panic c) a w) {K:Act->World->Prop} {a:Act} {w:World} (h:wpOp P ops Q j K (a.put oi.dst v) w):
  wpOp P ops Q j (λa' w'=>K (a'.put oi.dst v) w') a w:=by
 obtain ⟨h1,h2,h3⟩:=Oper.apart_spec hap
 unfold wpOp at*
 simp only [hj] at*
 rw [wanted_put oj a oi.dst v h1] at h
 split
 ·rename_i hw
  simp only [hw,Po] at h
  rcases h with h|⟨Afj,Alq⟩
  case inr=>exact .inr ⟨by unfold Oper.asks at*;rw [execOp_put oj hsj a oi.dst v h1] at Afj;exact Afj,Alq⟩
  refine .inl ?_
  unfold Oper.wp at*
  rw [execOp_put oj hsj a oi.dst v h1] at h
  generalize (execOp a.eval oj).run P w=r at*
  cases r with
  |ok n w'=>
   cases n<;>simp only [Oper.upon] at h⊢
   case value u=>rw [<-Act.put_comm a v u h2];exact h
   case skip=>rw [<-Act.put_comm a v undef h2];exact h
   case defer d=>
    rw [<-Act.put_comm _ v undef h2,<-Act.put_defers]
    exact h
   case enter f args=>
    refine Calls.mono h λe qY he=>?_
    cases e with
    |returned u=>show K ((a.put oj.dst u).put oi.dst v) qY;rw [<-Act.put_comm a v u h2];exact he
    |panicked c=>exact absurd he (hQ _ _ _)
    |outgrown=>exact he
   case row row args=>exact Rows.mono h λu qY he=>by rw [<-Act.put_comm a v u h2];exact he
  |halt x w'=>
   cases x<;>simp only [Oper.upon] at h⊢
   case panic u=>exact absurd h (hQ _ _ _)
 ·rename_i hw
  simp only [hw] at h
  rw [<-Act.put_comm a v undef h2];exact h
theorem xR: ∀ {Q:List Nat} {a a':Act},RO ops Q a a'->a'.defers=a.defers/\a'.tmps.size=a.tmps.size/\ ∀t,t∉kQ ops Q->a'.tmps.getD t undef=a.tmps.getD t undef
 | [],a,a',h=>by cases h;exact ⟨rfl,rfl,λ_ _=>rfl⟩
 |r::Q,a,a',⟨u,h⟩=>by
  obtain ⟨h1,h2,h3⟩:=xR h
  have hp:(a.put (di ops r) u).defers=a.defers/\(a.put (di ops r) u).tmps.size=a.tmps.size:=by cases di ops r<;>simp [Act.put]
  refine ⟨h1.trans hp.1,h2.trans hp.2,λt ht=>?_⟩
  have hn:di ops r≠some t:= λe=>ht (Lq.2 ⟨r,Kn ..,e⟩)
  rw [h3 t λhm=>ht (by obtain ⟨q,hq,he⟩:=Lq.1 hm;exact Lq.2 ⟨q,Aq _ hq,he⟩)]
  cases hd:di ops r with
  |none=>rfl
  |some d=>
   have Iv:d≠t:= λe=>hn (by rw [hd,e])
   simp [Act.put,Array.getElem?_setIfInBounds_ne Iv]
theorem Aao {Q:List Nat} {st:St} {a a':Act} (hp:RO ops Q a a') (h:Bh X π st a' w):Bh X π (Se ops Q st) a w:=by
 obtain ⟨h1,h2,h3⟩:=xR hp
 refine ⟨by rw [Qw];exact h.1,⟨by rw [Wq,<-h2];exact h.2.size,by rw [<-h1];exact h.2.defers,λt=>?_⟩⟩
 rw [Qw]
 by_cases ht:t∈kQ ops Q
 ·rw [(Sf Q st t).1 ht];exact Abo
 ·rw [(Sf Q st t).2 ht,<-h3 t ht];exact h.2.tmps t
theorem ym {j:Nat} {oj:Oper} (hj:ops[j]?=some oj) (hsj: ∀cs b,oj.op≠ .select cs b) {Q:Exit->Act->World->Prop} (hQ: ∀c a w,¬Q (.panic c) a w) {K:Act->World->Prop} :
  ∀(L:List Nat) (a a':Act) (w:World),(∀r∈L,∃o,ops[r]?=some o/\o.apart ops oj=true)->RO ops L a a'->wpOp P ops Q j K a' w->wpOp P ops Q j (λa2 w2=> ∃a3,RO ops L a2 a3/\K a3 w2) a w
 | [],a,a',w,_,hp,h=>by cases hp;exact wpOp_mono (λa2 w2 hk=>⟨a2,rfl,hk⟩) h
 |r::L,a,a',w,hap,⟨u,hp⟩,h=>by
  obtain ⟨o,ho,ha⟩:=hap r (Kn ..)
  have hd:di ops r=o.dst:=by unfold di;rw [ho];rfl
  rw [hd] at hp
  have ih:=ym hj hsj hQ L _ a' w (λq hq=>hap q (Aq _ hq)) hp h
  exact wpOp_mono (λa2 w2 ⟨a3,h1,h2⟩=>⟨a3,⟨u,by rw [hd];exact h1⟩,h2⟩) (WA hj ha hsj hQ ih)
def JJ (ops:Array Oper):List Nat->Prop
 | []=>True
 |r::L=>(∀q∈r::L,∀o d,ops[r]?=some o->di ops q=some d->d∉o.looksAt ops)/\(∀q∈L,∀d,di ops r=some d->di ops q≠some d)/\JJ ops L
def wS (ops:Array Oper):List Nat->Prop
 | []=>True
 |r::L=>(∀q∈L,Region.waitsFor .any ops q r=true\/ ∀o d,ops[q]?=some o->di ops r=some d->d∉o.looksAt ops)/\wS ops L
theorem JJ.filter {p:Nat->Bool} : ∀ {L:List Nat},JJ ops L->JJ ops (L.filter p)
 | [],_=>trivial
 |r::L,⟨h1,h2,h3⟩=>by
  rw [List.filter_cons]
  split
  ·exact ⟨λq hq=>h1 q (by rcases Bc.1 hq with rfl|hq;exact Kn ..;exact Aq _ (Cg.1 hq).1),λq hq=>h2 q (Cg.1 hq).1,h3.filter⟩
  ·exact h3.filter
theorem wS.filter {p:Nat->Bool} : ∀ {L:List Nat},wS ops L->wS ops (L.filter p)
 | [],_=>trivial
 |r::L,⟨h1,h3⟩=>by
  rw [List.filter_cons]
  split
  ·exact ⟨λq hq=>h1 q (Cg.1 hq).1,h3.filter⟩
  ·exact h3.filter
theorem ae {i j:Nat} {p:Oper->Oper->Bool} (h:pV ops i j p=true): ∃x y,ops[i]?=some x/\ops[j]?=some y/\p x y=true:=by
 unfold pV at h
 split at h
 ·rename_i x y h1 h2;exact ⟨x,y,h1,h2,h⟩
 ·cases h
theorem fT {x y:Oper} (h:ov ops x y=true): ∀d,x.dst=some d->d∉y.looksAt ops:= λd hd=>by
 unfold ov at h
 rw [hd] at h
 simpa using h
theorem DI {x y:Oper} (h:KF x y=true): ∀d,x.dst=some d->y.dst≠some d:= λd hd=>by
 unfold KF at h
 rw [hd] at h
 simpa using h
theorem cy {r:Nat} {o:Oper} (h:ops[r]?=some o):di ops r=o.dst:=by unfold di;rw [h];rfl
theorem qG: ∀ {E:List Nat},zJ ops E=true->JJ ops E/\wS ops E
 | [],_=>⟨trivial,trivial⟩
 |r::E,h=>by
  simp only [zJ,Af,Ba] at h
  obtain ⟨⟨h1,h2⟩,h3⟩:=h
  obtain ⟨g1,g2⟩:=qG h3
  refine ⟨⟨λq hq o d ho hd=>?_,λq hq d hd=>?_,g1⟩,λq hq=>?_,g2⟩
  ·rcases Bc.1 hq with rfl|hq
   ·obtain ⟨x,y,hx,hy,hp⟩:=ae h1
    rw [ho] at hx hy;cases hx;cases hy
    rw [cy ho] at hd
    exact fT hp d hd
   ·obtain ⟨x,y,hx,hy,hp⟩:=ae (h2 q hq).1
    rw [ho] at hx;cases hx
    rw [cy hy] at hd
    exact fT (Ce.1 hp).2 d hd
  ·obtain ⟨x,y,hx,hy,hp⟩:=ae (h2 q hq).1
   rw [cy hx] at hd
   rw [cy hy]
   exact DI (Ce.1 hp).1 d hd
  ·have h4:=(h2 q hq).2
   rw [Lu] at h4
   rcases h4 with h4|h4
   ·exact .inl h4
   ·refine .inr λo d ho hd=>?_
    obtain ⟨x,y,hx,hy,hp⟩:=ae h4
    rw [ho] at hy;cases hy
    rw [cy hx] at hd
    exact fT hp d hd
theorem Afa (hT:Dz P T) (Pb:Kx P Γ) {st:St} : ∀(L:List Nat) (a:Act),(∀r∈L,jX ops r=true/\ ∃o v,ops[r]?=some o/\Xq T Γ ops st o=some v/\ ∀d,o.dst=some d->st.get d=v)->JJ ops L->
  Bh X π (Se ops L st) a w-> ∃a',RO ops L a a'/\Bh X π st a' w
 | [],a,_,_,h=>⟨a,rfl,h⟩
 |r::L,a,hs,⟨f1,f2,f3⟩,h=>by
  obtain ⟨hr,o,v,ho,hv,hd⟩:=hs r (Kn ..)
  have hdo:=cy ho
  have EM:Xq T Γ ops (Se ops (r::L) st) o=some v:=by
   rw [IB (st:=st) (Qw _ _) λt ht=>(Sf _ _ _).2 λhm=>by
    obtain ⟨q,hq,he⟩:=Lq.1 hm
    exact f1 q hq o t ho he ht]
   exact hv
  obtain ⟨u,_,hu⟩:=qL hT Pb h ho hr EM
  have h2:=h.put o.dst hu
  have h3:Bh X π (Se ops L st) (a.put o.dst u) w:=by
   refine uj h2 ?_ ?_ λt=>?_
   ·rw [kc,Qw,Qw]
   ·rw [nU,Wq,Wq]
   ·obtain ⟨g1,g2⟩:=iN (Se ops (r::L) st) o.dst v t
    by_cases he:o.dst=some t
    ·have JE:t∉kQ ops L:= λhm=>by
      obtain ⟨q,hq,hqe⟩:=Lq.1 hm
      exact f2 q hq t (by rw [hdo];exact he) hqe
     rw [(Sf L st t).2 JE,hd t he]
     rcases g1 he with g|g
     ·exact .inl g.symm
     ·by_cases hl:t<st.tmps.length
      ·refine .inl ?_
       rw [he]
       show v=((Sz (Se ops (r::L) st).tmps t v).getD t .undef)
       rw [Rb,Ac ⟨rfl,by rw [Wq];exact hl⟩]
      ·refine .inr ?_
       rw [<-hd t he]
       unfold St.get
       rw [Ah,Dy (by omega)]
       rfl
    ·rw [g2 he]
     have:(Se ops (r::L) st).get t=(Se ops L st).get t:=(iN (Se ops L st) (di ops r) .undef t).2 (by rw [hdo];exact he)
     exact .inl this.symm
  obtain ⟨a',hp,gP⟩:=Afa hT Pb L _ (λq hq=>hs q (Aq _ hq)) f3 h3
  exact ⟨a',⟨u,by rw [hdo];exact hp⟩,gP⟩
theorem XQ: ∀ {L:List Nat},JJ ops L->wS ops L-> ∀ {i:Nat} {o:Oper},i∈L->ops[i]?=some o->(∀q∈L,Region.waitsFor .any ops i q=true->False)-> ∀q∈L,∀d,di ops q=some d->d∉o.looksAt ops
 | [],_,_,i,_,hi,_,_=>by cases hi
 |r::L,⟨f1,f2,f3⟩,⟨b1,b2⟩,i,o,hi,ho,hw=> λq hq d hd=>by
  by_cases hir:i=r
  ·subst hir
   exact f1 q hq o d ho hd
  ·have l5:=(Bc.1 hi).resolve_left hir
   rcases Bc.1 hq with rfl|gm
   ·rcases b1 i l5 with h|h
    ·exact (hw q hq h).elim
    ·exact h o d ho hd
   ·exact XQ f3 b2 l5 ho (λq hq=>hw q (Aq _ hq)) q gm d hd
theorem qc {Ag:Array Bool} (aB:Ag.size=ops.size): ∀ {E:List Nat} {L:Array Bool} {r:Nat} {Q:List Nat},jg ops E L=true->(∀j,L.getD j false=true->Ag.getD j false=true)->Mf E Ag=r::Q->r∈Region.ready .any ops Ag
 | [],_,_,_,_,_,h=>by simp [Mf] at h
 |e::E,L,r,Q,hr,hl,hp=>by
  simp only [jg,Af,Js] at hr
  unfold Mf at hp
  rw [List.filter_cons] at hp
  by_cases he:Ag.getD e false=true
  ·rw [Ak (by rw [he];simp)] at hp
   refine qc aB hr.2 (λj hj=>?_) hp
   by_cases hej:e=j
   ·subst hej;exact he
   ·rw [getD_set_ne false hej] at hj;exact hl j hj
  ·have he:Ag.getD e false=false:=by simpa using he
   rw [Ac (by rw [he];rfl)] at hp
   injection hp with xk QH
   subst xk
   obtain ⟨_,o,ho,Kl⟩:=mem_ready.1 hr.1
   have Jr:e<Ag.size:=by rw [aB];exact (Nk.1 ho).1
   exact mem_ready.2 ⟨getD_in Jr he,o,ho,λx hx hb=>hl _ (Kl x hx hb)⟩
theorem eu {Ag:Array Bool} {j:Nat} (h:Ag.getD j true=false):j<Ag.size:=by
 rcases Nat.lt_or_ge j Ag.size with h'|h'
 ·exact h'
 ·simp [Array.getElem?_eq_none h'] at h
theorem wR (hT:Dz P T) (Pb:Kx P Γ) {Q:Exit->Act->World->Prop} (hQ: ∀c a w,¬Q (.panic c) a w) {K:St->Prop} (hK: ∀st a w,K st->Rel X st a w->Q .normal a w) (bP:Region.noSelect ops=true)
  {E:List Nat} {L0:Array Bool} (hE:cP ops E L0=true): ∀(n f:Nat) (Ag LA:Array Bool) (st:St) (a:Act) (w:World),n=f+(Mf E Ag).length->Ag.size=ops.size->LA.size=ops.size->
   (∀j,LA.getD j false=(Ag.getD j false||E.contains j))->Ug ops Ag->(∀j,L0.getD j false=true->Ag.getD j false=true)->r8 T Γ ops E K f LA st->Rel X (Se ops (Mf E Ag) st) a w->wpAny P .any ops Q n Ag a w:=by
 simp only [cP,Af,Ba] at hE
 obtain ⟨⟨hre,hry⟩,hpr,hap⟩:=hE
 obtain ⟨Alh,qj⟩:=qG hpr
 have key: ∀(n f:Nat) (Ag LA:Array Bool) (st:St) (a:Act) (w:World),n=f+(Mf E Ag).length->Ag.size=ops.size->LA.size=ops.size->
   (∀j,LA.getD j false=(Ag.getD j false||E.contains j))->Ug ops Ag->(∀j,L0.getD j false=true->Ag.getD j false=true)->r8 T Γ ops E K f LA st->Rel X (Se ops (Mf E Ag) st) a w->
   (∀j,j∈Region.ready .any ops Ag->j∉E->j∈Region.ready .any ops LA)/\(Region.ready .any ops Ag= []->Q .normal a w/\f=0/\Mf E Ag= []):=by
  intro n f Ag LA st a w hn iP rq hLA Qk XV tb hrel
  have h1: ∀j,j∈Region.ready .any ops Ag->j∉E->j∈Region.ready .any ops LA:= λj hj hjE=>by
   obtain ⟨oE,o,ho,Kl⟩:=mem_ready.1 hj
   have Jr:=eu oE
   refine mem_ready.2 ⟨getD_in (by omega) ?_,o,ho,λe he hb=>by rw [hLA,Kl e he hb];rfl⟩
   rw [hLA,getD_both oE]
   simpa using hjE
  refine ⟨h1,λh0=>?_⟩
  cases hpe:Mf E Ag with
  |cons r L=>
   have:=qc iP hry XV hpe
   rw [h0] at this
   cases this
  |nil=>
   have Kl: ∀r,r∈E->Ag.getD r false=true:= λr hr=>by
    have:r∉Mf E Ag:=by rw [hpe];simp
    unfold Mf at this
    rw [Cg] at this
    by_cases hl:Ag.getD r false=true
    ·exact hl
    ·exact absurd ⟨hr,by simpa using hl⟩ this
   have hb: ∀j,j∈Region.ready .any ops LA->j∈Region.ready .any ops Ag:= λj hj=>by
    obtain ⟨oE,o,ho,hw⟩:=mem_ready.1 hj
    have Jr:=eu oE
    have he: ∀k,LA.getD k false=Ag.getD k false:= λk=>by
     rw [hLA]
     by_cases hk:k∈E
     ·rw [Kl k hk];rfl
     ·rw [show E.contains k=false by simpa using hk,gU]
    exact mem_ready.2 ⟨getD_in (by omega) (by rw [<-he];exact getD_both oE),o,ho,λe hx hbd=>by rw [<-he];exact hw e hx hbd⟩
   cases f with
   |zero=>
    obtain ⟨_,_,hk⟩:=tb
    rw [hpe] at hrel
    exact ⟨hK _ _ _ hk hrel,rfl,rfl⟩
   |succ f=>
    obtain ⟨_,Iv,_⟩:=tb
    obtain ⟨j,hj⟩:=List.exists_mem_of_ne_nil _ Iv
    have:=hb j hj
    rw [h0] at this
    cases this
 intro n
 induction n with
 |zero=>
  intro f Ag LA st a w hn iP rq hLA Qk XV tb hrel
  obtain ⟨k1,k2⟩:=key 0 f Ag LA st a w hn iP rq hLA Qk XV tb hrel
  have hf:f=0:=by omega
  have hp:Mf E Ag= []:=List.length_eq_zero_iff.1 (by omega)
  subst hf
  obtain ⟨_,hr,_⟩:=tb
  have h0:Region.ready .any ops Ag= []:=List.eq_nil_iff_forall_not_mem.2 λj hj=>by
   by_cases hjE:j∈E
   ·have oE:=getD_both (mem_ready.1 hj).1
    have:j∈Mf E Ag:=Cg.2 ⟨hjE,by rw [oE];rfl⟩
    rw [hp] at this
    cases this
   ·have:=k1 j hj hjE
    rw [hr] at this
    cases this
  exact ⟨h0,(k2 h0).1⟩
 |succ n ih=>
  intro f Ag LA st a w hn iP rq hLA Qk XV tb hrel
  obtain ⟨k1,k2⟩:=key (n+1) f Ag LA st a w hn iP rq hLA Qk XV tb hrel
  have Vz:Aax T Γ ops E LA st:=by cases f<;>exact tb.1
  have YN: ∀r∈Mf E Ag,r∈E/\Ag.getD r false=false:= λr hr=>by
   obtain ⟨h1,h2⟩:=Cg.1 hr
   exact ⟨h1,by simpa using h2⟩
  have Agb: ∀r∈Mf E Ag,jX ops r=true/\ ∃o v,ops[r]?=some o/\Xq T Γ ops st o=some v/\ ∀d,o.dst=some d->st.get d=v:= λr hr=>by
   obtain ⟨h1,h2⟩:=YN r hr
   refine ⟨hre r h1,(Vz r h1).resolve_left λhw=>?_⟩
   unfold sk at hw
   obtain ⟨j,_,hj⟩:=Ir.1 hw
   simp only [Af,Fz] at hj
   obtain ⟨hj1,hj2,hj3⟩:=hj
   rw [hLA,hj1,gU] at hj2
   have:=Qk j r hj2 hj3
   rw [h2] at this
   cases this
  refine ⟨λh0=>(k2 h0).1,λi hi=>?_⟩
  obtain ⟨π,hrel⟩:=hrel
  have hiw: ∀q∈Mf E Ag,Region.waitsFor .any ops i q=true->False:= λq hq hw=>by
   have:=cQ hi hw
   rw [(YN q hq).2] at this
   cases this
  obtain ⟨oE,oi,hoi,_⟩:=mem_ready.1 hi
  have Jr:=eu oE
  by_cases hiE:i∈E
  ·have WG:i∈Mf E Ag:=Cg.2 ⟨hiE,by rw [getD_both oE];rfl⟩
   obtain ⟨hrd,o,v,ho,hv,hd⟩:=Agb i WG
   have hnl:=XQ (Alh.filter (p:= λr=>!Ag.getD r false)) (qj.filter (p:= λr=>!Ag.getD r false)) WG ho hiw
   have EM:Xq T Γ ops (Se ops (Mf E Ag) st) o=some v:=by
    rw [IB (st:=st) (Qw _ _) λt ht=>(Sf _ _ _).2 λhm=>by
     obtain ⟨q,hq,he⟩:=Lq.1 hm
     exact hnl q hq t he ht]
    exact hv
   obtain ⟨u,hy,hu⟩:=qL hT Pb hrel ho hrd EM
   refine hy Q _ ?_
   have hpe: ∀q,q∈Mf E (Ag.setIfInBounds i true)↔q∈Mf E Ag/\q≠i:= λq=>by
    unfold Mf
    rw [Cg,Cg]
    by_cases hqi:q=i
    ·subst hqi
     simp [Jr]
    ·rw [getD_set_ne false (Gb hqi)]
     exact ⟨λh=>⟨h,hqi⟩,λh=>h.1⟩
   have hlen:(Mf E Ag).length=(Mf E (Ag.setIfInBounds i true)).length+1:=by
    have JE: ∀(E:List Nat) (L:Array Bool),jg ops E L=true->E.Nodup/\ ∀r∈E,L.getD r true=false:=by
     intro E
     induction E with
     |nil=>exact λL _=>⟨Nm,λr hr=>by cases hr⟩
     |cons e E ihE=>
      intro L h
      simp only [jg,Af,Js] at h
      obtain ⟨g1,g2⟩:=ihE _ h.2
      have he:=(mem_ready.1 h.1).1
      have l4:=eu he
      refine ⟨Bx.2 ⟨λhm=>?_,g1⟩,λr hr=>?_⟩
      ·have:=g2 e hm
       simp [l4] at this
      ·rcases Bc.1 hr with rfl|hr
       ·exact he
       ·have Iv:e≠r:= λe'=>by subst e';have:=g2 e hr;simp [l4] at this
        have:=g2 r hr
        rw [getD_set_ne true Iv] at this
        exact this
    have hEn:=(JE E L0 hry).1
    have At1: ∀L:List Nat,L.Nodup->i∈L->(L.filter λr=>!Ag.getD r false).length=(L.filter λr=>!(Ag.setIfInBounds i true).getD r false).length+1:=by
     intro L
     induction L with
     |nil=>exact λ_ h=>by cases h
     |cons x L ihL=>
      intro hn hm
      obtain ⟨hx,hn⟩:=Bx.1 hn
      rw [List.filter_cons,List.filter_cons]
      by_cases hxi:x=i
      ·subst hxi
       rw [Ac (by rw [getD_both oE];rfl),Ak (by simp [Jr])]
       have:L.filter (λr=>!Ag.getD r false)=L.filter (λr=>!(Ag.setIfInBounds x true).getD r false):=List.filter_congr λq hq=>by
        rw [getD_set_ne false (λe=>hx (by rw [e];exact hq))]
       rw [Av,this]
      ·have hm:=(Bc.1 hm).resolve_left (Gb hxi)
       rw [getD_set_ne false (Gb hxi)]
       split
       ·rw [Av,Av,ihL hn hm]
       ·exact ihL hn hm
    exact At1 E hEn hiE
   refine ih f (Ag.setIfInBounds i true) LA st _ w (by omega) (by simp [iP]) rq (λj=>?_) (Qk.set hi) (λj hj=>getD_set_true (XV j hj)) tb ⟨π,?_⟩
   ·rw [hLA]
    by_cases jV:i=j
    ·subst jV
     rw [show E.contains i=true by simpa using hiE,Bool.or_true,Bool.or_true]
    ·rw [getD_set_ne false jV]
   ·have h2:=hrel.put o.dst hu
    refine uj h2 ?_ ?_ λt=>?_
    ·rw [kc,Qw,Qw]
    ·rw [nU,Wq,Wq]
    ·have hdo:=cy ho
     by_cases hm:t∈kQ ops (Mf E (Ag.setIfInBounds i true))
     ·exact .inr ((Sf _ _ _).1 hm)
     ·rw [(Sf _ _ _).2 hm]
      obtain ⟨g1,g2⟩:=iN (Se ops (Mf E Ag) st) o.dst v t
      by_cases he:o.dst=some t
      ·rw [hd t he]
       rcases g1 he with g|g
       ·exact .inl g.symm
       ·by_cases hl:t<st.tmps.length
        ·refine .inl ?_
         rw [he]
         show v=((Sz (Se ops (Mf E Ag) st).tmps t v).getD t .undef)
         rw [Rb,Ac ⟨rfl,by rw [Wq];exact hl⟩]
        ·refine .inr ?_
         rw [<-hd t he]
         unfold St.get
         rw [Ah,Dy (by omega)]
         rfl
      ·rw [g2 he]
       refine .inl ((Sf _ _ _).2 λhm2=>?_).symm
       obtain ⟨q,hq,hqe⟩:=Lq.1 hm2
       by_cases hqi:q=i
       ·subst hqi
        rw [hdo] at hqe
        exact he hqe
       ·exact hm (Lq.2 ⟨q,(hpe q).2 ⟨hq,hqi⟩,hqe⟩)
  ·cases f with
   |zero=>
    obtain ⟨_,hr,_⟩:=tb
    have:=k1 i hi hiE
    rw [hr] at this
    cases this
   |succ f=>
    obtain ⟨_,_,Am0⟩:=tb
    obtain ⟨o,st',ho,he,gp⟩:=Am0 i (k1 i hi hiE)
    obtain ⟨a',YQ,Ve⟩:=Afa hT Pb (Mf E Ag) a Agb Alh.filter hrel
    have tC:wpOp P ops Q i (λa2 w2=>Rel X st' a2 w2) a' w:=by
     unfold wpOp
     simp only [ho]
     exact We hT Pb Ve o he λa2 w2 h2=>h2
    have EE:=ym (Q:=Q) ho (λcs b=>Region.noSelect_spec bP i o cs b ho) hQ (Mf E Ag) a a' w (λr hr=>?_) YQ tC
    ·refine wpOp_mono (λa2 w2 hk=>?_) EE
     obtain ⟨a3,hp3,π3,hr3⟩:=hk
     have hpe:Mf E (Ag.setIfInBounds i true)=Mf E Ag:=by
      unfold Mf
      refine List.filter_congr λq hq=>?_
      rw [getD_set_ne false (λe=>hiE (by rw [e];exact hq))]
     refine ih f (Ag.setIfInBounds i true) (LA.setIfInBounds i true) st' a2 w2 (by rw [hpe];omega) (by simp [iP]) (by simp [rq]) (λj=>?_) (Qk.set hi) (λj hj=>getD_set_true (XV j hj)) gp ⟨π3,by rw [hpe];exact Aao hp3 hr3⟩
     by_cases jV:i=j
     ·subst jV
      simp [Jr,iP▸Jr,rq]
     ·rw [getD_set_ne false jV,getD_set_ne false jV,hLA]
    ·obtain ⟨hrE,JF⟩:=YN r hr
     have h3:=Ba.1 (Ba.1 hap r hrE) i (Dn.2 (by omega))
     simp only [Lu] at h3
     rcases h3 with ((h3|h3)|h3)|h3
     ·exact absurd (by simpa using h3) hiE
     ·have:=XV i h3
      rw [getD_both oE] at this
      cases this
     ·exact (hiw r hr h3).elim
     ·obtain ⟨x,y,hx,hy,hp⟩:=ae h3
      rw [ho] at hy;cases hy
      exact ⟨x,hx,hp⟩
theorem nd: ∀(E:List Nat) (s0 s1:St),Ge T Γ ops E s0=some s1->s1.heap=s0.heap/\s1.tmps.length=s0.tmps.length/\ ∀t,t∉kQ ops E->s1.get t=s0.get t
 | [],s0,s1,h=>by
  simp only [Ge,Aa] at h
  subst h
  exact ⟨rfl,rfl,λ_ _=>rfl⟩
 |r::E,s0,s1,h=>by
  simp only [Ge] at h
  split at h
  ·cases h
  rename_i o ho
  split at h
  rotate_left
  ·cases h
  rename_i v hv
  obtain ⟨h1,h2,h3⟩:=nd E _ _ h
  refine ⟨by rw [h1,kc],by rw [h2,nU],λt ht=>?_⟩
  rw [h3 t λhm=>ht (by obtain ⟨q,hq,he⟩:=Lq.1 hm;exact Lq.2 ⟨q,Aq _ hq,he⟩)]
  exact (iN s0 o.dst v t).2 λe=>ht (Lq.2 ⟨r,Kn ..,by rw [cy ho];exact e⟩)
theorem xK: ∀ {E:List Nat} {L0:Array Bool},jg ops E L0=true-> ∀r∈E,L0.getD r true=false
 | [],_,_,_,hr=>by cases hr
 |e::E,L0,h,r,hr=>by
  simp only [jg,Af,Js] at h
  have he:=(mem_ready.1 h.1).1
  rcases Bc.1 hr with rfl|hr
  ·exact he
  ·have h2:=xK h.2 r hr
   have Iv:e≠r:= λe'=>by subst e';simp [eu he] at h2
   rw [getD_set_ne true Iv] at h2
   exact h2
theorem wQ (hT:Dz P T) (Pb:Kx P Γ) {Q:Exit->Act->World->Prop} (hQ: ∀c a w,¬Q (.panic c) a w) {K:St->Prop} (hK: ∀st a w,K st->Rel X st a w->Q .normal a w) (bP:Region.noSelect ops=true)
  {E:List Nat} {L0:Array Bool} (hE:cP ops E L0=true) {n:Nat} (hn:E.length<=n) {ck st1:St} (h1:Ge T Γ ops E ck=some st1) (h2:r8 T Γ ops E K (n-E.length) (Ei E L0) st1)
  (aB:L0.size=ops.size) (Qk:Ug ops L0) {a:Act} {w:World} (hr:Rel X ck a w):wpAny P .any ops Q n L0 a w:=by
 have hE':=hE
 simp only [cP,Af] at hE'
 have oE:=xK hE'.1.2
 have hp:Mf E L0=E:=List.filter_eq_self.2 λr hr=>by rw [getD_both (oE r hr)];rfl
 refine wR hT Pb hQ hK bP hE n (n-E.length) L0 (Ei E L0) st1 a w (by rw [hp];omega) aB (by rw [Wm];exact aB) (λj=>?_) Qk (λj hj=>hj) h2 ?_
 ·by_cases hj:j∈E
  ·rw [fk E L0 j hj (eu (oE j hj)),show E.contains j=true by simpa using hj,Bool.or_true]
  ·rw [dr E L0 j hj,show E.contains j=false by simpa using hj,gU]
 ·obtain ⟨π,hr⟩:=hr
  obtain ⟨g1,g2,g3⟩:=nd E _ _ h1
  refine ⟨π,uj hr (by rw [Qw,g1]) (by rw [Wq,g2]) λt=>?_⟩
  rw [hp]
  by_cases ht:t∈kQ ops E
  ·exact .inr ((Sf _ _ _).1 ht)
  ·exact .inl (((Sf _ _ _).2 ht).trans (g3 t ht))
theorem Yb (live:List Nat): ∀(i:Nat) (l:List AV),(Im live i l).length=l.length
 |_,[]=>rfl
 |i,v::r=>by simp [Im,Yb live (i+1) r]
theorem bF (live:List Nat): ∀(i:Nat) (l:List AV) (t:Nat),(Im live i l).getD t .undef= .undef\/(Im live i l).getD t .undef=l.getD t .undef
 |_,[],t=> .inr rfl
 |i,v::r,0=>by
  simp only [Im,Xv]
  split
  ·exact .inr rfl
  ·exact .inl rfl
 |i,v::r,t+1=>by
  simp only [Im,Nr]
  exact bF live (i+1) r t
theorem dk: ∀(l:List Nat) (st:St) (a:Act) (w:World),Rel X st a w->Rel X (bf l st) a w
 | [],_,_,_,h=>h
 |k::r,_,a,w,⟨_,h⟩=>dk r _ a w ⟨_,h.forget k⟩
theorem VF (dead:List Nat) {st:St} {a:Act} {w:World} (h:Rel X st a w):Rel X (st.Qq dead) a w:=by
 obtain ⟨π,h⟩:=h
 unfold St.Qq
 refine dk _ _ a w ⟨π,h.1,⟨by simp [Yb,h.2.size],h.2.defers,λt=>?_⟩⟩
 show Bq X w π st.heap ((Im _ 0 st.tmps).getD t .undef) _
 rcases bF ((List.range st.tmps.length).filter λt=>!dead.contains t) 0 st.tmps t with e|e
 ·rw [e];trivial
 ·rw [e];exact h.2.tmps t
theorem qM (hT:Dz P T) (Pb:Kx P Γ) (hm:P.follows .mixedOrders=true) {Q:Exit->Act->World->Prop} {id:Nat} {draw:Bool} {st:St} {K:St->Prop} {a:Act} (h:Rel X st a w)
  (he:kL T Γ ops draw st K) (hQ: ∀st' a' w',K st'->Rel X st' a' w'->Q .normal a' w'):(Code.region id ops draw).wp P Q a w:=by
 rcases he with ⟨st',h1,h2⟩|⟨rfl,bP,ck,h1,h2⟩
 ·exact oT hT Pb hm h h1 λa' w' h'=>hQ st' a' w' h2 h'
 ·refine wp_mono (Q:= λe a w=>e= .normal/\Q .normal a w) ?_ λe a w h=>h.1▸h.2
  refine wp_region_any hm ?_
  have hrel:Rel X st a {w with drawn:=w.drawn+1} :=by
   obtain ⟨π,h⟩:=h
   exact ⟨π,h.quiet ⟨rfl,rfl,rfl,Ap _,λ_ _=>rfl⟩⟩
  have hlen:(Kt ops).length<=ops.size:=by
   have:=du (ops:=ops) (!jN false ops) (List.range ops.size) (Array.replicate ops.size false)
   rw [Nl] at this
   exact this
  have YM:(Array.replicate ops.size false).size=ops.size:=by simp
  have hmv:(Ei (Kt ops) (Array.replicate ops.size false)).size=ops.size:=by rw [Wm,YM]
  have:=cg hT (!jN false ops) (X:=X) (P:=P) (T:=T) (Γ:=Γ) (Q:= λe a w=>e= .normal/\Q .normal a w) (n:=ops.size-(Kt ops).length) (st1:=ck) (λc a w hq=>by cases hq.1) bP (List.range ops.size) (Array.replicate ops.size false) st a _ h1 hrel λa' w' h'=>by
   rcases h2 with h2|⟨E,st1,hE,hEn,hE1,hE2⟩
   ·exact lF hT Pb (λst' a' w' hk hr=>⟨rfl,hQ st' a' w' hk hr⟩) _ _ _ _ _ h2 h'
   ·exact wQ hT Pb (λc a w hq=>by cases hq.1) (λst' a' w' hk hr=>⟨rfl,hQ st' a' w' hk hr⟩) bP hE hEn hE1 hE2 hmv (aM _ _ _ q8) h'
  have e:(Jo (!jN false ops) ops (List.range ops.size) (Array.replicate ops.size false)).length+(ops.size-(Kt ops).length)=ops.size:=by
   have e2:(Jo (!jN false ops) ops (List.range ops.size) (Array.replicate ops.size false)).length=(Kt ops).length:=rfl
   omega
  rw [e] at this
  exact this
theorem NA (hT:Dz P T) (Pb:Kx P Γ) (hm:P.follows .mixedOrders=true) {Q:Exit->Act->World->Prop} {id:Nat} {draw:Bool} {st:St} {K:St->Prop} {a:Act} (h:Rel X st a w)
  (he:yr T Γ ops draw st K) (hQ: ∀st' a' w',K st'->Rel X st' a' w'->Q .normal a' w'):(Code.region id ops draw).wp P Q a w:=by
 rcases he with he|⟨dead,_,he⟩
 ·exact qM hT Pb hm h he hQ
 ·exact qM hT Pb hm h he λst' a' w' hk hr=>hQ _ a' w' hk (VF dead hr)
end
end Go.Proofs.Ytkkdpknjohcekaa
