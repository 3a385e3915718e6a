/-
  Part 25 of the proof that the statement FnExactSearchDepth holds.
-/
import Derived.Test.YtfolipnappekaaaGreatCSearchDepth23
namespace Go.Proofs.YtfolipnappekaaaGreat
open Go.RowKit
section
variable {P:Program} {T:Tab} {Γ:Env} {X:Ctx} {w w':World} {π:Pi} {ops:Array Oper} {hd tl:List Nat}
structure Zj (ops:Array Oper) (tl fl:List Nat) (Ah:Array Bool):Prop where
 size:Ah.size=ops.size
 done: ∀i,i∈fl->Ah.getD i false=true
 closed: ∀j oj,ops[j]?=some oj->Ah.getD j false=true-> ∀e∈oj.after,Region.binds .any e=true->Ah.getD e.on false=true
 tail: ∀t,t∈tl->Ah.getD t true=false
theorem Zj.set {fl:List Nat} {i:Nat} {Ah:Array Bool} (inv:Zj ops tl fl Ah) (hi:i∈Region.ready .any ops Ah) (iL:i∉tl):Zj ops tl fl (Ah.setIfInBounds i true):=by
 obtain ⟨_,oi,hoi,Ke⟩:=mem_ready.1 hi
 refine ⟨by simp [inv.size],λk hk=>getD_set_true (inv.done k hk),λj oj hj hl e he hb=>?_,λt ht=>by
  have Ik:i≠t:= λe=>iL (by rw [e];exact ht)
  rw [getD_set_ne true Ik];exact inv.tail t ht⟩
 by_cases iK:i=j
 ·subst iK
  have:oj=oi:=Ba (hj.symm.trans hoi)
  subst this
  exact getD_set_true (Ke e he hb)
 ·rw [getD_set_ne false iK] at hl
  exact getD_set_true (inv.closed j oj hj hl e he hb)
theorem LM (k:Nat) (r:List Nat) (h:(r.all λt=>(k::r).any λk=>Region.waitsFor .any ops t k)=true): ∀t,t∈r-> ∃k',(k'=k\/k'∈r)/\Region.waitsFor .any ops t k'=true:= λt ht=>by
 obtain ⟨k',h1,h2⟩:=Kj.1 (Bd.1 h t ht)
 exact ⟨k',Be.1 h1,h2⟩
theorem JF {fl:List Nat} {Ah:Array Bool} (hs:v7 ops hd tl=true) (inv:Zj ops tl fl Ah) (aG: ∀i,i∈hd->i<ops.size):
  ∀(d i:Nat),ops.size-i=d->i∈hd->Ah.getD i true=false-> ∀t,t∈tl->t∉Region.ready .any ops Ah:=by
 cases tl with
 |nil=>intro d i _ _ _ t ht;cases ht
 |cons f r=>
  simp only [v7,Af] at hs
  obtain ⟨eW,mH⟩:=hs
  intro d
  induction d using Nat.strongRecOn with
  |_ d ih=>
   intro i YZ hi oQ t ht hr
   obtain ⟨_,ot,hot,Ke⟩:=mem_ready.1 hr
   rcases Be.1 ht with rfl|nC
   ·have h1:=Bd.1 eW i hi
    obtain ⟨j,hj,hj2⟩:=Kj.1 h1
    simp only [Af,Nf] at hj2
    obtain ⟨oj,hoj,e,he,hb,hon⟩:=Region.waitsFor_spec hj2.2
    rcases Be.1 hj with rfl|hjh
    ·have:oj=ot:=Ba (hoj.symm.trans hot)
     subst this
     have h2:=Ke e he hb
     rw [hon,getD_both oQ] at h2
     cases h2
    ·cases hl:Ah.getD j false with
     |true=>
      have h2:=inv.closed j oj hoj hl e he hb
      rw [hon,getD_both oQ] at h2
      cases h2
     |false=>
      have hjs:j<Ah.size:=by rw [inv.size];exact aG j hjh
      have:=aG j hjh
      exact ih (ops.size-j) (by omega) j rfl hjh (getD_in hjs hl) t (by simp) hr
   ·obtain ⟨k',h1,h2⟩:=LM f r mH t nC
    obtain ⟨o',ho',e,he,hb,hon⟩:=Region.waitsFor_spec h2
    have:o'=ot:=Ba (ho'.symm.trans hot)
    subst this
    have h3:=Ke e he hb
    have hk:k'∈f::r:=by rcases h1 with rfl|h1<;>simp [*]
    rw [hon,getD_both (inv.tail k' hk)] at h3
    cases h3
def XT (T:Tab) (Γ:Env) (ops:Array Oper) (hd:List Nat) (L:Array Bool->St->Prop):Nat->Array Bool->St->Prop
 |0,Ah,st=>L Ah st
 |f+1,Ah,st=>
  Region.ready .any ops Ah≠ []/\ ∀i∈Region.ready .any ops Ah,i∈hd/\ ∃o v,ops[i]?=some o/\Xd T Γ ops st o=some v/\XT T Γ ops hd L f (Ah.setIfInBounds i true) (st.put o.dst v)
theorem DF (hT:Dz P T) (Pg:Ki P Γ) {Q:Exit->Act->World->Prop} {K:Act->World->Prop} {st:St} {a:Act} (h:Rel X st a w) {i:Nat} {o:Oper} {v:AV} (ho:ops[i]?=some o) (hv:Xd T Γ ops st o=some v)
  (hK: ∀a' w',Rel X (st.put o.dst v) a' w'->K a' w'):wpOp P ops Q i K a w:=by
 obtain ⟨π,h⟩:=h
 have run:Xg T Γ st o=some v->o.wp P a w K Q:= λhe=>rz (X:=X) (st':=st) (av:=v) (EO hT Pg h o v he) hK
 have skip:v= .at .skip->K (a.put o.dst undef) w:= λe=>by subst e;exact hK _ _ ⟨π,h.put o.dst II⟩
 unfold wpOp
 simp only [ho]
 unfold Xd at hv
 split at hv
 ·rename_i hg
  rw [Ab (by simp [Region.wanted,hg])]
  exact .inl (run hv)
 ·rename_i j want hg
  split at hv
  ·rename_i b hb
   have hy:=(eO h j).1 b hb
   split at hv
   ·rename_i YY
    rw [Ab (by simp only [Region.wanted,hg,hy];simpa using YY)]
    exact .inl (run hv)
   ·rename_i YY
    rw [Ag (by simp only [Region.wanted,hg,hy];simpa using YY)]
    simp only [Aa] at hv
    exact skip hv.symm
  ·rename_i hb
   have hy:=(eO h j).2 hb
   rw [Ag (by simp [Region.wanted,hg,hy])]
   simp only [Aa] at hv
   exact skip hv.symm
  ·cases hv
theorem lG (hT:Dz P T) (Pg:Ki P Γ) {g:Nat} {L:Array Bool->St->Prop} {Q:Exit->Act->World->Prop} (hL: ∀Ah st a w,L Ah st->Rel X st a w->wpAny P .any ops Q g Ah a w):
  ∀(f:Nat) (Ah:Array Bool) (st:St) (a:Act) (w:World),XT T Γ ops hd L f Ah st->Rel X st a w->wpAny P .any ops Q (f+g) Ah a w
 |0,Ah,st,a,w,h,hr=>by rw [Bv];exact hL _ _ _ _ h hr
 |f+1,Ah,st,a,w,h,hr=>by
  rw [show f+1+g=(f+g)+1 by omega]
  refine ⟨λh0=>absurd h0 h.1,λi hi=>?_⟩
  obtain ⟨_,o,v,ho,hv,gh⟩:=h.2 i hi
  exact DF hT Pg hr ho hv λa' w' h'=>lG hT Pg hL f _ _ _ _ gh h'
theorem KQ {fl:List Nat} {i:Nat} {oi:Oper} {v:AV} {L:Array Bool->St->Prop} (hi:ops[i]?=some oi) (hs:v7 ops hd tl=true) (aG: ∀i,i∈hd->i<ops.size) (iL:i∈hd)
  (Ke: ∀j,j<ops.size->j∈fl\/j∈hd\/j∈tl) (FI: ∀j,j∈hd->j∉tl) (Amo: ∀Ah st,L Ah st-> ∀j∈Region.ready .any ops Ah,j∈tl):
  ∀(f:Nat) (Ah:Array Bool) (st:St),Zj ops tl fl Ah->
   (∀j oj,ops[j]?=some oj->j≠i->Ah.getD j true=false->(∀e∈oj.after,Region.binds .any e=true->e.on≠i)->oi.apart ops oj=true)->
   i∈Region.ready .any ops Ah->Xd T Γ ops st oi=some v->
   XT T Γ ops hd L f (Ah.setIfInBounds i true) (st.put oi.dst v)->XT T Γ ops hd L (f+1) Ah st:=by
 intro f
 have Aob: ∀Ah,Zj ops tl fl Ah->i∈Region.ready .any ops Ah-> ∀j,j∈Region.ready .any ops Ah->j∈hd:=by
  intro Ah inv hr j hj
  obtain ⟨oQ,oj,hoj,_⟩:=mem_ready.1 hj
  rcases Ke j (Nb.1 hoj).1 with h|h|h
  ·have h1:=inv.done j h
   rw [getD_both oQ] at h1;cases h1
  ·exact h
  ·exact absurd hj (JF hs inv aG _ i rfl iL (mem_ready.1 hr).1 j h)
 induction f with
 |zero=>
  intro Ah st inv _ hr hv Hh
  refine ⟨λh=>(by rw [h] at hr;cases hr),λj hj=>?_⟩
  have hjh:=Aob Ah inv hr j hj
  refine ⟨hjh,?_⟩
  by_cases wu:j=i
  ·subst wu;exact ⟨oi,v,hi,hv,Hh⟩
  ·exact absurd (Amo _ _ Hh j (ready_mono hj wu)) (FI j hjh)
 |succ f ih=>
  intro Ah st inv nw hr hv Hh
  have oQ:=(mem_ready.1 hr).1
  refine ⟨λh=>(by rw [h] at hr;cases hr),λj hj=>?_⟩
  have hjh:=Aob Ah inv hr j hj
  refine ⟨hjh,?_⟩
  by_cases wu:j=i
  ·subst wu;exact ⟨oi,v,hi,hv,Hh⟩
  ·obtain ⟨_,oj,vj,hoj,hvj,gh⟩:=Hh.2 j (ready_mono hj wu)
   obtain ⟨Amx,oj',Asy,Amg⟩:=mem_ready.1 hj
   have:oj'=oj:=Ba (Asy.symm.trans hoj)
   subst this
   have tZ: ∀e∈oj'.after,Region.binds .any e=true->e.on≠i:= λe he hb heq=>by
    have h1:=Amg e he hb
    rw [heq,getD_both oQ] at h1
    cases h1
   obtain ⟨p1,p2,p3⟩:=Oper.apart_spec (nw j oj' hoj wu Amx tZ)
   rw [JL p1] at hvj
   refine ⟨oj',vj,hoj,hvj,?_⟩
   have Aih: ∀k ok,ops[k]?=some ok->k≠i->(Ah.setIfInBounds j true).getD k true=false->
     (∀e∈ok.after,Region.binds .any e=true->e.on≠i)->oi.apart ops ok=true:= λk ok hk hki Anz hno=>by
    refine nw k ok hk hki ?_ hno
    by_cases hjk:j=k
    ·subst hjk;exact Amx
    ·rw [getD_set_ne true hjk] at Anz;exact Anz
   refine ih (Ah.setIfInBounds j true) (st.put oj'.dst vj) (inv.set hj (FI j hjh)) Aih (ready_mono hr (Ge wu)) (by rw [JL p3];exact hv) ?_
   rw [Array.setIfInBounds_comm _ _ wu,<-St.put_comm st v vj p2]
   exact gh
theorem r9: ∀(l:List Nat) (Ah:Array Bool),o9 ops l Ah=true-> ∀j∈Region.ready .any ops Ah,j∈l
 | [],Ah,h,j,hj=>by simp only [o9,List.isEmpty_iff] at h;rw [h] at hj;cases hj
 |k::r,Ah,h,j,hj=>by
  simp only [o9,Af,Ka,Nf] at h
  rcases h.1 with h1|h1
  ·rw [h1] at hj
   simp at hj
   simp [hj]
  ·by_cases e:j=k
   ·simp [e]
   ·exact As _ (r9 r _ h.2 j (ready_mono hj e))
theorem DJ {fl:List Nat} (bO:Region.noSelect ops=true) (hs:v7 ops hd tl=true) (aG: ∀i,i∈hd->i<ops.size) (Ke: ∀j,j<ops.size->j∈fl\/j∈hd\/j∈tl) (FI: ∀j,j∈hd->j∉tl) (st':St):
  ∀(l:List Nat) (Ah:Array Bool) (st:St),(∀i,i∈l->i∈hd)->Zj ops tl fl Ah->pn ops tl l Ah=true->Fz T Γ ops l st=some st'->
  XT T Γ ops hd (λzW s=>o9 ops tl zW=true/\s=st') l.length Ah st
 | [],Ah,st,_,_,hB,he=>by
  simp only [Fz,Aa] at he
  exact ⟨by simpa [pn] using hB,he⟩
 |k::l,Ah,st,hl,inv,hB,he=>by
  simp only [pn,Af] at hB
  obtain ⟨⟨hr,hf⟩,hB'⟩:=hB
  have hkh:=hl k (by simp)
  have eE:k∈Region.ready .any ops Ah:=by simpa using hr
  simp only [Fz] at he
  split at he
  ·cases he
  ·rename_i o ho
   split at he
   ·rename_i v hv
    exact KQ ho hs aG hkh Ke FI (λzW s hL=>r9 tl zW hL.1) l.length Ah st inv (Region.free_spec ho hf) eE hv
     (DJ bO hs aG Ke FI st' l _ _ (λi hi=>hl i (by simp [hi])) (inv.set eE (FI k hkh)) hB' he)
   ·cases he
theorem zw {Q:Exit->Act->World->Prop} (hQ: ∀e a w,Q e a w->e= .normal) {k i:Nat} {x:Operand} {o:Oper} (ho:ops[k]?=some o) (sB:o.op= .extract x i) (hg:o.guard=none) {K:Act->World->Prop} {a:Act} {w:World}
  (h:wpOp P ops Q k K a w): ∃v,Yields P ops o v a/\K (a.put o.dst v) w:=by
 unfold wpOp at h
 simp only [ho] at h
 have hw:Region.wanted o (yielded ops a.tmps)=true:=by simp [Region.wanted,hg]
 rw [Ab hw] at h
 rcases h with h|⟨_,a',w',h⟩
 ·unfold Oper.wp at h
  have hr: ∀w,(execOp a.eval o).run P w=(do pure (Next.value (<-Instr.extract (a.eval x) i))).run P w:= λw=>by unfold execOp;rw [sB]
  rw [hr] at h
  unfold Instr.extract at h hr
  split at h
  ·rename_i vs hx
   split at h
   ·rename_i v hv
    rw [hx] at hr
    simp only [hv] at hr
    exact ⟨v, .inl ⟨hw,λw=>(hr w).trans rfl⟩,h⟩
   ·exact h.elim
  ·exact h.elim
 ·cases hQ _ _ _ h
theorem dz {Q:Exit->Act->World->Prop} (hQ: ∀e a w,Q e a w->e= .normal) (bO:Region.noSelect ops=true): ∀(l:List Nat) (Ah:Array Bool) (a:Act) (w:World),o9 ops l Ah=true->wpOps P ops Q l a w->wpAny P .any ops Q l.length Ah a w
 | [],Ah,a,w,hB,h=>⟨by simpa [o9] using hB,h⟩
 |k::r,Ah,a,w,hB,h=>by
  simp only [o9,Af,Ka,Nf] at hB
  rw [wpOps_cons] at h
  rcases hB.1 with h0|⟨h1,h2,h3⟩
  ·refine ⟨λh1=>(by rw [h0] at h1;cases h1),λi hi=>?_⟩
   rw [h0] at hi
   have hik:i=k:=by simpa using hi
   subst hik
   exact wpOp_mono (λa' w' h'=>dz hQ bO r _ a' w' hB.2 h') h
  ·unfold Aaa at h1
   split at h1
   ·rename_i o ho
    split at h1
    ·rename_i x i sB hg
     obtain ⟨v,hy,hk⟩:=zw hQ ho sB hg h
     exact wpAny_take ho bO h3 h2 (λc a w hq=>by cases hQ _ _ _ hq) hy (dz hQ bO r _ _ w hB.2 hk)
    ·cases h1
   ·cases h1
theorem nq {P:Program} {o:Oper} {t:Tmp} {a:Act} (h:o.op= .move (.tmp t)) (hg:o.guard=none):Yields P ops o (a.tmps.getD t undef) a:=by
 refine .inl ⟨by simp [Region.wanted,hg],λw=>?_⟩
 unfold execOp
 rw [h]
 rfl
theorem zM {hd tl:List Nat} {i:Nat} (h:nE ops hd tl i=true): ∃o t,ops[i]?=some o/\o.op= .move (.tmp t)/\o.guard=none:=by
 unfold nE at h
 split at h
 ·rename_i o ho
  simp only [Af] at h
  have h1:=h.1
  split at h1
  ·rename_i t h2 h3
   exact ⟨o,t,ho,h2,h3⟩
  ·cases h1
 ·cases h
theorem gG {q:Bool} {hd:List Nat} {Q:Exit->Act->World->Prop} (hQ: ∀c a w,¬Q (.panic c) a w) (bO:Region.noSelect ops=true) {n:Nat} {st1:St}
  (gh: ∀Ah st a w,(∀j oj,ops[j]?=some oj->Ah.getD j false=true-> ∀e∈oj.after,Region.binds .any e=true->Ah.getD e.on false=true)->Ah.size=ops.size->pn ops tl hd Ah=true->st=st1->Rel X st a w->
   (∀j,Ah.getD j false=true↔j∈Wa q Γ ops)->wpAny P .any ops Q n Ah a w):
  ∀(l dn:List Nat) (Ah:Array Bool) (st:St) (a:Act) (w:World),(∀j,j∈Wa q Γ ops↔j∈dn\/j∈l)->(∀i,i∈l-> ∃o t,ops[i]?=some o/\o.op= .move (.tmp t)/\o.guard=none)->
   (∀j oj,ops[j]?=some oj->Ah.getD j false=true-> ∀e∈oj.after,Region.binds .any e=true->Ah.getD e.on false=true)->Ah.size=ops.size->(∀j,Ah.getD j false=true↔j∈dn)->
   np ops tl hd l Ah=true->Fz T Γ ops l st=some st1->Rel X st a w->wpAny P .any ops Q (l.length+n) Ah a w
 | [],dn,Ah,st,a,w,hm,_,hc,aG,hdn,hf,he,hr=>by
  simp only [Fz,Aa] at he
  rw [Gc,Bv]
  exact gh Ah st a w hc aG (by simpa [np] using hf) he hr λj=>by rw [hdn j,hm j];simp
 |k::l,dn,Ah,st,a,w,hm,hl,hc,aG,hdn,hf,he,hr=>by
  simp only [np,Af] at hf
  obtain ⟨⟨h1,h2⟩,h3⟩:=hf
  obtain ⟨o,t,ho,sB,hg⟩:=hl k (by simp)
  have wx:k∈Region.ready .any ops Ah:=by simpa using h1
  obtain ⟨_,o',ho',Ke⟩:=mem_ready.1 wx
  have ho2:o'=o:=Ba (ho'.symm.trans ho)
  subst ho2
  have hks:k<Ah.size:=by rw [aG];exact (Nb.1 ho).1
  simp only [Fz,ho] at he
  have hv:Xd T Γ ops st o'=some (st.get t):=by simp only [Xd,hg,Xg,Ey,sB];rfl
  rw [hv] at he
  rw [Az,show l.length+1+n=(l.length+n)+1 by omega]
  refine wpAny_take ho bO h2 h1 (λc a w hq=>absurd hq (hQ c _ w)) (nq sB hg) ?_
  obtain ⟨π,hr⟩:=hr
  refine gG hQ bO gh l (k::dn) _ _ _ _ (λj=>by rw [hm j,Be,Be];exact ⟨λh=>h.elim (λh=> .inl (.inr h)) (λh=>h.elim (λh=> .inl (.inl h)) .inr),λh=>h.elim (λh=>h.elim (λh=> .inr (.inl h)) .inl) (λh=> .inr (.inr h))⟩) (λi hi=>hl i (by simp [hi])) ?_ (by simp [aG]) (λj=>?_) h3 he ⟨π,hr.put o'.dst (hr.2.tmps t)⟩
  ·intro j oj hj XQ e hem hb
   by_cases XP:k=j
   ·subst XP
    have:oj=o':=Ba (hj.symm.trans ho)
    subst this
    exact getD_set_true (Ke e hem hb)
   ·rw [getD_set_ne false XP] at XQ
    exact getD_set_true (hc j oj hj XQ e hem hb)
  ·by_cases XP:k=j
   ·subst XP
    refine ⟨λ_=>by simp,λ_=>?_⟩
    simp [hks]
   ·rw [getD_set_ne false XP,hdn j]
    simp [Ge XP]
theorem gf {ops:Array Oper} : ∀(a b:List Nat) (st st':St),Fz T Γ ops (a++b) st=some st'-> ∃s,Fz T Γ ops a st=some s/\Fz T Γ ops b s=some st'
 | [],b,st,st',h=>⟨st,rfl,h⟩
 |i::a,b,st,st',h=>by
  simp only [Ma,Fz] at h⊢
  split at h
  ·cases h
  ·split at h
   ·exact gf a b _ st' h
   ·cases h
theorem pc (hT:Dz P T) (Pg:Ki P Γ) (hm:P.follows .mixedOrders=true) {Q:Exit->Act->World->Prop} {id:Nat} {draw:Bool} {st st':St} {a:Act} (h:Rel X st a w)
  (he:Rj T Γ ops draw st=some st') (hQ: ∀a' w',Rel X st' a' w'->Q .normal a' w'):(Code.region id ops draw).wp P Q a w:=by
 unfold Rj at he
 cases draw with
 |false=>
  rw [Ag (by simp)] at he
  exact wp_region_list (kX hT Pg ops.toList st st' a w h he hQ)
 |true=>
  rw [Ab rfl] at he
  have go: ∀(q:Bool),kd q Γ ops=true->(match Fz T Γ ops (jR q Γ ops) st with
    |some st'=>Ms T Γ ops (Jj q Γ ops) st'
    |none=>none)=some st'->(Code.region id ops true).wp P Q a w:=by
   intro q iM he
   split at he
   ·rename_i st1 h1
    simp only [kd,Af,Ww] at iM
    obtain ⟨⟨⟨bO,hlen⟩,Aif⟩,Anr⟩:=iM
    refine wp_mono (Q:= λe a w=>e= .normal/\Q .normal a w) ?_ λe a w h=>h.1▸h.2
    refine wp_region_any hm ?_
    have hrel:Rel X st a {w with drawn:=w.drawn+1} :=by
     obtain ⟨π,h⟩:=h
     exact ⟨π,h.quiet ⟨rfl,rfl,rfl,Ao _,λ_ _=>rfl⟩⟩
    obtain ⟨s0,h0,h1⟩:=gf _ _ _ _ h1
    have iL: ∀i,i∈cJ q Γ ops->i<ops.size:= λi hi=>Gg.1 (Cm.1 hi).1
    have aG: ∀i,i∈Wc q Γ ops->i<ops.size:= λi hi=>iL i (Cm.1 hi).1
    have Ke: ∀j,j<ops.size->j∈Wa q Γ ops\/j∈Wc q Γ ops\/j∈Jj q Γ ops:= λj hj=>by
     by_cases ht:j∈Jj q Γ ops
     ·exact .inr (.inr ht)
     ·have hh:j∈cJ q Γ ops:=Cm.2 ⟨Gg.2 hj,by simpa using ht⟩
      cases XM:nE ops (cJ q Γ ops) (Jj q Γ ops) j with
      |true=>exact .inl (Cm.2 ⟨hh,XM⟩)
      |false=>exact .inr (.inl (Cm.2 ⟨hh,by rw [XM];rfl⟩))
    have Agg: ∀j,j∈cJ q Γ ops->j∉Jj q Γ ops:= λj hj=>by
     have:=(Cm.1 hj).2
     simpa using this
    have FI: ∀j,j∈Wc q Γ ops->j∉Jj q Γ ops:= λj hj=>Agg j (Cm.1 hj).1
    have Amm: ∀j,j∈Wa q Γ ops->j∉Jj q Γ ops:= λj hj=>Agg j (Cm.1 hj).1
    have htl: ∀t,t∈Jj q Γ ops->t<ops.size:=by
     intro t ht
     unfold Jj at ht
     have: ∀(l:List Nat) (acc:List Nat),(∀i,i∈acc->i<ops.size)->(∀i,i∈l->i<ops.size)-> ∀i,i∈l.foldl (init:=acc) (λacc i=>match ops[i]? with
       |some o=>if Aaj q Γ o||o.after.any (λe=>Region.binds .any e&&acc.contains e.on) then acc++ [i] else acc
       |none=>acc)->i<ops.size:=by
      intro l
      induction l with
      |nil=>intro acc h1 _ i hi;exact h1 i hi
      |cons x l ih=>
       intro acc h1 h2 i hi
       simp only [Ih] at hi
       refine ih _ ?_ (λi hi=>h2 i (by simp [hi])) i hi
       intro k hk
       split at hk
       ·split at hk
        ·rcases Bb.1 hk with hk|hk
         ·exact h1 k hk
         ·simp at hk;rw [hk];exact h2 x (by simp)
        ·exact h1 k hk
       ·exact h1 k hk
     exact this (List.range ops.size) [] (by simp) (λi hi=>Gg.1 hi) t ht
    rw [<-hlen]
    refine gG (q:=q) (X:=X) (T:=T) (Γ:=Γ) (tl:=Jj q Γ ops) (hd:=Wc q Γ ops) (st1:=s0) (λc a w hq=>by cases hq.1) bO ?_ (Wa q Γ ops) [] _ st a _ (λj=>by simp)
     (λi hi=>zM (Cm.1 hi).2) (λj oj _ hl=>(by rw [hlen,getD_replicate_false] at hl;cases hl)) (by simp [hlen]) (λj=>by rw [hlen,getD_replicate_false];simp) (by rw [hlen];exact Aif) h0 hrel
    intro Ah s a' w' hc qG Amw hs hr XM
    subst hs
    have Atx:Zj ops (Jj q Γ ops) (Wa q Γ ops) Ah:=
     ⟨qG,λi hi=>(XM i).2 hi,hc,λt ht=>getD_in (by rw [qG];exact htl t ht) (by
      cases hg:Ah.getD t false with
      |false=>rfl
      |true=>exact absurd ht (Amm t ((XM t).1 hg)))⟩
    have HA:=DJ (T:=T) (Γ:=Γ) bO Anr aG Ke FI st1 (Wc q Γ ops) _ s (λi hi=>hi) Atx Amw h1
    exact lG (X:=X) (P:=P) (Q:= λe a w=>e= .normal/\Q .normal a w) (g:=(Jj q Γ ops).length) hT Pg (λAh s a' w' hL hr=>by
     obtain ⟨Atb,rfl⟩:=hL
     exact dz (λe a w h=>h.1) bO (Jj q Γ ops) Ah a' w' Atb (kT hT Pg _ _ st' a' w' hr he λa w h=>⟨rfl,hQ a w h⟩)) _ _ _ _ _ HA hr
   ·cases he
  split at he
  ·rename_i iM;exact go false iM he
  ·split at he
   ·rename_i iM;exact go true iM he
   ·cases he
theorem dv (q:Bool): ∀(l:List Nat) (Ah:Array Bool),(Jh q ops l Ah).length<=l.length
 | [],_=>Ao _
 |i::r,Ah=>by
  simp only [Jh]
  split
  ·simp only [Az];have:=dv q r (Ah.setIfInBounds i true);omega
  ·simp only [Az];have:=dv q r Ah;omega
theorem HX (hT:Dz P T) {st:St} {a:Act} (h:Bl X π st a w) {i:Nat} {o:Oper} (ho:ops[i]?=some o) (hp:jY ops i=true) {v:AV} (hv:Xd T Γ ops st o=some v):
  ∃u,Yields P ops o u a/\Bu X w π st.heap v u:=by
 unfold jY at hp
 rw [ho] at hp
 simp only at hp
 obtain ⟨dst,op,ty,pos,af,gd⟩:=o
 split at hp
 ·rename_i t h3 h4
  simp only at h3 h4;subst h3;subst h4
  refine ⟨a.tmps.getD t undef,nq rfl rfl,?_⟩
  simp only [Xd,Xg,Ey,Aa] at hv
  subst hv
  exact h.2.tmps t
 ·rename_i x h3 h4
  simp only at h3 h4;subst h3;subst h4
  have e:=Du h.2 x
  have fin:(∃ad,a.eval x= .pointer (some ad))->Yields P ops ⟨dst, .nilCheck x,ty,pos,af,none⟩ (a.eval x) a:= λ⟨ad,hx⟩=>
   .inl ⟨by simp [Region.wanted],λw=>by simp [execOp,hx]⟩
  simp only [Xd,Xg,Ey] at hv
  split at hv
  ·rename_i fr τ y hx
   simp only [Aa] at hv;subst hv
   rw [hx] at e
   have e':=e
   obtain ⟨cs,hc,hv⟩:=e
   simp only [Cells] at hc
   obtain ⟨g,o,rfl,_⟩:=hc
   simp only [Ci,Ty.Aq,Dh,Tr,gY] at hv
   exact ⟨_,fin ⟨_,hv⟩,e'⟩
  ·rename_i fr τ y hx
   simp only [Aa] at hv;subst hv
   rw [hx] at e
   obtain ⟨cs,hc,hv⟩:=e
   simp only [Cells] at hc
   rcases hc with ⟨h0,_⟩|⟨y',g,o,h0,rfl,hr⟩
   ·cases h0
   simp only [Aa] at h0;subst h0
   simp only [Ci,Ty.Aq,Dh,Tr,gY] at hv
   exact ⟨_,fin ⟨_,hv⟩,[_],⟨g,o,rfl,hr⟩,by rw [hv];simp [Ci,Ty.Aq]⟩
  ·rename_i l i hx
   simp only [Aa] at hv;subst hv
   rw [hx] at e
   have e':=e
   obtain ⟨r,tid,vs,_,_,hv⟩:=e
   exact ⟨_,fin ⟨_,hv⟩,e'⟩
  ·rename_i l i hx
   simp only [Aa] at hv;subst hv
   rw [hx] at e
   have e':=e
   obtain ⟨r,b,sz,n,_,_,_,_,hv⟩:=e
   exact ⟨_,fin ⟨_,hv⟩,e'⟩
  ·cases hv
 ·rename_i s x f h3 h4
  simp only at h3 h4;subst h3;subst h4
  simp only [Xd,Xg,Ey] at hv
  obtain ⟨u,h1,h2⟩:=cC hT (st:=st) _ _ _ _ v (Du h.2 x) hv
  refine ⟨u, .inl ⟨by simp [Region.wanted],λw=>?_⟩,h2⟩
  have:=h1 w
  simp only [execOp,Sem.run_bind]
  first
   |(rw [this];rfl)
   |simp [this]
 ·cases hp
theorem AX {i:Nat} (h:zN ops i=true):jY ops i=true:=by
 unfold zN at h
 unfold jY
 split at h
 ·rename_i o ho
  split at h
  ·rename_i h1 h2
   simp only [h1,h2]
  ·cases h
 ·cases h
theorem cg (hT:Dz P T) (q:Bool) {Q:Exit->Act->World->Prop} (hQ: ∀c a w,¬Q (.panic c) a w) (bO:Region.noSelect ops=true) {n:Nat} {st1:St} :
  ∀(l:List Nat) (Ah:Array Bool) (st:St) (a:Act) (w:World),Fz T Γ ops (Jh q ops l Ah) st=some st1->Rel X st a w->
   (∀a w,Rel X st1 a w->wpAny P .any ops Q n (Fm (Jh q ops l Ah) Ah) a w)->wpAny P .any ops Q ((Jh q ops l Ah).length+n) Ah a w
 | [],Ah,st,a,w,he,hr,hK=>by
  simp only [Jh,Fz,Aa] at he
  subst he
  simp only [Jh,Gc,Bv]
  exact hK a w hr
 |k::l,Ah,st,a,w,he,hr,hK=>by
  simp only [Jh] at he hK⊢
  split
  ·rename_i hc
   rw [Ab hc] at he hK
   simp only [Af] at hc
   obtain ⟨h0,h1,h2⟩:=hc
   have hp:jY ops k=true:=by
    cases q with
    |true=>exact h0
    |false=>exact AX h0
   simp only [Fz] at he
   split at he
   ·cases he
   rename_i o ho
   split at he
   rotate_left
   ·cases he
   rename_i v hv
   obtain ⟨π,hr⟩:=hr
   obtain ⟨u,hy,hu⟩:=HX (Γ:=Γ) hT hr ho hp hv
   rw [Az,show (Jh q ops l (Ah.setIfInBounds k true)).length+1+n=((Jh q ops l (Ah.setIfInBounds k true)).length+n)+1 by omega]
   refine wpAny_take ho bO h2 h1 (λc a w hq=>absurd hq (hQ c _ w)) hy ?_
   exact cg hT q hQ bO l _ _ _ _ he ⟨π,hr.put o.dst hu⟩ hK
  ·rename_i hc
   rw [Ag hc] at he hK
   exact cg hT q hQ bO l Ah st a w he hr hK
theorem lH (hT:Dz P T) (Pg:Ki P Γ) {Q:Exit->Act->World->Prop} {K:St->Prop} (hK: ∀st a w,K st->Rel X st a w->Q .normal a w):
  ∀(f:Nat) (Ah:Array Bool) (st:St) (a:Act) (w:World),anyS T Γ ops K f Ah st->Rel X st a w->wpAny P .any ops Q f Ah a w
 |0,Ah,st,a,w,h,hr=>⟨h.1,hK _ _ _ h.2 hr⟩
 |f+1,Ah,st,a,w,h,hr=>by
  refine ⟨λh0=>absurd h0 h.1,λi hi=>?_⟩
  obtain ⟨o,st',ho,he,gh⟩:=h.2 i hi
  obtain ⟨π,hr⟩:=hr
  unfold wpOp
  simp only [ho]
  exact Vy hT Pg hr o he λa' w' h'=>lH hT Pg hK f _ _ _ _ gh h'
def Uc (ops:Array Oper) (Ah:Array Bool):Prop:= ∀k a,Ah.getD k false=true->Region.waitsFor .any ops k a=true->Ah.getD a false=true
theorem cO {Ah:Array Bool} {i a:Nat} (h:i∈Region.ready .any ops Ah) (hw:Region.waitsFor .any ops i a=true):Ah.getD a false=true:=by
 obtain ⟨_,o,ho,Ke⟩:=mem_ready.1 h
 obtain ⟨o',ho',e,he,hb,rfl⟩:=Region.waitsFor_spec hw
 rw [ho] at ho'
 cases ho'
 exact Ke e he hb
theorem Uc.set {Ah:Array Bool} (hc:Uc ops Ah) {i:Nat} (hi:i∈Region.ready .any ops Ah):Uc ops (Ah.setIfInBounds i true):= λk a hk hw=>by
 by_cases hik:i=k
 ·subst hik
  exact getD_set_true (cO hi hw)
 ·rw [getD_set_ne false hik] at hk
  exact getD_set_true (hc k a hk hw)
theorem qt:Uc ops (Array.replicate ops.size false):= λk a hk _=>by
 rw [getD_replicate_false] at hk
 cases hk
theorem aO (q:Bool): ∀(l:List Nat) (Ah:Array Bool),Uc ops Ah->Uc ops (Fm (Jh q ops l Ah) Ah)
 | [],Ah,h=>h
 |i::r,Ah,h=>by
  simp only [Jh]
  split
  ·rename_i hc
   rw [Af,Af] at hc
   have hi:i∈Region.ready .any ops Ah:=by simpa using hc.2.1
   exact aO q r _ (h.set hi)
  ·exact aO q r Ah h
theorem Wf: ∀(l:List Nat) (Ah:Array Bool),(Fm l Ah).size=Ah.size
 | [],_=>rfl
 |i::r,Ah=>by simp only [Fm];rw [Wf r];simp
theorem fb: ∀(l:List Nat) (Ah:Array Bool) (k:Nat),k∈l->k<Ah.size->(Fm l Ah).getD k false=true
 |i::r,Ah,k,h,hk=>by
  simp only [Fm]
  by_cases hr:k∈r
  ·exact fb r _ k hr (by simpa using hk)
  ·have:k=i:=(Be.1 h).resolve_right hr
   subst this
   have hs: ∀(l:List Nat) (A:Array Bool),A.getD k false=true->(Fm l A).getD k false=true:=by
    intro l
    induction l with
    |nil=>exact λA h=>h
    |cons j l ih=>exact λA h=>ih _ (getD_set_true h)
   exact hs r _ (by simp [hk])
theorem dq: ∀(l:List Nat) (Ah:Array Bool) (k:Nat),k∉l->(Fm l Ah).getD k false=Ah.getD k false
 | [],_,_,_=>rfl
 |i::r,Ah,k,h=>by
  simp only [Fm]
  rw [dq r _ k λhk=>h (As _ hk),getD_set_ne false (λe=>h (by rw [e];simp))]
def Lr (E:List Nat) (Ah:Array Bool):List Nat:=E.filter λr=>!Ah.getD r false
def di (ops:Array Oper) (r:Nat):Option Tmp:=(ops[r]?).bind (·.dst)
def kS (ops:Array Oper) (Q:List Nat):List Nat:=Q.filterMap (di ops)
def Rr (ops:Array Oper):List Nat->St->St
 | [],st=>st
 |r::Q,st=>(Rr ops Q st).put (di ops r) .undef
def SZ (ops:Array Oper):List Nat->Act->Act->Prop
 | [],a,a'=>a'=a
 |r::Q,a,a'=> ∃u,SZ ops Q (a.put (di ops r) u) a'
theorem Ace {H:List (Nat×OB)} {v:Value} :Bu X w π H .undef v:=trivial
theorem iI (s:St) (d:Option Tmp) (v:AV) (t:Nat):(d=some t->(s.put d v).get t=v\/(s.put d v).get t= .undef)/\(d≠some t->(s.put d v).get t=s.get t):=by
 cases d with
 |none=>exact ⟨λh=>(by cases h),λ_=>rfl⟩
 |some e=>
  have key:(s.put (some e) v).get t=if e=t/\t<s.tmps.length then v else s.get t:=Qo _ _ _ _ _
  refine ⟨λh=>?_,λh=>?_⟩
  ·cases h
   rw [key]
   by_cases hl:t<s.tmps.length
   ·rw [Ab ⟨rfl,hl⟩];exact .inl rfl
   ·rw [Ag (λh=>hl h.2)]
    exact .inr (by unfold St.get;rw [Ak,Fw (by omega)];rfl)
  ·rw [key,Ag]
   rintro ⟨rfl,_⟩
   exact h rfl
theorem ke (s:St) (d:Option Tmp) (v:AV):(s.put d v).heap=s.heap:=by cases d<;>rfl
theorem nY (s:St) (d:Option Tmp) (v:AV):(s.put d v).tmps.length=s.tmps.length:=by
 cases d with
 |none=>rfl
 |some d=>exact a6 _ _ _
theorem Qk: ∀(Q:List Nat) (st:St),(Rr ops Q st).heap=st.heap
 | [],_=>rfl
 |r::Q,st=>by simp only [Rr];rw [ke,Qk Q]
theorem Wi: ∀(Q:List Nat) (st:St),(Rr ops Q st).tmps.length=st.tmps.length
 | [],_=>rfl
 |r::Q,st=>by simp only [Rr];rw [nY,Wi Q]
theorem Lf {Q:List Nat} {t:Nat} :t∈kS ops Q↔ ∃r∈Q,di ops r=some t:=List.mem_filterMap
theorem Rt: ∀(Q:List Nat) (st:St) (t:Nat),(t∈kS ops Q->(Rr ops Q st).get t= .undef)/\(t∉kS ops Q->(Rr ops Q st).get t=st.get t)
 | [],st,t=>⟨λh=>by simp [kS] at h,λ_=>rfl⟩
 |r::Q,st,t=>by
  obtain ⟨h1,h2⟩:=Rt Q st t
  obtain ⟨g1,g2⟩:=iI (Rr ops Q st) (di ops r) .undef t
  simp only [Rr]
  by_cases hd:di ops r=some t
  ·refine ⟨λ_=>(g1 hd).elim id id,λh=>absurd (Lf.2 ⟨r,Iw ..,hd⟩) h⟩
  ·refine ⟨λh=>?_,λh=>?_⟩
   ·rw [g2 hd]
    obtain ⟨q,hq,he⟩:=Lf.1 h
    rcases Be.1 hq with rfl|hq
    ·exact absurd he hd
    ·exact h1 (Lf.2 ⟨q,hq,he⟩)
   ·rw [g2 hd]
    exact h2 λhm=>by
     obtain ⟨q,hq,he⟩:=Lf.1 hm
     exact h (Lf.2 ⟨q,As _ hq,he⟩)
theorem uN {st s:St} {a:Act} (h:Bl X π st a w) (hh:s.heap=st.heap) (hl:s.tmps.length=st.tmps.length) (hg: ∀t,s.get t=st.get t\/s.get t= .undef):Bl X π s a w:=by
 refine ⟨by rw [hh];exact h.1,⟨by rw [hl];exact h.2.size,h.2.defers,λt=>?_⟩⟩
 rw [hh]
 rcases hg t with e|e
 ·rw [e];exact h.2.tmps t
 ·rw [e];exact Ace
theorem JK {st s:St} {o:Oper} (hh:s.heap=st.heap) (hg: ∀t,t∈o.looksAt ops->s.get t=st.get t):Xd T Γ ops s o=Xd T Γ ops st o:=by
 obtain ⟨ts,H⟩:=s
 obtain ⟨ts',H'⟩:=st
 simp only at hh
 subst hh
 exact yX hg
theorem r6 (hT:Dz P T) (Pg:Ki P Γ) {st:St} {a:Act} (h:Bl X π st a w) {i:Nat} {o:Oper} (ho:ops[i]?=some o) (hp:jZ ops i=true) {v:AV} (hv:Xd T Γ ops st o=some v):
  ∃u,(∀(Q:Exit->Act->World->Prop) (K:Act->World->Prop),K (a.put o.dst u) w->wpOp P ops Q i K a w)/\Bu X w π st.heap v u:=by
 unfold jZ at hp
 rw [ho] at hp
 simp only at hp
 have hgd:o.guard=none:=by
  obtain ⟨dst,op,ty,pos,af,gd⟩:=o
  cases gd with
  |none=>rfl
  |some g=>split at hp<;>first|rfl|(rename_i h4;cases h4)|cases hp
 have hb:Xg T Γ st o=some v:=by
  unfold Xd at hv
  rw [hgd] at hv
  exact hv
 have hw:Region.wanted o (yielded ops a.tmps)=true:=by simp [Region.wanted,hgd]
 have fin: ∀s:Sem Value,execOp a.eval o=(do pure (.value (<-s)))->Ey T Γ st o=some v-> ∃u,(∀(Q:Exit->Act->World->Prop) (K:Act->World->Prop),K (a.put o.dst u) w->wpOp P ops Q i K a w)/\Bu X w π st.heap v u:=by
  intro s he hq
  have hg:=ix hT Pg h o v hq
  rw [he,Sem.run_bind] at hg
  cases hr:s.run P w with
  |ok u w'=>
   rw [hr] at hg
   obtain ⟨e,hu⟩:=(show w'=w/\Bu X w π st.heap v u from hg)
   subst e
   refine ⟨u,λQ K hK=>?_,hu⟩
   unfold wpOp
   simp only [ho]
   rw [Ab hw]
   refine .inl ?_
   unfold Oper.wp
   rw [he,Sem.run_bind,hr]
   exact hK
  |halt x w'=>rw [hr] at hg;exact hg.elim
 obtain ⟨dst,op,ty,pos,af,gd⟩:=o
 simp only at hgd
 subst hgd
 split at hp
 ·rename_i x h3 h4
  simp only at h3;subst h3
  exact fin (pure (a.eval x)) (by simp [execOp]) hb
 ·rename_i x h3 h4
  simp only at h3;subst h3
  exact fin _ rfl hb
 ·rename_i x h3 h4
  simp only at h3;subst h3
  exact fin _ rfl hb
 ·rename_i x h3 h4
  simp only at h3;subst h3
  exact fin _ rfl hb
 ·cases hp
theorem XH {j:Nat} {oi oj:Oper} {v:Value} (hj:ops[j]?=some oj) (hap:oi.apart ops oj=true) (hsj: ∀cs b,oj.op≠ .select cs b)
  {Q:Exit->Act->World->Prop} (hQ: ∀c a w,¬Q (.panic c) a w) {K:Act->World->Prop} {a:Act} {w:World} (h:wpOp P ops Q j K (a.put oi.dst v) w):
  wpOp P ops Q j (λa' w'=>K (a'.put oi.dst v) w') a w:=by
 obtain ⟨h1,h2,h3⟩:=Oper.apart_spec hap
 unfold wpOp at*
 simp only [hj] at*
 rw [wanted_put oj a oi.dst v h1] at h
 split
 ·rename_i hw
  simp only [hw,Ph] at h
  rcases h with h|⟨Agb,Amz⟩
  case inr=>exact .inr ⟨by unfold Oper.asks at*;rw [execOp_put oj hsj a oi.dst v h1] at Agb;exact Agb,Amz⟩
  refine .inl ?_
  unfold Oper.wp at*
  rw [execOp_put oj hsj a oi.dst v h1] at h
  generalize (execOp a.eval oj).run P w=r at*
  cases r with
  |ok n w'=>
   cases n<;>simp only [Oper.upon] at h⊢
   case value u=>rw [<-Act.put_comm a v u h2];exact h
   case skip=>rw [<-Act.put_comm a v undef h2];exact h
   case defer d=>
    rw [<-Act.put_comm _ v undef h2,<-Act.put_defers]
    exact h
   case enter f args=>
    refine Calls.mono h λe ry he=>?_
    cases e with
    |returned u=>show K ((a.put oj.dst u).put oi.dst v) ry;rw [<-Act.put_comm a v u h2];exact he
    |panicked c=>exact absurd he (hQ _ _ _)
    |outgrown=>exact he
   case row row args=>exact Rows.mono h λu ry he=>by rw [<-Act.put_comm a v u h2];exact he
  |halt x w'=>
   cases x<;>simp only [Oper.upon] at h⊢
   case panic u=>exact absurd h (hQ _ _ _)
 ·rename_i hw
  simp only [hw] at h
  rw [<-Act.put_comm a v undef h2];exact h
theorem yE: ∀ {Q:List Nat} {a a':Act},SZ ops Q a a'->a'.defers=a.defers/\a'.tmps.size=a.tmps.size/\ ∀t,t∉kS ops Q->a'.tmps.getD t undef=a.tmps.getD t undef
 | [],a,a',h=>by cases h;exact ⟨rfl,rfl,λ_ _=>rfl⟩
 |r::Q,a,a',⟨u,h⟩=>by
  obtain ⟨h1,h2,h3⟩:=yE h
  have hp:(a.put (di ops r) u).defers=a.defers/\(a.put (di ops r) u).tmps.size=a.tmps.size:=by cases di ops r<;>simp [Act.put]
  refine ⟨h1.trans hp.1,h2.trans hp.2,λt ht=>?_⟩
  have hn:di ops r≠some t:= λe=>ht (Lf.2 ⟨r,Iw ..,e⟩)
  rw [h3 t λhm=>ht (by obtain ⟨q,hq,he⟩:=Lf.1 hm;exact Lf.2 ⟨q,As _ hq,he⟩)]
  cases hd:di ops r with
  |none=>rfl
  |some d=>
   have Ik:d≠t:= λe=>hn (by rw [hd,e])
   simp [Act.put,Array.getElem?_setIfInBounds_ne Ik]
theorem Abd {Q:List Nat} {st:St} {a a':Act} (hp:SZ ops Q a a') (h:Bl X π st a' w):Bl X π (Rr ops Q st) a w:=by
 obtain ⟨h1,h2,h3⟩:=yE hp
 refine ⟨by rw [Qk];exact h.1,⟨by rw [Wi,<-h2];exact h.2.size,by rw [<-h1];exact h.2.defers,λt=>?_⟩⟩
 rw [Qk]
 by_cases ht:t∈kS ops Q
 ·rw [(Rt Q st t).1 ht];exact Ace
 ·rw [(Rt Q st t).2 ht,<-h3 t ht];exact h.2.tmps t
theorem z0 {j:Nat} {oj:Oper} (hj:ops[j]?=some oj) (hsj: ∀cs b,oj.op≠ .select cs b) {Q:Exit->Act->World->Prop} (hQ: ∀c a w,¬Q (.panic c) a w) {K:Act->World->Prop} :
  ∀(L:List Nat) (a a':Act) (w:World),(∀r∈L,∃o,ops[r]?=some o/\o.apart ops oj=true)->SZ ops L a a'->wpOp P ops Q j K a' w->wpOp P ops Q j (λa2 w2=> ∃a3,SZ ops L a2 a3/\K a3 w2) a w
 | [],a,a',w,_,hp,h=>by cases hp;exact wpOp_mono (λa2 w2 hk=>⟨a2,rfl,hk⟩) h
 |r::L,a,a',w,hap,⟨u,hp⟩,h=>by
  obtain ⟨o,ho,ha⟩:=hap r (Iw ..)
  have hd:di ops r=o.dst:=by unfold di;rw [ho];rfl
  rw [hd] at hp
  have ih:=z0 hj hsj hQ L _ a' w (λq hq=>hap q (As _ hq)) hp h
  exact wpOp_mono (λa2 w2 ⟨a3,h1,h2⟩=>⟨a3,⟨u,by rw [hd];exact h1⟩,h2⟩) (XH hj ha hsj hQ ih)
def KR (ops:Array Oper):List Nat->Prop
 | []=>True
 |r::L=>(∀q∈r::L,∀o d,ops[r]?=some o->di ops q=some d->d∉o.looksAt ops)/\(∀q∈L,∀d,di ops r=some d->di ops q≠some d)/\KR ops L
def xF (ops:Array Oper):List Nat->Prop
 | []=>True
 |r::L=>(∀q∈L,Region.waitsFor .any ops q r=true\/ ∀o d,ops[q]?=some o->di ops r=some d->d∉o.looksAt ops)/\xF ops L
theorem KR.filter {p:Nat->Bool} : ∀ {L:List Nat},KR ops L->KR ops (L.filter p)
 | [],_=>trivial
 |r::L,⟨h1,h2,h3⟩=>by
  rw [List.filter_cons]
  split
  ·exact ⟨λq hq=>h1 q (by rcases Be.1 hq with rfl|hq;exact Iw ..;exact As _ (Cm.1 hq).1),λq hq=>h2 q (Cm.1 hq).1,h3.filter⟩
  ·exact h3.filter
theorem xF.filter {p:Nat->Bool} : ∀ {L:List Nat},xF ops L->xF ops (L.filter p)
 | [],_=>trivial
 |r::L,⟨h1,h3⟩=>by
  rw [List.filter_cons]
  split
  ·exact ⟨λq hq=>h1 q (Cm.1 hq).1,h3.filter⟩
  ·exact h3.filter
theorem a8 {i j:Nat} {p:Oper->Oper->Bool} (h:qg ops i j p=true): ∃x y,ops[i]?=some x/\ops[j]?=some y/\p x y=true:=by
 unfold qg at h
 split at h
 ·rename_i x y h1 h2;exact ⟨x,y,h1,h2,h⟩
 ·cases h
theorem fN {x y:Oper} (h:oJ ops x y=true): ∀d,x.dst=some d->d∉y.looksAt ops:= λd hd=>by
 unfold oJ at h
 rw [hd] at h
 simpa using h
theorem EN {x y:Oper} (h:LU x y=true): ∀d,x.dst=some d->y.dst≠some d:= λd hd=>by
 unfold LU at h
 rw [hd] at h
 simpa using h
theorem cB {r:Nat} {o:Oper} (h:ops[r]?=some o):di ops r=o.dst:=by unfold di;rw [h];rfl
theorem qU: ∀ {E:List Nat},AS ops E=true->KR ops E/\xF ops E
 | [],_=>⟨trivial,trivial⟩
 |r::E,h=>by
  simp only [AS,Af,Bd] at h
  obtain ⟨⟨h1,h2⟩,h3⟩:=h
  obtain ⟨g1,g2⟩:=qU h3
  refine ⟨⟨λq hq o d ho hd=>?_,λq hq d hd=>?_,g1⟩,λq hq=>?_,g2⟩
  ·rcases Be.1 hq with rfl|hq
   ·obtain ⟨x,y,hx,hy,hp⟩:=a8 h1
    rw [ho] at hx hy;cases hx;cases hy
    rw [cB ho] at hd
    exact fN hp d hd
   ·obtain ⟨x,y,hx,hy,hp⟩:=a8 (h2 q hq).1
    rw [ho] at hx;cases hx
    rw [cB hy] at hd
    exact fN (Ho.1 hp).2 d hd
  ·obtain ⟨x,y,hx,hy,hp⟩:=a8 (h2 q hq).1
   rw [cB hx] at hd
   rw [cB hy]
   exact EN (Ho.1 hp).1 d hd
  ·have h4:=(h2 q hq).2
   rw [Ka] at h4
   rcases h4 with h4|h4
   ·exact .inl h4
   ·refine .inr λo d ho hd=>?_
    obtain ⟨x,y,hx,hy,hp⟩:=a8 h4
    rw [ho] at hy;cases hy
    rw [cB hx] at hd
    exact fN hp d hd
theorem Afz (hT:Dz P T) (Pg:Ki P Γ) {st:St} : ∀(L:List Nat) (a:Act),(∀r∈L,jZ ops r=true/\ ∃o v,ops[r]?=some o/\Xd T Γ ops st o=some v/\ ∀d,o.dst=some d->st.get d=v)->KR ops L->
  Bl X π (Rr ops L st) a w-> ∃a',SZ ops L a a'/\Bl X π st a' w
 | [],a,_,_,h=>⟨a,rfl,h⟩
 |r::L,a,hs,⟨f1,f2,f3⟩,h=>by
  obtain ⟨hr,o,v,ho,hv,hd⟩:=hs r (Iw ..)
  have hdo:=cB ho
  have FT:Xd T Γ ops (Rr ops (r::L) st) o=some v:=by
   rw [JK (st:=st) (Qk _ _) λt ht=>(Rt _ _ _).2 λhm=>by
    obtain ⟨q,hq,he⟩:=Lf.1 hm
    exact f1 q hq o t ho he ht]
   exact hv
  obtain ⟨u,_,hu⟩:=r6 hT Pg h ho hr FT
  have h2:=h.put o.dst hu
  have h3:Bl X π (Rr ops L st) (a.put o.dst u) w:=by
   refine uN h2 ?_ ?_ λt=>?_
   ·rw [ke,Qk,Qk]
   ·rw [nY,Wi,Wi]
   ·obtain ⟨g1,g2⟩:=iI (Rr ops (r::L) st) o.dst v t
    by_cases he:o.dst=some t
    ·have RP:t∉kS ops L:= λhm=>by
      obtain ⟨q,hq,ZS⟩:=Lf.1 hm
      exact f2 q hq t (by rw [hdo];exact he) ZS
     rw [(Rt L st t).2 RP,hd t he]
     rcases g1 he with g|g
     ·exact .inl g.symm
     ·by_cases hl:t<st.tmps.length
      ·refine .inl ?_
       rw [he]
       show v=((Sr (Rr ops (r::L) st).tmps t v).getD t .undef)
       rw [Qo,Ab ⟨rfl,by rw [Wi];exact hl⟩]
      ·refine .inr ?_
       rw [<-hd t he]
       unfold St.get
       rw [Ak,Fw (by omega)]
       rfl
    ·rw [g2 he]
     have:(Rr ops (r::L) st).get t=(Rr ops L st).get t:=(iI (Rr ops L st) (di ops r) .undef t).2 (by rw [hdo];exact he)
     exact .inl this.symm
  obtain ⟨a',hp,gM⟩:=Afz hT Pg L _ (λq hq=>hs q (As _ hq)) f3 h3
  exact ⟨a',⟨u,by rw [hdo];exact hp⟩,gM⟩
theorem YR: ∀ {L:List Nat},KR ops L->xF ops L-> ∀ {i:Nat} {o:Oper},i∈L->ops[i]?=some o->(∀q∈L,Region.waitsFor .any ops i q=true->False)-> ∀q∈L,∀d,di ops q=some d->d∉o.looksAt ops
 | [],_,_,i,_,hi,_,_=>by cases hi
 |r::L,⟨f1,f2,f3⟩,⟨b1,b2⟩,i,o,hi,ho,hw=> λq hq d hd=>by
  by_cases hir:i=r
  ·subst hir
   exact f1 q hq o d ho hd
  ·have nz:=(Be.1 hi).resolve_left hir
   rcases Be.1 hq with rfl|kH
   ·rcases b1 i nz with h|h
    ·exact (hw q hq h).elim
    ·exact h o d ho hd
   ·exact YR f3 b2 nz ho (λq hq=>hw q (As _ hq)) q kH d hd
theorem qx {Ah:Array Bool} (aG:Ah.size=ops.size): ∀ {E:List Nat} {L:Array Bool} {r:Nat} {Q:List Nat},jb ops E L=true->(∀j,L.getD j false=true->Ah.getD j false=true)->Lr E Ah=r::Q->r∈Region.ready .any ops Ah
 | [],_,_,_,_,_,h=>by simp [Lr] at h
 |e::E,L,r,Q,hr,hl,hp=>by
  simp only [jb,Af,Jk] at hr
  unfold Lr at hp
  rw [List.filter_cons] at hp
  by_cases he:Ah.getD e false=true
  ·rw [Ag (by rw [he];simp)] at hp
   refine qx aG hr.2 (λj hj=>?_) hp
   by_cases hej:e=j
   ·subst hej;exact he
   ·rw [getD_set_ne false hej] at hj;exact hl j hj
  ·have he:Ah.getD e false=false:=by simpa using he
   rw [Ab (by rw [he];rfl)] at hp
   injection hp with yc RS
   subst yc
   obtain ⟨_,o,ho,Ke⟩:=mem_ready.1 hr.1
   have It:e<Ah.size:=by rw [aG];exact (Nb.1 ho).1
   exact mem_ready.2 ⟨getD_in It he,o,ho,λx hx hb=>hl _ (Ke x hx hb)⟩
theorem eg {Ah:Array Bool} {j:Nat} (h:Ah.getD j true=false):j<Ah.size:=by
 rcases Nat.lt_or_ge j Ah.size with h'|h'
 ·exact h'
 ·simp [Array.getElem?_eq_none h'] at h
theorem xE (hT:Dz P T) (Pg:Ki P Γ) {Q:Exit->Act->World->Prop} (hQ: ∀c a w,¬Q (.panic c) a w) {K:St->Prop} (hK: ∀st a w,K st->Rel X st a w->Q .normal a w) (bO:Region.noSelect ops=true)
  {E:List Nat} {L0:Array Bool} (hE:kf ops E L0=true): ∀(n f:Nat) (Ah LA:Array Bool) (st:St) (a:Act) (w:World),n=f+(Lr E Ah).length->Ah.size=ops.size->LA.size=ops.size->
   (∀j,LA.getD j false=(Ah.getD j false||E.contains j))->Uc ops Ah->(∀j,L0.getD j false=true->Ah.getD j false=true)->wb T Γ ops E K f LA st->Rel X (Rr ops (Lr E Ah) st) a w->wpAny P .any ops Q n Ah a w:=by
 simp only [kf,Af,Bd] at hE
 obtain ⟨⟨hre,hry⟩,hpr,hap⟩:=hE
 obtain ⟨Amr,qC⟩:=qU hpr
 have key: ∀(n f:Nat) (Ah LA:Array Bool) (st:St) (a:Act) (w:World),n=f+(Lr E Ah).length->Ah.size=ops.size->LA.size=ops.size->
   (∀j,LA.getD j false=(Ah.getD j false||E.contains j))->Uc ops Ah->(∀j,L0.getD j false=true->Ah.getD j false=true)->wb T Γ ops E K f LA st->Rel X (Rr ops (Lr E Ah) st) a w->
   (∀j,j∈Region.ready .any ops Ah->j∉E->j∈Region.ready .any ops LA)/\(Region.ready .any ops Ah= []->Q .normal a w/\f=0/\Lr E Ah= []):=by
  intro n f Ah LA st a w hn eW mH hLA Pw hL0 tP hrel
  have h1: ∀j,j∈Region.ready .any ops Ah->j∉E->j∈Region.ready .any ops LA:= λj hj hjE=>by
   obtain ⟨oQ,o,ho,Ke⟩:=mem_ready.1 hj
   have It:=eg oQ
   refine mem_ready.2 ⟨getD_in (by omega) ?_,o,ho,λe he hb=>by rw [hLA,Ke e he hb];rfl⟩
   rw [hLA,getD_both oQ]
   simpa using hjE
  refine ⟨h1,λh0=>?_⟩
  cases hpe:Lr E Ah with
  |cons r L=>
   have:=qx eW hry hL0 hpe
   rw [h0] at this
   cases this
  |nil=>
   have Ke: ∀r,r∈E->Ah.getD r false=true:= λr hr=>by
    have:r∉Lr E Ah:=by rw [hpe];simp
    unfold Lr at this
    rw [Cm] at this
    by_cases hl:Ah.getD r false=true
    ·exact hl
    ·exact absurd ⟨hr,by simpa using hl⟩ this
   have hb: ∀j,j∈Region.ready .any ops LA->j∈Region.ready .any ops Ah:= λj hj=>by
    obtain ⟨oQ,o,ho,hw⟩:=mem_ready.1 hj
    have It:=eg oQ
    have he: ∀k,LA.getD k false=Ah.getD k false:= λk=>by
     rw [hLA]
     by_cases hk:k∈E
     ·rw [Ke k hk];rfl
     ·rw [show E.contains k=false by simpa using hk,gO]
    exact mem_ready.2 ⟨getD_in (by omega) (by rw [<-he];exact getD_both oQ),o,ho,λe hx hbd=>by rw [<-he];exact hw e hx hbd⟩
   cases f with
   |zero=>
    obtain ⟨_,_,hk⟩:=tP
    rw [hpe] at hrel
    exact ⟨hK _ _ _ hk hrel,rfl,rfl⟩
   |succ f=>
    obtain ⟨_,Ik,_⟩:=tP
    obtain ⟨j,hj⟩:=List.exists_mem_of_ne_nil _ Ik
    have:=hb j hj
    rw [h0] at this
    cases this
 intro n
 induction n with
 |zero=>
  intro f Ah LA st a w hn eW mH hLA Pw hL0 tP hrel
  obtain ⟨k1,k2⟩:=key 0 f Ah LA st a w hn eW mH hLA Pw hL0 tP hrel
  have hf:f=0:=by omega
  have hp:Lr E Ah= []:=List.length_eq_zero_iff.1 (by omega)
  subst hf
  obtain ⟨_,hr,_⟩:=tP
  have h0:Region.ready .any ops Ah= []:=List.eq_nil_iff_forall_not_mem.2 λj hj=>by
   by_cases hjE:j∈E
   ·have oQ:=getD_both (mem_ready.1 hj).1
    have:j∈Lr E Ah:=Cm.2 ⟨hjE,by rw [oQ];rfl⟩
    rw [hp] at this
    cases this
   ·have:=k1 j hj hjE
    rw [hr] at this
    cases this
  exact ⟨h0,(k2 h0).1⟩
 |succ n ih=>
  intro f Ah LA st a w hn eW mH hLA Pw hL0 tP hrel
  obtain ⟨k1,k2⟩:=key (n+1) f Ah LA st a w hn eW mH hLA Pw hL0 tP hrel
  have Tq:Abl T Γ ops E LA st:=by cases f<;>exact tP.1
  have ZM: ∀r∈Lr E Ah,r∈E/\Ah.getD r false=false:= λr hr=>by
   obtain ⟨h1,h2⟩:=Cm.1 hr
   exact ⟨h1,by simpa using h2⟩
  have Ah3: ∀r∈Lr E Ah,jZ ops r=true/\ ∃o v,ops[r]?=some o/\Xd T Γ ops st o=some v/\ ∀d,o.dst=some d->st.get d=v:= λr hr=>by
   obtain ⟨h1,h2⟩:=ZM r hr
   refine ⟨hre r h1,(Tq r h1).resolve_left λhw=>?_⟩
   unfold sM at hw
   obtain ⟨j,_,hj⟩:=Kj.1 hw
   simp only [Af,Ef] at hj
   obtain ⟨hj1,hj2,hj3⟩:=hj
   rw [hLA,hj1,gO] at hj2
   have:=Pw j r hj2 hj3
   rw [h2] at this
   cases this
  refine ⟨λh0=>(k2 h0).1,λi hi=>?_⟩
  obtain ⟨π,hrel⟩:=hrel
  have hiw: ∀q∈Lr E Ah,Region.waitsFor .any ops i q=true->False:= λq hq hw=>by
   have:=cO hi hw
   rw [(ZM q hq).2] at this
   cases this
  obtain ⟨oQ,oi,hoi,_⟩:=mem_ready.1 hi
  have It:=eg oQ
  by_cases hiE:i∈E
  ·have XO:i∈Lr E Ah:=Cm.2 ⟨hiE,by rw [getD_both oQ];rfl⟩
   obtain ⟨hrd,o,v,ho,hv,hd⟩:=Ah3 i XO
   have hnl:=YR (Amr.filter (p:= λr=>!Ah.getD r false)) (qC.filter (p:= λr=>!Ah.getD r false)) XO ho hiw
   have FT:Xd T Γ ops (Rr ops (Lr E Ah) st) o=some v:=by
    rw [JK (st:=st) (Qk _ _) λt ht=>(Rt _ _ _).2 λhm=>by
     obtain ⟨q,hq,he⟩:=Lf.1 hm
     exact hnl q hq t he ht]
    exact hv
   obtain ⟨u,hy,hu⟩:=r6 hT Pg hrel ho hrd FT
   refine hy Q _ ?_
   have hpe: ∀q,q∈Lr E (Ah.setIfInBounds i true)↔q∈Lr E Ah/\q≠i:= λq=>by
    unfold Lr
    rw [Cm,Cm]
    by_cases hqi:q=i
    ·subst hqi
     simp [It]
    ·rw [getD_set_ne false (Ge hqi)]
     exact ⟨λh=>⟨h,hqi⟩,λh=>h.1⟩
   have hlen:(Lr E Ah).length=(Lr E (Ah.setIfInBounds i true)).length+1:=by
    have RP: ∀(E:List Nat) (L:Array Bool),jb ops E L=true->E.Nodup/\ ∀r∈E,L.getD r true=false:=by
     intro E
     induction E with
     |nil=>exact λL _=>⟨Nc,λr hr=>by cases hr⟩
     |cons e E ihE=>
      intro L h
      simp only [jb,Af,Jk] at h
      obtain ⟨g1,g2⟩:=ihE _ h.2
      have he:=(mem_ready.1 h.1).1
      have l7:=eg he
      refine ⟨Cb.2 ⟨λhm=>?_,g1⟩,λr hr=>?_⟩
      ·have:=g2 e hm
       simp [l7] at this
      ·rcases Be.1 hr with rfl|hr
       ·exact he
       ·have Ik:e≠r:= λe'=>by subst e';have:=g2 e hr;simp [l7] at this
        have:=g2 r hr
        rw [getD_set_ne true Ik] at this
        exact this
    have hEn:=(RP E L0 hry).1
    have Atz: ∀L:List Nat,L.Nodup->i∈L->(L.filter λr=>!Ah.getD r false).length=(L.filter λr=>!(Ah.setIfInBounds i true).getD r false).length+1:=by
     intro L
     induction L with
     |nil=>exact λ_ h=>by cases h
     |cons x L ihL=>
      intro hn hm
      obtain ⟨hx,hn⟩:=Cb.1 hn
      rw [List.filter_cons,List.filter_cons]
      by_cases hxi:x=i
      ·subst hxi
       rw [Ab (by rw [getD_both oQ];rfl),Ag (by simp [It])]
       have:L.filter (λr=>!Ah.getD r false)=L.filter (λr=>!(Ah.setIfInBounds x true).getD r false):=List.filter_congr λq hq=>by
        rw [getD_set_ne false (λe=>hx (by rw [e];exact hq))]
       rw [Az,this]
      ·have hm:=(Be.1 hm).resolve_left (Ge hxi)
       rw [getD_set_ne false (Ge hxi)]
       split
       ·rw [Az,Az,ihL hn hm]
       ·exact ihL hn hm
    exact Atz E hEn hiE
   refine ih f (Ah.setIfInBounds i true) LA st _ w (by omega) (by simp [eW]) mH (λj=>?_) (Pw.set hi) (λj hj=>getD_set_true (hL0 j hj)) tP ⟨π,?_⟩
   ·rw [hLA]
    by_cases iK:i=j
    ·subst iK
     rw [show E.contains i=true by simpa using hiE,Bool.or_true,Bool.or_true]
    ·rw [getD_set_ne false iK]
   ·have h2:=hrel.put o.dst hu
    refine uN h2 ?_ ?_ λt=>?_
    ·rw [ke,Qk,Qk]
    ·rw [nY,Wi,Wi]
    ·have hdo:=cB ho
     by_cases hm:t∈kS ops (Lr E (Ah.setIfInBounds i true))
     ·exact .inr ((Rt _ _ _).1 hm)
     ·rw [(Rt _ _ _).2 hm]
      obtain ⟨g1,g2⟩:=iI (Rr ops (Lr E Ah) st) o.dst v t
      by_cases he:o.dst=some t
      ·rw [hd t he]
       rcases g1 he with g|g
       ·exact .inl g.symm
       ·by_cases hl:t<st.tmps.length
        ·refine .inl ?_
         rw [he]
         show v=((Sr (Rr ops (Lr E Ah) st).tmps t v).getD t .undef)
         rw [Qo,Ab ⟨rfl,by rw [Wi];exact hl⟩]
        ·refine .inr ?_
         rw [<-hd t he]
         unfold St.get
         rw [Ak,Fw (by omega)]
         rfl
      ·rw [g2 he]
       refine .inl ((Rt _ _ _).2 λhm2=>?_).symm
       obtain ⟨q,hq,ZS⟩:=Lf.1 hm2
       by_cases hqi:q=i
       ·subst hqi
        rw [hdo] at ZS
        exact he ZS
       ·exact hm (Lf.2 ⟨q,(hpe q).2 ⟨hq,hqi⟩,ZS⟩)
  ·cases f with
   |zero=>
    obtain ⟨_,hr,_⟩:=tP
    have:=k1 i hi hiE
    rw [hr] at this
    cases this
   |succ f=>
    obtain ⟨_,_,An4⟩:=tP
    obtain ⟨o,st',ho,he,gh⟩:=An4 i (k1 i hi hiE)
    obtain ⟨a',ZQ,Zq⟩:=Afz hT Pg (Lr E Ah) a Ah3 Amr.filter hrel
    have l9:wpOp P ops Q i (λa2 w2=>Rel X st' a2 w2) a' w:=by
     unfold wpOp
     simp only [ho]
     exact Vy hT Pg Zq o he λa2 w2 h2=>h2
    have FK:=z0 (Q:=Q) ho (λcs b=>Region.noSelect_spec bO i o cs b ho) hQ (Lr E Ah) a a' w (λr hr=>?_) ZQ l9
    ·refine wpOp_mono (λa2 w2 hk=>?_) FK
     obtain ⟨a3,hp3,π3,hr3⟩:=hk
     have hpe:Lr E (Ah.setIfInBounds i true)=Lr E Ah:=by
      unfold Lr
      refine List.filter_congr λq hq=>?_
      rw [getD_set_ne false (λe=>hiE (by rw [e];exact hq))]
     refine ih f (Ah.setIfInBounds i true) (LA.setIfInBounds i true) st' a2 w2 (by rw [hpe];omega) (by simp [eW]) (by simp [mH]) (λj=>?_) (Pw.set hi) (λj hj=>getD_set_true (hL0 j hj)) gh ⟨π3,by rw [hpe];exact Abd hp3 hr3⟩
     by_cases iK:i=j
     ·subst iK
      simp [It,eW▸It,mH]
     ·rw [getD_set_ne false iK,getD_set_ne false iK,hLA]
    ·obtain ⟨hrE,hrl⟩:=ZM r hr
     have h3:=Bd.1 (Bd.1 hap r hrE) i (Gg.2 (by omega))
     simp only [Ka] at h3
     rcases h3 with ((h3|h3)|h3)|h3
     ·exact absurd (by simpa using h3) hiE
     ·have:=hL0 i h3
      rw [getD_both oQ] at this
      cases this
     ·exact (hiw r hr h3).elim
     ·obtain ⟨x,y,hx,hy,hp⟩:=a8 h3
      rw [ho] at hy;cases hy
      exact ⟨x,hx,hp⟩
theorem nj: ∀(E:List Nat) (s0 s1:St),Fz T Γ ops E s0=some s1->s1.heap=s0.heap/\s1.tmps.length=s0.tmps.length/\ ∀t,t∉kS ops E->s1.get t=s0.get t
 | [],s0,s1,h=>by
  simp only [Fz,Aa] at h
  subst h
  exact ⟨rfl,rfl,λ_ _=>rfl⟩
 |r::E,s0,s1,h=>by
  simp only [Fz] at h
  split at h
  ·cases h
  rename_i o ho
  split at h
  rotate_left
  ·cases h
  rename_i v hv
  obtain ⟨h1,h2,h3⟩:=nj E _ _ h
  refine ⟨by rw [h1,ke],by rw [h2,nY],λt ht=>?_⟩
  rw [h3 t λhm=>ht (by obtain ⟨q,hq,he⟩:=Lf.1 hm;exact Lf.2 ⟨q,As _ hq,he⟩)]
  exact (iI s0 o.dst v t).2 λe=>ht (Lf.2 ⟨r,Iw ..,by rw [cB ho];exact e⟩)
theorem yz: ∀ {E:List Nat} {L0:Array Bool},jb ops E L0=true-> ∀r∈E,L0.getD r true=false
 | [],_,_,_,hr=>by cases hr
 |e::E,L0,h,r,hr=>by
  simp only [jb,Af,Jk] at h
  have he:=(mem_ready.1 h.1).1
  rcases Be.1 hr with rfl|hr
  ·exact he
  ·have h2:=yz h.2 r hr
   have Ik:e≠r:= λe'=>by subst e';simp [eg he] at h2
   rw [getD_set_ne true Ik] at h2
   exact h2
theorem xD (hT:Dz P T) (Pg:Ki P Γ) {Q:Exit->Act->World->Prop} (hQ: ∀c a w,¬Q (.panic c) a w) {K:St->Prop} (hK: ∀st a w,K st->Rel X st a w->Q .normal a w) (bO:Region.noSelect ops=true)
  {E:List Nat} {L0:Array Bool} (hE:kf ops E L0=true) {n:Nat} (hn:E.length<=n) {ck st1:St} (h1:Fz T Γ ops E ck=some st1) (h2:wb T Γ ops E K (n-E.length) (Fm E L0) st1)
  (aG:L0.size=ops.size) (Pw:Uc ops L0) {a:Act} {w:World} (hr:Rel X ck a w):wpAny P .any ops Q n L0 a w:=by
 have hE':=hE
 simp only [kf,Af] at hE'
 have oQ:=yz hE'.1.2
 have hp:Lr E L0=E:=List.filter_eq_self.2 λr hr=>by rw [getD_both (oQ r hr)];rfl
 refine xE hT Pg hQ hK bO hE n (n-E.length) L0 (Fm E L0) st1 a w (by rw [hp];omega) aG (by rw [Wf];exact aG) (λj=>?_) Pw (λj hj=>hj) h2 ?_
 ·by_cases hj:j∈E
  ·rw [fb E L0 j hj (eg (oQ j hj)),show E.contains j=true by simpa using hj,Bool.or_true]
  ·rw [dq E L0 j hj,show E.contains j=false by simpa using hj,gO]
 ·obtain ⟨π,hr⟩:=hr
  obtain ⟨g1,g2,g3⟩:=nj E _ _ h1
  refine ⟨π,uN hr (by rw [Qk,g1]) (by rw [Wi,g2]) λt=>?_⟩
  rw [hp]
  by_cases ht:t∈kS ops E
  ·exact .inr ((Rt _ _ _).1 ht)
  ·exact .inl (((Rt _ _ _).2 ht).trans (g3 t ht))
theorem OM (hT:Dz P T) (Pg:Ki P Γ) (hm:P.follows .mixedOrders=true) {Q:Exit->Act->World->Prop} {id:Nat} {draw:Bool} {st:St} {K:St->Prop} {a:Act} (h:Rel X st a w)
  (he:za T Γ ops draw st K) (hQ: ∀st' a' w',K st'->Rel X st' a' w'->Q .normal a' w'):(Code.region id ops draw).wp P Q a w:=by
 rcases he with ⟨st',h1,h2⟩|⟨rfl,bO,ck,h1,h2⟩
 ·exact pc hT Pg hm h h1 λa' w' h'=>hQ st' a' w' h2 h'
 ·refine wp_mono (Q:= λe a w=>e= .normal/\Q .normal a w) ?_ λe a w h=>h.1▸h.2
  refine wp_region_any hm ?_
  have hrel:Rel X st a {w with drawn:=w.drawn+1} :=by
   obtain ⟨π,h⟩:=h
   exact ⟨π,h.quiet ⟨rfl,rfl,rfl,Ao _,λ_ _=>rfl⟩⟩
  have hlen:(Na ops).length<=ops.size:=by
   have:=dv (ops:=ops) (!jN false ops) (List.range ops.size) (Array.replicate ops.size false)
   rw [List.length_range] at this
   exact this
  have ZL:(Array.replicate ops.size false).size=ops.size:=by simp
  have hmv:(Fm (Na ops) (Array.replicate ops.size false)).size=ops.size:=by rw [Wf,ZL]
  have:=cg hT (!jN false ops) (X:=X) (P:=P) (T:=T) (Γ:=Γ) (Q:= λe a w=>e= .normal/\Q .normal a w) (n:=ops.size-(Na ops).length) (st1:=ck) (λc a w hq=>by cases hq.1) bO (List.range ops.size) (Array.replicate ops.size false) st a _ h1 hrel λa' w' h'=>by
   rcases h2 with h2|⟨E,st1,hE,hEn,hE1,hE2⟩
   ·exact lH hT Pg (λst' a' w' hk hr=>⟨rfl,hQ st' a' w' hk hr⟩) _ _ _ _ _ h2 h'
   ·exact xD hT Pg (λc a w hq=>by cases hq.1) (λst' a' w' hk hr=>⟨rfl,hQ st' a' w' hk hr⟩) bO hE hEn hE1 hE2 hmv (aO _ _ _ qt) h'
  have e:(Jh (!jN false ops) ops (List.range ops.size) (Array.replicate ops.size false)).length+(ops.size-(Na ops).length)=ops.size:=by
   have e2:(Jh (!jN false ops) ops (List.range ops.size) (Array.replicate ops.size false)).length=(Na ops).length:=rfl
   omega
  rw [e] at this
  exact this
end
end Go.Proofs.YtfolipnappekaaaGreat
