/-
  Part 25 of the proof that the statement FnTwoPhase holds.
-/
import Derived.Test.YtkkdpknjohcekaaCFTwoPhase23
namespace Go.Proofs.Ytkkdpknjohcekaa
open Go.RowKit
section
variable {P:Program} {T:Tab} {Γ:Env} {X:Ctx} {w w':World} {π:Pi} {ops:Array Oper} {hd tl:List Nat}
structure Zt (ops:Array Oper) (tl fl:List Nat) (Ah:Array Bool):Prop where
 size:Ah.size=ops.size
 done: ∀i,i∈fl->Ah.getD i false=true
 closed: ∀j oj,ops[j]?=some oj->Ah.getD j false=true-> ∀e∈oj.after,Region.binds .any e=true->Ah.getD e.on false=true
 tail: ∀t,t∈tl->Ah.getD t true=false
theorem Zt.set {fl:List Nat} {i:Nat} {Ah:Array Bool} (inv:Zt ops tl fl Ah) (hi:i∈Region.ready .any ops Ah) (Oj:i∉tl):Zt ops tl fl (Ah.setIfInBounds i true):=by
 obtain ⟨_,oi,hoi,Ly⟩:=mem_ready.1 hi
 refine ⟨by simp [inv.size],λk hk=>getD_set_true (inv.done k hk),λj oj hj hl e he hb=>?_,λt ht=>by
  have Ip:i≠t:= λe=>Oj (by rw [e];exact ht)
  rw [getD_set_ne true Ip];exact inv.tail t ht⟩
 by_cases eX:i=j
 ·subst eX
  have:oj=oi:=Bd (hj.symm.trans hoi)
  subst this
  exact getD_set_true (Ly e he hb)
 ·rw [getD_set_ne false eX] at hl
  exact getD_set_true (inv.closed j oj hj hl e he hb)
theorem KT (k:Nat) (r:List Nat) (h:(r.all λt=>(k::r).any λk=>Region.waitsFor .any ops t k)=true): ∀t,t∈r-> ∃k',(k'=k\/k'∈r)/\Region.waitsFor .any ops t k'=true:= λt ht=>by
 obtain ⟨k',h1,h2⟩:=Eo.1 (Bg.1 h t ht)
 exact ⟨k',Bb.1 h1,h2⟩
theorem IV {fl:List Nat} {Ah:Array Bool} (hs:uF ops hd tl=true) (inv:Zt ops tl fl Ah) (Uo: ∀i,i∈hd->i<ops.size):
  ∀(d i:Nat),ops.size-i=d->i∈hd->Ah.getD i true=false-> ∀t,t∈tl->t∉Region.ready .any ops Ah:=by
 cases tl with
 |nil=>intro d i _ _ _ t ht;cases ht
 |cons f r=>
  simp only [uF,Aj] at hs
  obtain ⟨kS,vJ⟩:=hs
  intro d
  induction d using Nat.strongRecOn with
  |_ d ih=>
   intro i JS hi oO t ht hr
   obtain ⟨_,ot,hot,Ly⟩:=mem_ready.1 hr
   rcases Bb.1 ht with rfl|nT
   ·have h1:=Bg.1 kS i hi
    obtain ⟨j,hj,hj2⟩:=Eo.1 h1
    simp only [Aj,Rc] at hj2
    obtain ⟨oj,hoj,e,he,hb,hon⟩:=Region.waitsFor_spec hj2.2
    rcases Bb.1 hj with rfl|hjh
    ·have:oj=ot:=Bd (hoj.symm.trans hot)
     subst this
     have h2:=Ly e he hb
     rw [hon,getD_both oO] at h2
     cases h2
    ·cases hl:Ah.getD j false with
     |true=>
      have h2:=inv.closed j oj hoj hl e he hb
      rw [hon,getD_both oO] at h2
      cases h2
     |false=>
      have hjs:j<Ah.size:=by rw [inv.size];exact Uo j hjh
      have:=Uo j hjh
      exact ih (ops.size-j) (by omega) j rfl hjh (getD_in hjs hl) t (by simp) hr
   ·obtain ⟨k',h1,h2⟩:=KT f r vJ t nT
    obtain ⟨o',ho',e,he,hb,hon⟩:=Region.waitsFor_spec h2
    have:o'=ot:=Bd (ho'.symm.trans hot)
    subst this
    have h3:=Ly e he hb
    have hk:k'∈f::r:=by rcases h1 with rfl|h1<;>simp [*]
    rw [hon,getD_both (inv.tail k' hk)] at h3
    cases h3
def XU (T:Tab) (Γ:Env) (ops:Array Oper) (hd:List Nat) (L:Array Bool->St->Prop):Nat->Array Bool->St->Prop
 |0,Ah,st=>L Ah st
 |f+1,Ah,st=>
  Region.ready .any ops Ah≠ []/\ ∀i∈Region.ready .any ops Ah,i∈hd/\ ∃o v,ops[i]?=some o/\Xo T Γ ops st o=some v/\XU T Γ ops hd L f (Ah.setIfInBounds i true) (st.put o.dst v)
theorem CV (hT:Eh P T) (Pl:Li P Γ) {Q:Exit->Act->World->Prop} {K:Act->World->Prop} {st:St} {a:Act} (h:Rel X st a w) {i:Nat} {o:Oper} {v:AV} (ho:ops[i]?=some o) (hv:Xo T Γ ops st o=some v)
  (hK: ∀a' w',Rel X (st.put o.dst v) a' w'->K a' w'):wpOp P ops Q i K a w:=by
 obtain ⟨π,h⟩:=h
 have run:Xt T Γ st o=some v->o.wp P a w K Q:= λhe=>rm (X:=X) (st':=st) (av:=v) (EJ hT Pl h o v he) hK
 have skip:v= .at .skip->K (a.put o.dst undef) w:= λe=>by subst e;exact hK _ _ ⟨π,h.put o.dst IE⟩
 unfold wpOp
 simp only [ho]
 unfold Xo at hv
 split at hv
 ·rename_i hg
  rw [Ab (by simp [Region.wanted,hg])]
  exact .inl (run hv)
 ·rename_i j want hg
  split at hv
  ·rename_i b hb
   have hy:=(fh h j).1 b hb
   split at hv
   ·rename_i FD
    rw [Ab (by simp only [Region.wanted,hg,hy];simpa using FD)]
    exact .inl (run hv)
   ·rename_i FD
    rw [Ai (by simp only [Region.wanted,hg,hy];simpa using FD)]
    simp only [Aa] at hv
    exact skip hv.symm
  ·rename_i hb
   have hy:=(fh h j).2 hb
   rw [Ai (by simp [Region.wanted,hg,hy])]
   simp only [Aa] at hv
   exact skip hv.symm
  ·cases hv
theorem lQ (hT:Eh P T) (Pl:Li P Γ) {g:Nat} {L:Array Bool->St->Prop} {Q:Exit->Act->World->Prop} (hL: ∀Ah st a w,L Ah st->Rel X st a w->wpAny P .any ops Q g Ah a w):
  ∀(f:Nat) (Ah:Array Bool) (st:St) (a:Act) (w:World),XU T Γ ops hd L f Ah st->Rel X st a w->wpAny P .any ops Q (f+g) Ah a w
 |0,Ah,st,a,w,h,hr=>by rw [Bk];exact hL _ _ _ _ h hr
 |f+1,Ah,st,a,w,h,hr=>by
  rw [show f+1+g=(f+g)+1 by omega]
  refine ⟨λh0=>absurd h0 h.1,λi hi=>?_⟩
  obtain ⟨_,o,v,ho,hv,bU⟩:=h.2 i hi
  exact CV hT Pl hr ho hv λa' w' h'=>lQ hT Pl hL f _ _ _ _ bU h'
theorem JZ {fl:List Nat} {i:Nat} {oi:Oper} {v:AV} {L:Array Bool->St->Prop} (hi:ops[i]?=some oi) (hs:uF ops hd tl=true) (Uo: ∀i,i∈hd->i<ops.size) (Oj:i∈hd)
  (Ly: ∀j,j<ops.size->j∈fl\/j∈hd\/j∈tl) (FE: ∀j,j∈hd->j∉tl) (Ang: ∀Ah st,L Ah st-> ∀j∈Region.ready .any ops Ah,j∈tl):
  ∀(f:Nat) (Ah:Array Bool) (st:St),Zt ops tl fl Ah->
   (∀j oj,ops[j]?=some oj->j≠i->Ah.getD j true=false->(∀e∈oj.after,Region.binds .any e=true->e.on≠i)->oi.apart ops oj=true)->
   i∈Region.ready .any ops Ah->Xo T Γ ops st oi=some v->
   XU T Γ ops hd L f (Ah.setIfInBounds i true) (st.put oi.dst v)->XU T Γ ops hd L (f+1) Ah st:=by
 intro f
 have Ap4: ∀Ah,Zt ops tl fl Ah->i∈Region.ready .any ops Ah-> ∀j,j∈Region.ready .any ops Ah->j∈hd:=by
  intro Ah inv hr j hj
  obtain ⟨oO,oj,hoj,_⟩:=mem_ready.1 hj
  rcases Ly j (Np.1 hoj).1 with h|h|h
  ·have h1:=inv.done j h
   rw [getD_both oO] at h1;cases h1
  ·exact h
  ·exact absurd hj (IV hs inv Uo _ i rfl Oj (mem_ready.1 hr).1 j h)
 induction f with
 |zero=>
  intro Ah st inv _ hr hv Hh
  refine ⟨λh=>(by rw [h] at hr;cases hr),λj hj=>?_⟩
  have hjh:=Ap4 Ah inv hr j hj
  refine ⟨hjh,?_⟩
  by_cases mT:j=i
  ·subst mT;exact ⟨oi,v,hi,hv,Hh⟩
  ·exact absurd (Ang _ _ Hh j (ready_mono hj mT)) (FE j hjh)
 |succ f ih=>
  intro Ah st inv nR hr hv Hh
  have oO:=(mem_ready.1 hr).1
  refine ⟨λh=>(by rw [h] at hr;cases hr),λj hj=>?_⟩
  have hjh:=Ap4 Ah inv hr j hj
  refine ⟨hjh,?_⟩
  by_cases mT:j=i
  ·subst mT;exact ⟨oi,v,hi,hv,Hh⟩
  ·obtain ⟨_,oj,vj,hoj,hvj,bU⟩:=Hh.2 j (ready_mono hj mT)
   obtain ⟨Anm,oj',Auf,An5⟩:=mem_ready.1 hj
   have:oj'=oj:=Bd (Auf.symm.trans hoj)
   subst this
   have tC: ∀e∈oj'.after,Region.binds .any e=true->e.on≠i:= λe he hb heq=>by
    have h1:=An5 e he hb
    rw [heq,getD_both oO] at h1
    cases h1
   obtain ⟨p1,p2,p3⟩:=Oper.apart_spec (nR j oj' hoj mT Anm tC)
   rw [JB p1] at hvj
   refine ⟨oj',vj,hoj,hvj,?_⟩
   have Aix: ∀k ok,ops[k]?=some ok->k≠i->(Ah.setIfInBounds j true).getD k true=false->
     (∀e∈ok.after,Region.binds .any e=true->e.on≠i)->oi.apart ops ok=true:= λk ok hk hki Aoq hno=>by
    refine nR k ok hk hki ?_ hno
    by_cases hjk:j=k
    ·subst hjk;exact Anm
    ·rw [getD_set_ne true hjk] at Aoq;exact Aoq
   refine ih (Ah.setIfInBounds j true) (st.put oj'.dst vj) (inv.set hj (FE j hjh)) Aix (ready_mono hr (Gv mT)) (by rw [JB p3];exact hv) ?_
   rw [Array.setIfInBounds_comm _ _ mT,<-St.put_comm st v vj p2]
   exact bU
theorem qX: ∀(l:List Nat) (Ah:Array Bool),ov ops l Ah=true-> ∀j∈Region.ready .any ops Ah,j∈l
 | [],Ah,h,j,hj=>by simp only [ov,List.isEmpty_iff] at h;rw [h] at hj;cases hj
 |k::r,Ah,h,j,hj=>by
  simp only [ov,Aj,Ks,Rc] at h
  rcases h.1 with h1|h1
  ·rw [h1] at hj
   simp at hj
   simp [hj]
  ·by_cases e:j=k
   ·simp [e]
   ·exact As _ (qX r _ h.2 j (ready_mono hj e))
theorem DC {fl:List Nat} (bV:Region.noSelect ops=true) (hs:uF ops hd tl=true) (Uo: ∀i,i∈hd->i<ops.size) (Ly: ∀j,j<ops.size->j∈fl\/j∈hd\/j∈tl) (FE: ∀j,j∈hd->j∉tl) (st':St):
  ∀(l:List Nat) (Ah:Array Bool) (st:St),(∀i,i∈l->i∈hd)->Zt ops tl fl Ah->ph ops tl l Ah=true->Gl T Γ ops l st=some st'->
  XU T Γ ops hd (λzH s=>ov ops tl zH=true/\s=st') l.length Ah st
 | [],Ah,st,_,_,hB,he=>by
  simp only [Gl,Aa] at he
  exact ⟨by simpa [ph] using hB,he⟩
 |k::l,Ah,st,hl,inv,hB,he=>by
  simp only [ph,Aj] at hB
  obtain ⟨⟨hr,hf⟩,hB'⟩:=hB
  have hkh:=hl k (by simp)
  have kR:k∈Region.ready .any ops Ah:=by simpa using hr
  simp only [Gl] at he
  split at he
  ·cases he
  ·rename_i o ho
   split at he
   ·rename_i v hv
    exact JZ ho hs Uo hkh Ly FE (λzH s hL=>qX tl zH hL.1) l.length Ah st inv (Region.free_spec ho hf) kR hv
     (DC bV hs Uo Ly FE st' l _ _ (λi hi=>hl i (by simp [hi])) (inv.set kR (FE k hkh)) hB' he)
   ·cases he
theorem zc {Q:Exit->Act->World->Prop} (hQ: ∀e a w,Q e a w->e= .normal) {k i:Nat} {x:Operand} {o:Oper} (ho:ops[k]?=some o) (qy:o.op= .extract x i) (hg:o.guard=none) {K:Act->World->Prop} {a:Act} {w:World}
  (h:wpOp P ops Q k K a w): ∃v,Yields P ops o v a/\K (a.put o.dst v) w:=by
 unfold wpOp at h
 simp only [ho] at h
 have hw:Region.wanted o (yielded ops a.tmps)=true:=by simp [Region.wanted,hg]
 rw [Ab hw] at h
 rcases h with h|⟨_,a',w',h⟩
 ·unfold Oper.wp at h
  have hr: ∀w,(execOp a.eval o).run P w=(do pure (Next.value (<-Instr.extract (a.eval x) i))).run P w:= λw=>by unfold execOp;rw [qy]
  rw [hr] at h
  unfold Instr.extract at h hr
  split at h
  ·rename_i vs hx
   split at h
   ·rename_i v hv
    rw [hx] at hr
    simp only [hv] at hr
    exact ⟨v, .inl ⟨hw,λw=>(hr w).trans rfl⟩,h⟩
   ·exact h.elim
  ·exact h.elim
 ·cases hQ _ _ _ h
theorem dM {Q:Exit->Act->World->Prop} (hQ: ∀e a w,Q e a w->e= .normal) (bV:Region.noSelect ops=true): ∀(l:List Nat) (Ah:Array Bool) (a:Act) (w:World),ov ops l Ah=true->wpOps P ops Q l a w->wpAny P .any ops Q l.length Ah a w
 | [],Ah,a,w,hB,h=>⟨by simpa [ov] using hB,h⟩
 |k::r,Ah,a,w,hB,h=>by
  simp only [ov,Aj,Ks,Rc] at hB
  rw [wpOps_cons] at h
  rcases hB.1 with h0|⟨h1,h2,h3⟩
  ·refine ⟨λh1=>(by rw [h0] at h1;cases h1),λi hi=>?_⟩
   rw [h0] at hi
   have hik:i=k:=by simpa using hi
   subst hik
   exact wpOp_mono (λa' w' h'=>dM hQ bV r _ a' w' hB.2 h') h
  ·unfold Aaf at h1
   split at h1
   ·rename_i o ho
    split at h1
    ·rename_i x i qy hg
     obtain ⟨v,hy,hk⟩:=zc hQ ho qy hg h
     exact wpAny_take ho bV h3 h2 (λc a w hq=>by cases hQ _ _ _ hq) hy (dM hQ bV r _ _ w hB.2 hk)
    ·cases h1
   ·cases h1
theorem nN {P:Program} {o:Oper} {t:Tmp} {a:Act} (h:o.op= .move (.tmp t)) (hg:o.guard=none):Yields P ops o (a.tmps.getD t undef) a:=by
 refine .inl ⟨by simp [Region.wanted,hg],λw=>?_⟩
 unfold execOp
 rw [h]
 rfl
theorem zx {hd tl:List Nat} {i:Nat} (h:nU ops hd tl i=true): ∃o t,ops[i]?=some o/\o.op= .move (.tmp t)/\o.guard=none:=by
 unfold nU at h
 split at h
 ·rename_i o ho
  simp only [Aj] at h
  have h1:=h.1
  split at h1
  ·rename_i t h2 h3
   exact ⟨o,t,ho,h2,h3⟩
  ·cases h1
 ·cases h
theorem gZ {q:Bool} {hd:List Nat} {Q:Exit->Act->World->Prop} (hQ: ∀c a w,¬Q (.panic c) a w) (bV:Region.noSelect ops=true) {n:Nat} {st1:St}
  (bU: ∀Ah st a w,(∀j oj,ops[j]?=some oj->Ah.getD j false=true-> ∀e∈oj.after,Region.binds .any e=true->Ah.getD e.on false=true)->Ah.size=ops.size->ph ops tl hd Ah=true->st=st1->Rel X st a w->
   (∀j,Ah.getD j false=true↔j∈Wl q Γ ops)->wpAny P .any ops Q n Ah a w):
  ∀(l dn:List Nat) (Ah:Array Bool) (st:St) (a:Act) (w:World),(∀j,j∈Wl q Γ ops↔j∈dn\/j∈l)->(∀i,i∈l-> ∃o t,ops[i]?=some o/\o.op= .move (.tmp t)/\o.guard=none)->
   (∀j oj,ops[j]?=some oj->Ah.getD j false=true-> ∀e∈oj.after,Region.binds .any e=true->Ah.getD e.on false=true)->Ah.size=ops.size->(∀j,Ah.getD j false=true↔j∈dn)->
   nM ops tl hd l Ah=true->Gl T Γ ops l st=some st1->Rel X st a w->wpAny P .any ops Q (l.length+n) Ah a w
 | [],dn,Ah,st,a,w,hm,_,hc,Uo,hdn,hf,he,hr=>by
  simp only [Gl,Aa] at he
  rw [Dv,Bk]
  exact bU Ah st a w hc Uo (by simpa [nM] using hf) he hr λj=>by rw [hdn j,hm j];simp
 |k::l,dn,Ah,st,a,w,hm,hl,hc,Uo,hdn,hf,he,hr=>by
  simp only [nM,Aj] at hf
  obtain ⟨⟨h1,h2⟩,h3⟩:=hf
  obtain ⟨o,t,ho,qy,hg⟩:=hl k (by simp)
  have vV:k∈Region.ready .any ops Ah:=by simpa using h1
  obtain ⟨_,o',ho',Ly⟩:=mem_ready.1 vV
  have ho2:o'=o:=Bd (ho'.symm.trans ho)
  subst ho2
  have hks:k<Ah.size:=by rw [Uo];exact (Np.1 ho).1
  simp only [Gl,ho] at he
  have hv:Xo T Γ ops st o'=some (st.get t):=by simp only [Xo,hg,Xt,Ft,qy];rfl
  rw [hv] at he
  rw [Aw,show l.length+1+n=(l.length+n)+1 by omega]
  refine wpAny_take ho bV h2 h1 (λc a w hq=>absurd hq (hQ c _ w)) (nN qy hg) ?_
  obtain ⟨π,hr⟩:=hr
  refine gZ hQ bV bU l (k::dn) _ _ _ _ (λj=>by rw [hm j,Bb,Bb];exact ⟨λh=>h.elim (λh=> .inl (.inr h)) (λh=>h.elim (λh=> .inl (.inl h)) .inr),λh=>h.elim (λh=>h.elim (λh=> .inr (.inl h)) .inl) (λh=> .inr (.inr h))⟩) (λi hi=>hl i (by simp [hi])) ?_ (by simp [Uo]) (λj=>?_) h3 he ⟨π,hr.put o'.dst (hr.2.tmps t)⟩
  ·intro j oj hj XN e hem hb
   by_cases XM:k=j
   ·subst XM
    have:oj=o':=Bd (hj.symm.trans ho)
    subst this
    exact getD_set_true (Ly e hem hb)
   ·rw [getD_set_ne false XM] at XN
    exact getD_set_true (hc j oj hj XN e hem hb)
  ·by_cases XM:k=j
   ·subst XM
    refine ⟨λ_=>by simp,λ_=>?_⟩
    simp [hks]
   ·rw [getD_set_ne false XM,hdn j]
    simp [Gv XM]
theorem gF {ops:Array Oper} : ∀(a b:List Nat) (st st':St),Gl T Γ ops (a++b) st=some st'-> ∃s,Gl T Γ ops a st=some s/\Gl T Γ ops b s=some st'
 | [],b,st,st',h=>⟨st,rfl,h⟩
 |i::a,b,st,st',h=>by
  simp only [Ms,Gl] at h⊢
  split at h
  ·cases h
  ·split at h
   ·exact gF a b _ st' h
   ·cases h
theorem p7 (hT:Eh P T) (Pl:Li P Γ) (hm:P.follows .mixedOrders=true) {Q:Exit->Act->World->Prop} {id:Nat} {draw:Bool} {st st':St} {a:Act} (h:Rel X st a w)
  (he:Sa T Γ ops draw st=some st') (hQ: ∀a' w',Rel X st' a' w'->Q .normal a' w'):(Code.region id ops draw).wp P Q a w:=by
 unfold Sa at he
 cases draw with
 |false=>
  rw [Ai (by simp)] at he
  exact wp_region_list (lb hT Pl ops.toList st st' a w h he hQ)
 |true=>
  rw [Ab rfl] at he
  have go: ∀(q:Bool),cV q Γ ops=true->(match Gl T Γ ops (kh q Γ ops) st with
    |some st'=>Ni T Γ ops (Jx q Γ ops) st'
    |none=>none)=some st'->(Code.region id ops true).wp P Q a w:=by
   intro q mW he
   split at he
   ·rename_i st1 h1
    simp only [cV,Aj,beq_iff_eq] at mW
    obtain ⟨⟨⟨bV,hlen⟩,Aiv⟩,Aok⟩:=mW
    refine wp_mono (Q:= λe a w=>e= .normal/\Q .normal a w) ?_ λe a w h=>h.1▸h.2
    refine wp_region_any hm ?_
    have hrel:Rel X st a {w with drawn:=w.drawn+1} :=by
     obtain ⟨π,h⟩:=h
     exact ⟨π,h.quiet ⟨rfl,rfl,rfl,Aq _,λ_ _=>rfl⟩⟩
    obtain ⟨s0,h0,h1⟩:=gF _ _ _ _ h1
    have Oj: ∀i,i∈cL q Γ ops->i<ops.size:= λi hi=>Fb.1 (Cl.1 hi).1
    have Uo: ∀i,i∈Wp q Γ ops->i<ops.size:= λi hi=>Oj i (Cl.1 hi).1
    have Ly: ∀j,j<ops.size->j∈Wl q Γ ops\/j∈Wp q Γ ops\/j∈Jx q Γ ops:= λj hj=>by
     by_cases ht:j∈Jx q Γ ops
     ·exact .inr (.inr ht)
     ·have hh:j∈cL q Γ ops:=Cl.2 ⟨Fb.2 hj,by simpa using ht⟩
      cases hfl:nU ops (cL q Γ ops) (Jx q Γ ops) j with
      |true=>exact .inl (Cl.2 ⟨hh,hfl⟩)
      |false=>exact .inr (.inl (Cl.2 ⟨hh,by rw [hfl];rfl⟩))
    have Ah2: ∀j,j∈cL q Γ ops->j∉Jx q Γ ops:= λj hj=>by
     have:=(Cl.1 hj).2
     simpa using this
    have FE: ∀j,j∈Wp q Γ ops->j∉Jx q Γ ops:= λj hj=>Ah2 j (Cl.1 hj).1
    have Ane: ∀j,j∈Wl q Γ ops->j∉Jx q Γ ops:= λj hj=>Ah2 j (Cl.1 hj).1
    have htl: ∀t,t∈Jx q Γ ops->t<ops.size:=by
     intro t ht
     unfold Jx at ht
     have: ∀(l:List Nat) (acc:List Nat),(∀i,i∈acc->i<ops.size)->(∀i,i∈l->i<ops.size)-> ∀i,i∈l.foldl (init:=acc) (λacc i=>match ops[i]? with
       |some o=>if Aan q Γ o||o.after.any (λe=>Region.binds .any e&&acc.contains e.on) then acc++ [i] else acc
       |none=>acc)->i<ops.size:=by
      intro l
      induction l with
      |nil=>intro acc h1 _ i hi;exact h1 i hi
      |cons x l ih=>
       intro acc h1 h2 i hi
       simp only [Rd] at hi
       refine ih _ ?_ (λi hi=>h2 i (by simp [hi])) i hi
       intro k hk
       split at hk
       ·split at hk
        ·rcases Az.1 hk with hk|hk
         ·exact h1 k hk
         ·simp at hk;rw [hk];exact h2 x (by simp)
        ·exact h1 k hk
       ·exact h1 k hk
     exact this (List.range ops.size) [] (by simp) (λi hi=>Fb.1 hi) t ht
    rw [<-hlen]
    refine gZ (q:=q) (X:=X) (T:=T) (Γ:=Γ) (tl:=Jx q Γ ops) (hd:=Wp q Γ ops) (st1:=s0) (λc a w hq=>by cases hq.1) bV ?_ (Wl q Γ ops) [] _ st a _ (λj=>by simp)
     (λi hi=>zx (Cl.1 hi).2) (λj oj _ hl=>(by rw [hlen,getD_replicate_false] at hl;cases hl)) (by simp [hlen]) (λj=>by rw [hlen,getD_replicate_false];simp) (by rw [hlen];exact Aiv) h0 hrel
    intro Ah s a' w' hc rG Anl hs hr hfl
    subst hs
    have Ava:Zt ops (Jx q Γ ops) (Wl q Γ ops) Ah:=
     ⟨rG,λi hi=>(hfl i).2 hi,hc,λt ht=>getD_in (by rw [rG];exact htl t ht) (by
      cases hg:Ah.getD t false with
      |false=>rfl
      |true=>exact absurd ht (Ane t ((hfl t).1 hg)))⟩
    have HA:=DC (T:=T) (Γ:=Γ) bV Aok Uo Ly FE st1 (Wp q Γ ops) _ s (λi hi=>hi) Ava Anl h1
    exact lQ (X:=X) (P:=P) (Q:= λe a w=>e= .normal/\Q .normal a w) (g:=(Jx q Γ ops).length) hT Pl (λAh s a' w' hL hr=>by
     obtain ⟨Aup,rfl⟩:=hL
     exact dM (λe a w h=>h.1) bV (Jx q Γ ops) Ah a' w' Aup (l6 hT Pl _ _ st' a' w' hr he λa w h=>⟨rfl,hQ a w h⟩)) _ _ _ _ _ HA hr
   ·cases he
  split at he
  ·rename_i mW;exact go false mW he
  ·split at he
   ·rename_i mW;exact go true mW he
   ·cases he
theorem dC (q:Bool): ∀(l:List Nat) (Ah:Array Bool),(Jv q ops l Ah).length<=l.length
 | [],_=>Aq _
 |i::r,Ah=>by
  simp only [Jv]
  split
  ·simp only [Aw];have:=dC q r (Ah.setIfInBounds i true);omega
  ·simp only [Aw];have:=dC q r Ah;omega
theorem HV (hT:Eh P T) {st:St} {a:Act} (h:Bm X π st a w) {i:Nat} {o:Oper} (ho:ops[i]?=some o) (hp:kq ops i=true) {v:AV} (hv:Xo T Γ ops st o=some v):
  ∃u,Yields P ops o u a/\Bt X w π st.heap v u:=by
 unfold kq at hp
 rw [ho] at hp
 simp only at hp
 obtain ⟨dst,op,ty,pos,af,gd⟩:=o
 split at hp
 ·rename_i t h3 h4
  simp only at h3 h4;subst h3;subst h4
  refine ⟨a.tmps.getD t undef,nN rfl rfl,?_⟩
  simp only [Xo,Xt,Ft,Aa] at hv
  subst hv
  exact h.2.tmps t
 ·rename_i x h3 h4
  simp only at h3 h4;subst h3;subst h4
  have e:=Eg h.2 x
  have fin:(∃ad,a.eval x= .pointer (some ad))->Yields P ops ⟨dst, .nilCheck x,ty,pos,af,none⟩ (a.eval x) a:= λ⟨ad,hx⟩=>
   .inl ⟨by simp [Region.wanted],λw=>by simp [execOp,hx]⟩
  simp only [Xo,Xt,Ft] at hv
  split at hv
  ·rename_i fr τ y hx
   simp only [Aa] at hv;subst hv
   rw [hx] at e
   have e':=e
   obtain ⟨cs,hc,hv⟩:=e
   simp only [Cells] at hc
   obtain ⟨g,o,rfl,_⟩:=hc
   simp only [Ci,Ty.Ar,Di,Rt,iv] at hv
   exact ⟨_,fin ⟨_,hv⟩,e'⟩
  ·rename_i fr τ y hx
   simp only [Aa] at hv;subst hv
   rw [hx] at e
   obtain ⟨cs,hc,hv⟩:=e
   simp only [Cells] at hc
   rcases hc with ⟨h0,_⟩|⟨y',g,o,h0,rfl,hr⟩
   ·cases h0
   simp only [Aa] at h0;subst h0
   simp only [Ci,Ty.Ar,Di,Rt,iv] at hv
   exact ⟨_,fin ⟨_,hv⟩,[_],⟨g,o,rfl,hr⟩,by rw [hv];simp [Ci,Ty.Ar]⟩
  ·rename_i l i hx
   simp only [Aa] at hv;subst hv
   rw [hx] at e
   have e':=e
   obtain ⟨r,tid,vs,_,_,hv⟩:=e
   exact ⟨_,fin ⟨_,hv⟩,e'⟩
  ·rename_i l i hx
   simp only [Aa] at hv;subst hv
   rw [hx] at e
   have e':=e
   obtain ⟨r,b,sz,n,_,_,_,_,hv⟩:=e
   exact ⟨_,fin ⟨_,hv⟩,e'⟩
  ·cases hv
 ·rename_i s x f h3 h4
  simp only at h3 h4;subst h3;subst h4
  simp only [Xo,Xt,Ft] at hv
  obtain ⟨u,h1,h2⟩:=cF hT (st:=st) _ _ _ _ v (Eg h.2 x) hv
  refine ⟨u, .inl ⟨by simp [Region.wanted],λw=>?_⟩,h2⟩
  have:=h1 w
  simp only [execOp,Sem.run_bind]
  first
   |(rw [this];rfl)
   |simp [this]
 ·cases hp
theorem AJ {i:Nat} (h:zy ops i=true):kq ops i=true:=by
 unfold zy at h
 unfold kq
 split at h
 ·rename_i o ho
  split at h
  ·rename_i h1 h2
   simp only [h1,h2]
  ·cases h
 ·cases h
theorem ct (hT:Eh P T) (q:Bool) {Q:Exit->Act->World->Prop} (hQ: ∀c a w,¬Q (.panic c) a w) (bV:Region.noSelect ops=true) {n:Nat} {st1:St} :
  ∀(l:List Nat) (Ah:Array Bool) (st:St) (a:Act) (w:World),Gl T Γ ops (Jv q ops l Ah) st=some st1->Rel X st a w->
   (∀a w,Rel X st1 a w->wpAny P .any ops Q n (Fa (Jv q ops l Ah) Ah) a w)->wpAny P .any ops Q ((Jv q ops l Ah).length+n) Ah a w
 | [],Ah,st,a,w,he,hr,hK=>by
  simp only [Jv,Gl,Aa] at he
  subst he
  simp only [Jv,Dv,Bk]
  exact hK a w hr
 |k::l,Ah,st,a,w,he,hr,hK=>by
  simp only [Jv] at he hK⊢
  split
  ·rename_i hc
   rw [Ab hc] at he hK
   simp only [Aj] at hc
   obtain ⟨h0,h1,h2⟩:=hc
   have hp:kq ops k=true:=by
    cases q with
    |true=>exact h0
    |false=>exact AJ h0
   simp only [Gl] at he
   split at he
   ·cases he
   rename_i o ho
   split at he
   rotate_left
   ·cases he
   rename_i v hv
   obtain ⟨π,hr⟩:=hr
   obtain ⟨u,hy,hu⟩:=HV (Γ:=Γ) hT hr ho hp hv
   rw [Aw,show (Jv q ops l (Ah.setIfInBounds k true)).length+1+n=((Jv q ops l (Ah.setIfInBounds k true)).length+n)+1 by omega]
   refine wpAny_take ho bV h2 h1 (λc a w hq=>absurd hq (hQ c _ w)) hy ?_
   exact ct hT q hQ bV l _ _ _ _ he ⟨π,hr.put o.dst hu⟩ hK
  ·rename_i hc
   rw [Ai hc] at he hK
   exact ct hT q hQ bV l Ah st a w he hr hK
theorem lR (hT:Eh P T) (Pl:Li P Γ) {Q:Exit->Act->World->Prop} {K:St->Prop} (hK: ∀st a w,K st->Rel X st a w->Q .normal a w):
  ∀(f:Nat) (Ah:Array Bool) (st:St) (a:Act) (w:World),anyS T Γ ops K f Ah st->Rel X st a w->wpAny P .any ops Q f Ah a w
 |0,Ah,st,a,w,h,hr=>⟨h.1,hK _ _ _ h.2 hr⟩
 |f+1,Ah,st,a,w,h,hr=>by
  refine ⟨λh0=>absurd h0 h.1,λi hi=>?_⟩
  obtain ⟨o,st',ho,he,bU⟩:=h.2 i hi
  obtain ⟨π,hr⟩:=hr
  unfold wpOp
  simp only [ho]
  exact Wj hT Pl hr o he λa' w' h'=>lR hT Pl hK f _ _ _ _ bU h'
def Un (ops:Array Oper) (Ah:Array Bool):Prop:= ∀k a,Ah.getD k false=true->Region.waitsFor .any ops k a=true->Ah.getD a false=true
theorem cX {Ah:Array Bool} {i a:Nat} (h:i∈Region.ready .any ops Ah) (hw:Region.waitsFor .any ops i a=true):Ah.getD a false=true:=by
 obtain ⟨_,o,ho,Ly⟩:=mem_ready.1 h
 obtain ⟨o',ho',e,he,hb,rfl⟩:=Region.waitsFor_spec hw
 rw [ho] at ho'
 cases ho'
 exact Ly e he hb
theorem Un.set {Ah:Array Bool} (hc:Un ops Ah) {i:Nat} (hi:i∈Region.ready .any ops Ah):Un ops (Ah.setIfInBounds i true):= λk a hk hw=>by
 by_cases hik:i=k
 ·subst hik
  exact getD_set_true (cX hi hw)
 ·rw [getD_set_ne false hik] at hk
  exact getD_set_true (hc k a hk hw)
theorem qh:Un ops (Array.replicate ops.size false):= λk a hk _=>by
 rw [getD_replicate_false] at hk
 cases hk
theorem aR (q:Bool): ∀(l:List Nat) (Ah:Array Bool),Un ops Ah->Un ops (Fa (Jv q ops l Ah) Ah)
 | [],Ah,h=>h
 |i::r,Ah,h=>by
  simp only [Jv]
  split
  ·rename_i hc
   rw [Aj,Aj] at hc
   have hi:i∈Region.ready .any ops Ah:=by simpa using hc.2.1
   exact aR q r _ (h.set hi)
  ·exact aR q r Ah h
theorem Ws: ∀(l:List Nat) (Ah:Array Bool),(Fa l Ah).size=Ah.size
 | [],_=>rfl
 |i::r,Ah=>by simp only [Fa];rw [Ws r];simp
theorem fD: ∀(l:List Nat) (Ah:Array Bool) (k:Nat),k∈l->k<Ah.size->(Fa l Ah).getD k false=true
 |i::r,Ah,k,h,hk=>by
  simp only [Fa]
  by_cases hr:k∈r
  ·exact fD r _ k hr (by simpa using hk)
  ·have:k=i:=(Bb.1 h).resolve_right hr
   subst this
   have hs: ∀(l:List Nat) (A:Array Bool),A.getD k false=true->(Fa l A).getD k false=true:=by
    intro l
    induction l with
    |nil=>exact λA h=>h
    |cons j l ih=>exact λA h=>ih _ (getD_set_true h)
   exact hs r _ (by simp [hk])
theorem dB: ∀(l:List Nat) (Ah:Array Bool) (k:Nat),k∉l->(Fa l Ah).getD k false=Ah.getD k false
 | [],_,_,_=>rfl
 |i::r,Ah,k,h=>by
  simp only [Fa]
  rw [dB r _ k λhk=>h (As _ hk),getD_set_ne false (λe=>h (by rw [e];simp))]
def Mm (E:List Nat) (Ah:Array Bool):List Nat:=E.filter λr=>!Ah.getD r false
def dv (ops:Array Oper) (r:Nat):Option Tmp:=(ops[r]?).bind (·.dst)
def l5 (ops:Array Oper) (Q:List Nat):List Nat:=Q.filterMap (dv ops)
def Sf (ops:Array Oper):List Nat->St->St
 | [],st=>st
 |r::Q,st=>(Sf ops Q st).put (dv ops r) .undef
def SR (ops:Array Oper):List Nat->Act->Act->Prop
 | [],a,a'=>a'=a
 |r::Q,a,a'=> ∃u,SR ops Q (a.put (dv ops r) u) a'
theorem Acm {H:List (Nat×OB)} {v:Value} :Bt X w π H .undef v:=trivial
theorem iX (s:St) (d:Option Tmp) (v:AV) (t:Nat):(d=some t->(s.put d v).get t=v\/(s.put d v).get t= .undef)/\(d≠some t->(s.put d v).get t=s.get t):=by
 cases d with
 |none=>exact ⟨λh=>(by cases h),λ_=>rfl⟩
 |some e=>
  have key:(s.put (some e) v).get t=if e=t/\t<s.tmps.length then v else s.get t:=Qy _ _ _ _ _
  refine ⟨λh=>?_,λh=>?_⟩
  ·cases h
   rw [key]
   by_cases hl:t<s.tmps.length
   ·rw [Ab ⟨rfl,hl⟩];exact .inl rfl
   ·rw [Ai (λh=>hl h.2)]
    exact .inr (by unfold St.get;rw [Al,Ds (by omega)];rfl)
  ·rw [key,Ai]
   rintro ⟨rfl,_⟩
   exact h rfl
theorem kz (s:St) (d:Option Tmp) (v:AV):(s.put d v).heap=s.heap:=by cases d<;>rfl
theorem og (s:St) (d:Option Tmp) (v:AV):(s.put d v).tmps.length=s.tmps.length:=by
 cases d with
 |none=>rfl
 |some d=>exact aj _ _ _
theorem Qs: ∀(Q:List Nat) (st:St),(Sf ops Q st).heap=st.heap
 | [],_=>rfl
 |r::Q,st=>by simp only [Sf];rw [kz,Qs Q]
theorem Wv: ∀(Q:List Nat) (st:St),(Sf ops Q st).tmps.length=st.tmps.length
 | [],_=>rfl
 |r::Q,st=>by simp only [Sf];rw [og,Wv Q]
theorem Me {Q:List Nat} {t:Nat} :t∈l5 ops Q↔ ∃r∈Q,dv ops r=some t:=List.mem_filterMap
theorem Sh: ∀(Q:List Nat) (st:St) (t:Nat),(t∈l5 ops Q->(Sf ops Q st).get t= .undef)/\(t∉l5 ops Q->(Sf ops Q st).get t=st.get t)
 | [],st,t=>⟨λh=>by simp [l5] at h,λ_=>rfl⟩
 |r::Q,st,t=>by
  obtain ⟨h1,h2⟩:=Sh Q st t
  obtain ⟨g1,g2⟩:=iX (Sf ops Q st) (dv ops r) .undef t
  simp only [Sf]
  by_cases hd:dv ops r=some t
  ·refine ⟨λ_=>(g1 hd).elim id id,λh=>absurd (Me.2 ⟨r,Ji ..,hd⟩) h⟩
  ·refine ⟨λh=>?_,λh=>?_⟩
   ·rw [g2 hd]
    obtain ⟨q,hq,he⟩:=Me.1 h
    rcases Bb.1 hq with rfl|hq
    ·exact absurd he hd
    ·exact h1 (Me.2 ⟨q,hq,he⟩)
   ·rw [g2 hd]
    exact h2 λhm=>by
     obtain ⟨q,hq,he⟩:=Me.1 hm
     exact h (Me.2 ⟨q,As _ hq,he⟩)
theorem uv {st s:St} {a:Act} (h:Bm X π st a w) (hh:s.heap=st.heap) (hl:s.tmps.length=st.tmps.length) (hg: ∀t,s.get t=st.get t\/s.get t= .undef):Bm X π s a w:=by
 refine ⟨by rw [hh];exact h.1,⟨by rw [hl];exact h.2.size,h.2.defers,λt=>?_⟩⟩
 rw [hh]
 rcases hg t with e|e
 ·rw [e];exact h.2.tmps t
 ·rw [e];exact Acm
theorem JA {st s:St} {o:Oper} (hh:s.heap=st.heap) (hg: ∀t,t∈o.looksAt ops->s.get t=st.get t):Xo T Γ ops s o=Xo T Γ ops st o:=by
 obtain ⟨ts,H⟩:=s
 obtain ⟨ts',H'⟩:=st
 simp only at hh
 subst hh
 exact yB hg
theorem qQ (hT:Eh P T) (Pl:Li P Γ) {st:St} {a:Act} (h:Bm X π st a w) {i:Nat} {o:Oper} (ho:ops[i]?=some o) (hp:kr ops i=true) {v:AV} (hv:Xo T Γ ops st o=some v):
  ∃u,(∀(Q:Exit->Act->World->Prop) (K:Act->World->Prop),K (a.put o.dst u) w->wpOp P ops Q i K a w)/\Bt X w π st.heap v u:=by
 unfold kr at hp
 rw [ho] at hp
 simp only at hp
 have hgd:o.guard=none:=by
  obtain ⟨dst,op,ty,pos,af,gd⟩:=o
  cases gd with
  |none=>rfl
  |some g=>split at hp<;>first|rfl|(rename_i h4;cases h4)|cases hp
 have hb:Xt T Γ st o=some v:=by
  unfold Xo at hv
  rw [hgd] at hv
  exact hv
 have hw:Region.wanted o (yielded ops a.tmps)=true:=by simp [Region.wanted,hgd]
 have fin: ∀s:Sem Value,execOp a.eval o=(do pure (.value (<-s)))->Ft T Γ st o=some v-> ∃u,(∀(Q:Exit->Act->World->Prop) (K:Act->World->Prop),K (a.put o.dst u) w->wpOp P ops Q i K a w)/\Bt X w π st.heap v u:=by
  intro s he hq
  have hg:=iP hT Pl h o v hq
  rw [he,Sem.run_bind] at hg
  cases hr:s.run P w with
  |ok u w'=>
   rw [hr] at hg
   obtain ⟨e,hu⟩:=(show w'=w/\Bt X w π st.heap v u from hg)
   subst e
   refine ⟨u,λQ K hK=>?_,hu⟩
   unfold wpOp
   simp only [ho]
   rw [Ab hw]
   refine .inl ?_
   unfold Oper.wp
   rw [he,Sem.run_bind,hr]
   exact hK
  |halt x w'=>rw [hr] at hg;exact hg.elim
 obtain ⟨dst,op,ty,pos,af,gd⟩:=o
 simp only at hgd
 subst hgd
 split at hp
 ·rename_i x h3 h4
  simp only at h3;subst h3
  exact fin (pure (a.eval x)) (by simp [execOp]) hb
 ·rename_i x h3 h4
  simp only at h3;subst h3
  exact fin _ rfl hb
 ·rename_i x h3 h4
  simp only at h3;subst h3
  exact fin _ rfl hb
 ·rename_i x h3 h4
  simp only at h3;subst h3
  exact fin _ rfl hb
 ·cases hp
theorem XC {j:Nat} {oi oj:Oper} {v:Value} (hj:ops[j]?=some oj) (hap:oi.apart ops oj=true) (hsj: ∀cs b,oj.op≠ .select cs b)
  {Q:Exit->Act->World->Prop} (hQ: ∀c a w,¬Q (.panic c) a w) {K:Act->World->Prop} {a:Act} {w:World} (h:wpOp P ops Q j K (a.put oi.dst v) w):
  wpOp P ops Q j (λa' w'=>K (a'.put oi.dst v) w') a w:=by
 obtain ⟨h1,h2,h3⟩:=Oper.apart_spec hap
 unfold wpOp at*
 simp only [hj] at*
 rw [wanted_put oj a oi.dst v h1] at h
 split
 ·rename_i hw
  simp only [hw,Oz] at h
  rcases h with h|⟨Agu,Anp⟩
  case inr=>exact .inr ⟨by unfold Oper.asks at*;rw [execOp_put oj hsj a oi.dst v h1] at Agu;exact Agu,Anp⟩
  refine .inl ?_
  unfold Oper.wp at*
  rw [execOp_put oj hsj a oi.dst v h1] at h
  generalize (execOp a.eval oj).run P w=r at*
  cases r with
  |ok n w'=>
   cases n<;>simp only [Oper.upon] at h⊢
   case value u=>rw [<-Act.put_comm a v u h2];exact h
   case skip=>rw [<-Act.put_comm a v undef h2];exact h
   case defer d=>
    rw [<-Act.put_comm _ v undef h2,<-Act.put_defers]
    exact h
   case enter f args=>
    refine Calls.mono h λe rh he=>?_
    cases e with
    |returned u=>show K ((a.put oj.dst u).put oi.dst v) rh;rw [<-Act.put_comm a v u h2];exact he
    |panicked c=>exact absurd he (hQ _ _ _)
    |outgrown=>exact he
   case row row args=>exact Rows.mono h λu rh he=>by rw [<-Act.put_comm a v u h2];exact he
  |halt x w'=>
   cases x<;>simp only [Oper.upon] at h⊢
   case panic u=>exact absurd h (hQ _ _ _)
 ·rename_i hw
  simp only [hw] at h
  rw [<-Act.put_comm a v undef h2];exact h
theorem yb: ∀ {Q:List Nat} {a a':Act},SR ops Q a a'->a'.defers=a.defers/\a'.tmps.size=a.tmps.size/\ ∀t,t∉l5 ops Q->a'.tmps.getD t undef=a.tmps.getD t undef
 | [],a,a',h=>by cases h;exact ⟨rfl,rfl,λ_ _=>rfl⟩
 |r::Q,a,a',⟨u,h⟩=>by
  obtain ⟨h1,h2,h3⟩:=yb h
  have hp:(a.put (dv ops r) u).defers=a.defers/\(a.put (dv ops r) u).tmps.size=a.tmps.size:=by cases dv ops r<;>simp [Act.put]
  refine ⟨h1.trans hp.1,h2.trans hp.2,λt ht=>?_⟩
  have hn:dv ops r≠some t:= λe=>ht (Me.2 ⟨r,Ji ..,e⟩)
  rw [h3 t λhm=>ht (by obtain ⟨q,hq,he⟩:=Me.1 hm;exact Me.2 ⟨q,As _ hq,he⟩)]
  cases hd:dv ops r with
  |none=>rfl
  |some d=>
   have Ip:d≠t:= λe=>hn (by rw [hd,e])
   simp [Act.put,Array.getElem?_setIfInBounds_ne Ip]
theorem Abq {Q:List Nat} {st:St} {a a':Act} (hp:SR ops Q a a') (h:Bm X π st a' w):Bm X π (Sf ops Q st) a w:=by
 obtain ⟨h1,h2,h3⟩:=yb hp
 refine ⟨by rw [Qs];exact h.1,⟨by rw [Wv,<-h2];exact h.2.size,by rw [<-h1];exact h.2.defers,λt=>?_⟩⟩
 rw [Qs]
 by_cases ht:t∈l5 ops Q
 ·rw [(Sh Q st t).1 ht];exact Acm
 ·rw [(Sh Q st t).2 ht,<-h3 t ht];exact h.2.tmps t
theorem yE {j:Nat} {oj:Oper} (hj:ops[j]?=some oj) (hsj: ∀cs b,oj.op≠ .select cs b) {Q:Exit->Act->World->Prop} (hQ: ∀c a w,¬Q (.panic c) a w) {K:Act->World->Prop} :
  ∀(L:List Nat) (a a':Act) (w:World),(∀r∈L,∃o,ops[r]?=some o/\o.apart ops oj=true)->SR ops L a a'->wpOp P ops Q j K a' w->wpOp P ops Q j (λa2 w2=> ∃a3,SR ops L a2 a3/\K a3 w2) a w
 | [],a,a',w,_,hp,h=>by cases hp;exact wpOp_mono (λa2 w2 hk=>⟨a2,rfl,hk⟩) h
 |r::L,a,a',w,hap,⟨u,hp⟩,h=>by
  obtain ⟨o,ho,ha⟩:=hap r (Ji ..)
  have hd:dv ops r=o.dst:=by unfold dv;rw [ho];rfl
  rw [hd] at hp
  have ih:=yE hj hsj hQ L _ a' w (λq hq=>hap q (As _ hq)) hp h
  exact wpOp_mono (λa2 w2 ⟨a3,h1,h2⟩=>⟨a3,⟨u,by rw [hd];exact h1⟩,h2⟩) (XC hj ha hsj hQ ih)
def KB (ops:Array Oper):List Nat->Prop
 | []=>True
 |r::L=>(∀q∈r::L,∀o d,ops[r]?=some o->dv ops q=some d->d∉o.looksAt ops)/\(∀q∈L,∀d,dv ops r=some d->dv ops q≠some d)/\KB ops L
def x5 (ops:Array Oper):List Nat->Prop
 | []=>True
 |r::L=>(∀q∈L,Region.waitsFor .any ops q r=true\/ ∀o d,ops[q]?=some o->dv ops r=some d->d∉o.looksAt ops)/\x5 ops L
theorem KB.filter {p:Nat->Bool} : ∀ {L:List Nat},KB ops L->KB ops (L.filter p)
 | [],_=>trivial
 |r::L,⟨h1,h2,h3⟩=>by
  rw [List.filter_cons]
  split
  ·exact ⟨λq hq=>h1 q (by rcases Bb.1 hq with rfl|hq;exact Ji ..;exact As _ (Cl.1 hq).1),λq hq=>h2 q (Cl.1 hq).1,h3.filter⟩
  ·exact h3.filter
theorem x5.filter {p:Nat->Bool} : ∀ {L:List Nat},x5 ops L->x5 ops (L.filter p)
 | [],_=>trivial
 |r::L,⟨h1,h3⟩=>by
  rw [List.filter_cons]
  split
  ·exact ⟨λq hq=>h1 q (Cl.1 hq).1,h3.filter⟩
  ·exact h3.filter
theorem ak {i j:Nat} {p:Oper->Oper->Bool} (h:q7 ops i j p=true): ∃x y,ops[i]?=some x/\ops[j]?=some y/\p x y=true:=by
 unfold q7 at h
 split at h
 ·rename_i x y h1 h2;exact ⟨x,y,h1,h2,h⟩
 ·cases h
theorem gq {x y:Oper} (h:oK ops x y=true): ∀d,x.dst=some d->d∉y.looksAt ops:= λd hd=>by
 unfold oK at h
 rw [hd] at h
 simpa using h
theorem EI {x y:Oper} (h:LD x y=true): ∀d,x.dst=some d->y.dst≠some d:= λd hd=>by
 unfold LD at h
 rw [hd] at h
 simpa using h
theorem cE {r:Nat} {o:Oper} (h:ops[r]?=some o):dv ops r=o.dst:=by unfold dv;rw [h];rfl
theorem qL: ∀ {E:List Nat},AG ops E=true->KB ops E/\x5 ops E
 | [],_=>⟨trivial,trivial⟩
 |r::E,h=>by
  simp only [AG,Aj,Bg] at h
  obtain ⟨⟨h1,h2⟩,h3⟩:=h
  obtain ⟨g1,g2⟩:=qL h3
  refine ⟨⟨λq hq o d ho hd=>?_,λq hq d hd=>?_,g1⟩,λq hq=>?_,g2⟩
  ·rcases Bb.1 hq with rfl|hq
   ·obtain ⟨x,y,hx,hy,hp⟩:=ak h1
    rw [ho] at hx hy;cases hx;cases hy
    rw [cE ho] at hd
    exact gq hp d hd
   ·obtain ⟨x,y,hx,hy,hp⟩:=ak (h2 q hq).1
    rw [ho] at hx;cases hx
    rw [cE hy] at hd
    exact gq (Dp.1 hp).2 d hd
  ·obtain ⟨x,y,hx,hy,hp⟩:=ak (h2 q hq).1
   rw [cE hx] at hd
   rw [cE hy]
   exact EI (Dp.1 hp).1 d hd
  ·have h4:=(h2 q hq).2
   rw [Ks] at h4
   rcases h4 with h4|h4
   ·exact .inl h4
   ·refine .inr λo d ho hd=>?_
    obtain ⟨x,y,hx,hy,hp⟩:=ak h4
    rw [ho] at hy;cases hy
    rw [cE hx] at hd
    exact gq hp d hd
theorem Agi (hT:Eh P T) (Pl:Li P Γ) {st:St} : ∀(L:List Nat) (a:Act),(∀r∈L,kr ops r=true/\ ∃o v,ops[r]?=some o/\Xo T Γ ops st o=some v/\ ∀d,o.dst=some d->st.get d=v)->KB ops L->
  Bm X π (Sf ops L st) a w-> ∃a',SR ops L a a'/\Bm X π st a' w
 | [],a,_,_,h=>⟨a,rfl,h⟩
 |r::L,a,hs,⟨f1,f2,f3⟩,h=>by
  obtain ⟨hr,o,v,ho,hv,hd⟩:=hs r (Ji ..)
  have hdo:=cE ho
  have xy:Xo T Γ ops (Sf ops (r::L) st) o=some v:=by
   rw [JA (st:=st) (Qs _ _) λt ht=>(Sh _ _ _).2 λhm=>by
    obtain ⟨q,hq,he⟩:=Me.1 hm
    exact f1 q hq o t ho he ht]
   exact hv
  obtain ⟨u,_,hu⟩:=qQ hT Pl h ho hr xy
  have h2:=h.put o.dst hu
  have h3:Bm X π (Sf ops L st) (a.put o.dst u) w:=by
   refine uv h2 ?_ ?_ λt=>?_
   ·rw [kz,Qs,Qs]
   ·rw [og,Wv,Wv]
   ·obtain ⟨g1,g2⟩:=iX (Sf ops (r::L) st) o.dst v t
    by_cases he:o.dst=some t
    ·have rH:t∉l5 ops L:= λhm=>by
      obtain ⟨q,hq,hqe⟩:=Me.1 hm
      exact f2 q hq t (by rw [hdo];exact he) hqe
     rw [(Sh L st t).2 rH,hd t he]
     rcases g1 he with g|g
     ·exact .inl g.symm
     ·by_cases hl:t<st.tmps.length
      ·refine .inl ?_
       rw [he]
       show v=((Ta (Sf ops (r::L) st).tmps t v).getD t .undef)
       rw [Qy,Ab ⟨rfl,by rw [Wv];exact hl⟩]
      ·refine .inr ?_
       rw [<-hd t he]
       unfold St.get
       rw [Al,Ds (by omega)]
       rfl
    ·rw [g2 he]
     have:(Sf ops (r::L) st).get t=(Sf ops L st).get t:=(iX (Sf ops L st) (dv ops r) .undef t).2 (by rw [hdo];exact he)
     exact .inl this.symm
  obtain ⟨a',hp,ib⟩:=Agi hT Pl L _ (λq hq=>hs q (As _ hq)) f3 h3
  exact ⟨a',⟨u,by rw [hdo];exact hp⟩,ib⟩
theorem YZ: ∀ {L:List Nat},KB ops L->x5 ops L-> ∀ {i:Nat} {o:Oper},i∈L->ops[i]?=some o->(∀q∈L,Region.waitsFor .any ops i q=true->False)-> ∀q∈L,∀d,dv ops q=some d->d∉o.looksAt ops
 | [],_,_,i,_,hi,_,_=>by cases hi
 |r::L,⟨f1,f2,f3⟩,⟨b1,b2⟩,i,o,hi,ho,hw=> λq hq d hd=>by
  by_cases hir:i=r
  ·subst hir
   exact f1 q hq o d ho hd
  ·have cM:=(Bb.1 hi).resolve_left hir
   rcases Bb.1 hq with rfl|km
   ·rcases b1 i cM with h|h
    ·exact (hw q hq h).elim
    ·exact h o d ho hd
   ·exact YZ f3 b2 cM ho (λq hq=>hw q (As _ hq)) q km d hd
theorem qk {Ah:Array Bool} (Uo:Ah.size=ops.size): ∀ {E:List Nat} {L:Array Bool} {r:Nat} {Q:List Nat},jq ops E L=true->(∀j,L.getD j false=true->Ah.getD j false=true)->Mm E Ah=r::Q->r∈Region.ready .any ops Ah
 | [],_,_,_,_,_,h=>by simp [Mm] at h
 |e::E,L,r,Q,hr,hl,hp=>by
  simp only [jq,Aj,Jz] at hr
  unfold Mm at hp
  rw [List.filter_cons] at hp
  by_cases he:Ah.getD e false=true
  ·rw [Ai (by rw [he];simp)] at hp
   refine qk Uo hr.2 (λj hj=>?_) hp
   by_cases hej:e=j
   ·subst hej;exact he
   ·rw [getD_set_ne false hej] at hj;exact hl j hj
  ·have he:Ah.getD e false=false:=by simpa using he
   rw [Ab (by rw [he];rfl)] at hp
   injection hp with xx RD
   subst xx
   obtain ⟨_,o,ho,Ly⟩:=mem_ready.1 hr.1
   have Lg:e<Ah.size:=by rw [Uo];exact (Np.1 ho).1
   exact mem_ready.2 ⟨getD_in Lg he,o,ho,λx hx hb=>hl _ (Ly x hx hb)⟩
theorem eF {Ah:Array Bool} {j:Nat} (h:Ah.getD j true=false):j<Ah.size:=by
 rcases Nat.lt_or_ge j Ah.size with h'|h'
 ·exact h'
 ·simp [Array.getElem?_eq_none h'] at h
theorem x4 (hT:Eh P T) (Pl:Li P Γ) {Q:Exit->Act->World->Prop} (hQ: ∀c a w,¬Q (.panic c) a w) {K:St->Prop} (hK: ∀st a w,K st->Rel X st a w->Q .normal a w) (bV:Region.noSelect ops=true)
  {E:List Nat} {L0:Array Bool} (hE:cW ops E L0=true): ∀(n f:Nat) (Ah LA:Array Bool) (st:St) (a:Act) (w:World),n=f+(Mm E Ah).length->Ah.size=ops.size->LA.size=ops.size->
   (∀j,LA.getD j false=(Ah.getD j false||E.contains j))->Un ops Ah->(∀j,L0.getD j false=true->Ah.getD j false=true)->ru T Γ ops E K f LA st->Rel X (Sf ops (Mm E Ah) st) a w->wpAny P .any ops Q n Ah a w:=by
 simp only [cW,Aj,Bg] at hE
 obtain ⟨⟨hre,hry⟩,hpr,hap⟩:=hE
 obtain ⟨Anj,qv⟩:=qL hpr
 have key: ∀(n f:Nat) (Ah LA:Array Bool) (st:St) (a:Act) (w:World),n=f+(Mm E Ah).length->Ah.size=ops.size->LA.size=ops.size->
   (∀j,LA.getD j false=(Ah.getD j false||E.contains j))->Un ops Ah->(∀j,L0.getD j false=true->Ah.getD j false=true)->ru T Γ ops E K f LA st->Rel X (Sf ops (Mm E Ah) st) a w->
   (∀j,j∈Region.ready .any ops Ah->j∉E->j∈Region.ready .any ops LA)/\(Region.ready .any ops Ah= []->Q .normal a w/\f=0/\Mm E Ah= []):=by
  intro n f Ah LA st a w hn kS vJ hLA Rn hL0 iY hrel
  have h1: ∀j,j∈Region.ready .any ops Ah->j∉E->j∈Region.ready .any ops LA:= λj hj hjE=>by
   obtain ⟨oO,o,ho,Ly⟩:=mem_ready.1 hj
   have Lg:=eF oO
   refine mem_ready.2 ⟨getD_in (by omega) ?_,o,ho,λe he hb=>by rw [hLA,Ly e he hb];rfl⟩
   rw [hLA,getD_both oO]
   simpa using hjE
  refine ⟨h1,λh0=>?_⟩
  cases XO:Mm E Ah with
  |cons r L=>
   have:=qk kS hry hL0 XO
   rw [h0] at this
   cases this
  |nil=>
   have Ly: ∀r,r∈E->Ah.getD r false=true:= λr hr=>by
    have:r∉Mm E Ah:=by rw [XO];simp
    unfold Mm at this
    rw [Cl] at this
    by_cases hl:Ah.getD r false=true
    ·exact hl
    ·exact absurd ⟨hr,by simpa using hl⟩ this
   have hb: ∀j,j∈Region.ready .any ops LA->j∈Region.ready .any ops Ah:= λj hj=>by
    obtain ⟨oO,o,ho,hw⟩:=mem_ready.1 hj
    have Lg:=eF oO
    have he: ∀k,LA.getD k false=Ah.getD k false:= λk=>by
     rw [hLA]
     by_cases hk:k∈E
     ·rw [Ly k hk];rfl
     ·rw [show E.contains k=false by simpa using hk,ij]
    exact mem_ready.2 ⟨getD_in (by omega) (by rw [<-he];exact getD_both oO),o,ho,λe hx hbd=>by rw [<-he];exact hw e hx hbd⟩
   cases f with
   |zero=>
    obtain ⟨_,_,hk⟩:=iY
    rw [XO] at hrel
    exact ⟨hK _ _ _ hk hrel,rfl,rfl⟩
   |succ f=>
    obtain ⟨_,Ip,_⟩:=iY
    obtain ⟨j,hj⟩:=List.exists_mem_of_ne_nil _ Ip
    have:=hb j hj
    rw [h0] at this
    cases this
 intro n
 induction n with
 |zero=>
  intro f Ah LA st a w hn kS vJ hLA Rn hL0 iY hrel
  obtain ⟨k1,k2⟩:=key 0 f Ah LA st a w hn kS vJ hLA Rn hL0 iY hrel
  have hf:f=0:=by omega
  have hp:Mm E Ah= []:=List.length_eq_zero_iff.1 (by omega)
  subst hf
  obtain ⟨_,hr,_⟩:=iY
  have h0:Region.ready .any ops Ah= []:=List.eq_nil_iff_forall_not_mem.2 λj hj=>by
   by_cases hjE:j∈E
   ·have oO:=getD_both (mem_ready.1 hj).1
    have:j∈Mm E Ah:=Cl.2 ⟨hjE,by rw [oO];rfl⟩
    rw [hp] at this
    cases this
   ·have:=k1 j hj hjE
    rw [hr] at this
    cases this
  exact ⟨h0,(k2 h0).1⟩
 |succ n ih=>
  intro f Ah LA st a w hn kS vJ hLA Rn hL0 iY hrel
  obtain ⟨k1,k2⟩:=key (n+1) f Ah LA st a w hn kS vJ hLA Rn hL0 iY hrel
  have Pc:Abz T Γ ops E LA st:=by cases f<;>exact iY.1
  have ZT: ∀r∈Mm E Ah,r∈E/\Ah.getD r false=false:= λr hr=>by
   obtain ⟨h1,h2⟩:=Cl.1 hr
   exact ⟨h1,by simpa using h2⟩
  have Ahn: ∀r∈Mm E Ah,kr ops r=true/\ ∃o v,ops[r]?=some o/\Xo T Γ ops st o=some v/\ ∀d,o.dst=some d->st.get d=v:= λr hr=>by
   obtain ⟨h1,h2⟩:=ZT r hr
   refine ⟨hre r h1,(Pc r h1).resolve_left λhw=>?_⟩
   unfold sn at hw
   obtain ⟨j,_,hj⟩:=Eo.1 hw
   simp only [Aj,Fg] at hj
   obtain ⟨hj1,hj2,hj3⟩:=hj
   rw [hLA,hj1,ij] at hj2
   have:=Rn j r hj2 hj3
   rw [h2] at this
   cases this
  refine ⟨λh0=>(k2 h0).1,λi hi=>?_⟩
  obtain ⟨π,hrel⟩:=hrel
  have hiw: ∀q∈Mm E Ah,Region.waitsFor .any ops i q=true->False:= λq hq hw=>by
   have:=cX hi hw
   rw [(ZT q hq).2] at this
   cases this
  obtain ⟨oO,oi,hoi,_⟩:=mem_ready.1 hi
  have Lg:=eF oO
  by_cases hiE:i∈E
  ·have XL:i∈Mm E Ah:=Cl.2 ⟨hiE,by rw [getD_both oO];rfl⟩
   obtain ⟨hrd,o,v,ho,hv,hd⟩:=Ahn i XL
   have hnl:=YZ (Anj.filter (p:= λr=>!Ah.getD r false)) (qv.filter (p:= λr=>!Ah.getD r false)) XL ho hiw
   have xy:Xo T Γ ops (Sf ops (Mm E Ah) st) o=some v:=by
    rw [JA (st:=st) (Qs _ _) λt ht=>(Sh _ _ _).2 λhm=>by
     obtain ⟨q,hq,he⟩:=Me.1 hm
     exact hnl q hq t he ht]
    exact hv
   obtain ⟨u,hy,hu⟩:=qQ hT Pl hrel ho hrd xy
   refine hy Q _ ?_
   have XO: ∀q,q∈Mm E (Ah.setIfInBounds i true)↔q∈Mm E Ah/\q≠i:= λq=>by
    unfold Mm
    rw [Cl,Cl]
    by_cases hqi:q=i
    ·subst hqi
     simp [Lg]
    ·rw [getD_set_ne false (Gv hqi)]
     exact ⟨λh=>⟨h,hqi⟩,λh=>h.1⟩
   have hlen:(Mm E Ah).length=(Mm E (Ah.setIfInBounds i true)).length+1:=by
    have rH: ∀(E:List Nat) (L:Array Bool),jq ops E L=true->E.Nodup/\ ∀r∈E,L.getD r true=false:=by
     intro E
     induction E with
     |nil=>exact λL _=>⟨Mc,λr hr=>by cases hr⟩
     |cons e E ihE=>
      intro L h
      simp only [jq,Aj,Jz] at h
      obtain ⟨g1,g2⟩:=ihE _ h.2
      have he:=(mem_ready.1 h.1).1
      have ll:=eF he
      refine ⟨Cm.2 ⟨λhm=>?_,g1⟩,λr hr=>?_⟩
      ·have:=g2 e hm
       simp [ll] at this
      ·rcases Bb.1 hr with rfl|hr
       ·exact he
       ·have Ip:e≠r:= λe'=>by subst e';have:=g2 e hr;simp [ll] at this
        have:=g2 r hr
        rw [getD_set_ne true Ip] at this
        exact this
    have hEn:=(rH E L0 hry).1
    have Avc: ∀L:List Nat,L.Nodup->i∈L->(L.filter λr=>!Ah.getD r false).length=(L.filter λr=>!(Ah.setIfInBounds i true).getD r false).length+1:=by
     intro L
     induction L with
     |nil=>exact λ_ h=>by cases h
     |cons x L ihL=>
      intro hn hm
      obtain ⟨hx,hn⟩:=Cm.1 hn
      rw [List.filter_cons,List.filter_cons]
      by_cases hxi:x=i
      ·subst hxi
       rw [Ab (by rw [getD_both oO];rfl),Ai (by simp [Lg])]
       have:L.filter (λr=>!Ah.getD r false)=L.filter (λr=>!(Ah.setIfInBounds x true).getD r false):=List.filter_congr λq hq=>by
        rw [getD_set_ne false (λe=>hx (by rw [e];exact hq))]
       rw [Aw,this]
      ·have hm:=(Bb.1 hm).resolve_left (Gv hxi)
       rw [getD_set_ne false (Gv hxi)]
       split
       ·rw [Aw,Aw,ihL hn hm]
       ·exact ihL hn hm
    exact Avc E hEn hiE
   refine ih f (Ah.setIfInBounds i true) LA st _ w (by omega) (by simp [kS]) vJ (λj=>?_) (Rn.set hi) (λj hj=>getD_set_true (hL0 j hj)) iY ⟨π,?_⟩
   ·rw [hLA]
    by_cases eX:i=j
    ·subst eX
     rw [show E.contains i=true by simpa using hiE,Bool.or_true,Bool.or_true]
    ·rw [getD_set_ne false eX]
   ·have h2:=hrel.put o.dst hu
    refine uv h2 ?_ ?_ λt=>?_
    ·rw [kz,Qs,Qs]
    ·rw [og,Wv,Wv]
    ·have hdo:=cE ho
     by_cases hm:t∈l5 ops (Mm E (Ah.setIfInBounds i true))
     ·exact .inr ((Sh _ _ _).1 hm)
     ·rw [(Sh _ _ _).2 hm]
      obtain ⟨g1,g2⟩:=iX (Sf ops (Mm E Ah) st) o.dst v t
      by_cases he:o.dst=some t
      ·rw [hd t he]
       rcases g1 he with g|g
       ·exact .inl g.symm
       ·by_cases hl:t<st.tmps.length
        ·refine .inl ?_
         rw [he]
         show v=((Ta (Sf ops (Mm E Ah) st).tmps t v).getD t .undef)
         rw [Qy,Ab ⟨rfl,by rw [Wv];exact hl⟩]
        ·refine .inr ?_
         rw [<-hd t he]
         unfold St.get
         rw [Al,Ds (by omega)]
         rfl
      ·rw [g2 he]
       refine .inl ((Sh _ _ _).2 λhm2=>?_).symm
       obtain ⟨q,hq,hqe⟩:=Me.1 hm2
       by_cases hqi:q=i
       ·subst hqi
        rw [hdo] at hqe
        exact he hqe
       ·exact hm (Me.2 ⟨q,(XO q).2 ⟨hq,hqi⟩,hqe⟩)
  ·cases f with
   |zero=>
    obtain ⟨_,hr,_⟩:=iY
    have:=k1 i hi hiE
    rw [hr] at this
    cases this
   |succ f=>
    obtain ⟨_,_,xw⟩:=iY
    obtain ⟨o,st',ho,he,bU⟩:=xw i (k1 i hi hiE)
    obtain ⟨a',ZW,gI⟩:=Agi hT Pl (Mm E Ah) a Ahn Anj.filter hrel
    have Ow:wpOp P ops Q i (λa2 w2=>Rel X st' a2 w2) a' w:=by
     unfold wpOp
     simp only [ho]
     exact Wj hT Pl gI o he λa2 w2 h2=>h2
    have zi:=yE (Q:=Q) ho (λcs b=>Region.noSelect_spec bV i o cs b ho) hQ (Mm E Ah) a a' w (λr hr=>?_) ZW Ow
    ·refine wpOp_mono (λa2 w2 hk=>?_) zi
     obtain ⟨a3,hp3,π3,hr3⟩:=hk
     have XO:Mm E (Ah.setIfInBounds i true)=Mm E Ah:=by
      unfold Mm
      refine List.filter_congr λq hq=>?_
      rw [getD_set_ne false (λe=>hiE (by rw [e];exact hq))]
     refine ih f (Ah.setIfInBounds i true) (LA.setIfInBounds i true) st' a2 w2 (by rw [XO];omega) (by simp [kS]) (by simp [vJ]) (λj=>?_) (Rn.set hi) (λj hj=>getD_set_true (hL0 j hj)) bU ⟨π3,by rw [XO];exact Abq hp3 hr3⟩
     by_cases eX:i=j
     ·subst eX
      simp [Lg,kS▸Lg,vJ]
     ·rw [getD_set_ne false eX,getD_set_ne false eX,hLA]
    ·obtain ⟨hrE,hrl⟩:=ZT r hr
     have h3:=Bg.1 (Bg.1 hap r hrE) i (Fb.2 (by omega))
     simp only [Ks] at h3
     rcases h3 with ((h3|h3)|h3)|h3
     ·exact absurd (by simpa using h3) hiE
     ·have:=hL0 i h3
      rw [getD_both oO] at this
      cases this
     ·exact (hiw r hr h3).elim
     ·obtain ⟨x,y,hx,hy,hp⟩:=ak h3
      rw [ho] at hy;cases hy
      exact ⟨x,hx,hp⟩
theorem nH: ∀(E:List Nat) (s0 s1:St),Gl T Γ ops E s0=some s1->s1.heap=s0.heap/\s1.tmps.length=s0.tmps.length/\ ∀t,t∉l5 ops E->s1.get t=s0.get t
 | [],s0,s1,h=>by
  simp only [Gl,Aa] at h
  subst h
  exact ⟨rfl,rfl,λ_ _=>rfl⟩
 |r::E,s0,s1,h=>by
  simp only [Gl] at h
  split at h
  ·cases h
  rename_i o ho
  split at h
  rotate_left
  ·cases h
  rename_i v hv
  obtain ⟨h1,h2,h3⟩:=nH E _ _ h
  refine ⟨by rw [h1,kz],by rw [h2,og],λt ht=>?_⟩
  rw [h3 t λhm=>ht (by obtain ⟨q,hq,he⟩:=Me.1 hm;exact Me.2 ⟨q,As _ hq,he⟩)]
  exact (iX s0 o.dst v t).2 λe=>ht (Me.2 ⟨r,Ji ..,by rw [cE ho];exact e⟩)
theorem xW: ∀ {E:List Nat} {L0:Array Bool},jq ops E L0=true-> ∀r∈E,L0.getD r true=false
 | [],_,_,_,hr=>by cases hr
 |e::E,L0,h,r,hr=>by
  simp only [jq,Aj,Jz] at h
  have he:=(mem_ready.1 h.1).1
  rcases Bb.1 hr with rfl|hr
  ·exact he
  ·have h2:=xW h.2 r hr
   have Ip:e≠r:= λe'=>by subst e';simp [eF he] at h2
   rw [getD_set_ne true Ip] at h2
   exact h2
theorem wZ (hT:Eh P T) (Pl:Li P Γ) {Q:Exit->Act->World->Prop} (hQ: ∀c a w,¬Q (.panic c) a w) {K:St->Prop} (hK: ∀st a w,K st->Rel X st a w->Q .normal a w) (bV:Region.noSelect ops=true)
  {E:List Nat} {L0:Array Bool} (hE:cW ops E L0=true) {n:Nat} (hn:E.length<=n) {cw st1:St} (h1:Gl T Γ ops E cw=some st1) (h2:ru T Γ ops E K (n-E.length) (Fa E L0) st1)
  (Uo:L0.size=ops.size) (Rn:Un ops L0) {a:Act} {w:World} (hr:Rel X cw a w):wpAny P .any ops Q n L0 a w:=by
 have hE':=hE
 simp only [cW,Aj] at hE'
 have oO:=xW hE'.1.2
 have hp:Mm E L0=E:=List.filter_eq_self.2 λr hr=>by rw [getD_both (oO r hr)];rfl
 refine x4 hT Pl hQ hK bV hE n (n-E.length) L0 (Fa E L0) st1 a w (by rw [hp];omega) Uo (by rw [Ws];exact Uo) (λj=>?_) Rn (λj hj=>hj) h2 ?_
 ·by_cases hj:j∈E
  ·rw [fD E L0 j hj (eF (oO j hj)),show E.contains j=true by simpa using hj,Bool.or_true]
  ·rw [dB E L0 j hj,show E.contains j=false by simpa using hj,ij]
 ·obtain ⟨π,hr⟩:=hr
  obtain ⟨g1,g2,g3⟩:=nH E _ _ h1
  refine ⟨π,uv hr (by rw [Qs,g1]) (by rw [Wv,g2]) λt=>?_⟩
  rw [hp]
  by_cases ht:t∈l5 ops E
  ·exact .inr ((Sh _ _ _).1 ht)
  ·exact .inl (((Sh _ _ _).2 ht).trans (g3 t ht))
theorem Yb (live:List Nat): ∀(i:Nat) (l:List AV),(It live i l).length=l.length
 |_,[]=>rfl
 |i,v::r=>by simp [It,Yb live (i+1) r]
theorem bL (live:List Nat): ∀(i:Nat) (l:List AV) (t:Nat),(It live i l).getD t .undef= .undef\/(It live i l).getD t .undef=l.getD t .undef
 |_,[],t=> .inr rfl
 |i,v::r,0=>by
  simp only [It,Xx]
  split
  ·exact .inr rfl
  ·exact .inl rfl
 |i,v::r,t+1=>by
  simp only [It,Nv]
  exact bL live (i+1) r t
theorem dx: ∀(l:List Nat) (st:St) (a:Act) (w:World),Rel X st a w->Rel X (bp l st) a w
 | [],_,_,_,h=>h
 |k::r,_,a,w,⟨_,h⟩=>dx r _ a w ⟨_,h.forget k⟩
theorem WC (dead:List Nat) {st:St} {a:Act} {w:World} (h:Rel X st a w):Rel X (st.Qn dead) a w:=by
 obtain ⟨π,h⟩:=h
 unfold St.Qn
 refine dx _ _ a w ⟨π,h.1,⟨by simp [Yb,h.2.size],h.2.defers,λt=>?_⟩⟩
 show Bt X w π st.heap ((It _ 0 st.tmps).getD t .undef) _
 rcases bL ((List.range st.tmps.length).filter λt=>!dead.contains t) 0 st.tmps t with e|e
 ·rw [e];trivial
 ·rw [e];exact h.2.tmps t
theorem qR (hT:Eh P T) (Pl:Li P Γ) (hm:P.follows .mixedOrders=true) {Q:Exit->Act->World->Prop} {id:Nat} {draw:Bool} {st:St} {K:St->Prop} {a:Act} (h:Rel X st a w)
  (he:kV T Γ ops draw st K) (hQ: ∀st' a' w',K st'->Rel X st' a' w'->Q .normal a' w'):(Code.region id ops draw).wp P Q a w:=by
 rcases he with ⟨st',h1,h2⟩|⟨rfl,bV,cw,h1,h2⟩
 ·exact p7 hT Pl hm h h1 λa' w' h'=>hQ st' a' w' h2 h'
 ·refine wp_mono (Q:= λe a w=>e= .normal/\Q .normal a w) ?_ λe a w h=>h.1▸h.2
  refine wp_region_any hm ?_
  have hrel:Rel X st a {w with drawn:=w.drawn+1} :=by
   obtain ⟨π,h⟩:=h
   exact ⟨π,h.quiet ⟨rfl,rfl,rfl,Aq _,λ_ _=>rfl⟩⟩
  have hlen:(Kz ops).length<=ops.size:=by
   have:=dC (ops:=ops) (!kd false ops) (List.range ops.size) (Array.replicate ops.size false)
   rw [List.length_range] at this
   exact this
  have ZQ:(Array.replicate ops.size false).size=ops.size:=by simp
  have mV:(Fa (Kz ops) (Array.replicate ops.size false)).size=ops.size:=by rw [Ws,ZQ]
  have:=ct hT (!kd false ops) (X:=X) (P:=P) (T:=T) (Γ:=Γ) (Q:= λe a w=>e= .normal/\Q .normal a w) (n:=ops.size-(Kz ops).length) (st1:=cw) (λc a w hq=>by cases hq.1) bV (List.range ops.size) (Array.replicate ops.size false) st a _ h1 hrel λa' w' h'=>by
   rcases h2 with h2|⟨E,st1,hE,hEn,hE1,hE2⟩
   ·exact lR hT Pl (λst' a' w' hk hr=>⟨rfl,hQ st' a' w' hk hr⟩) _ _ _ _ _ h2 h'
   ·exact wZ hT Pl (λc a w hq=>by cases hq.1) (λst' a' w' hk hr=>⟨rfl,hQ st' a' w' hk hr⟩) bV hE hEn hE1 hE2 mV (aR _ _ _ qh) h'
  have e:(Jv (!kd false ops) ops (List.range ops.size) (Array.replicate ops.size false)).length+(ops.size-(Kz ops).length)=ops.size:=by
   have e2:(Jv (!kd false ops) ops (List.range ops.size) (Array.replicate ops.size false)).length=(Kz ops).length:=rfl
   omega
  rw [e] at this
  exact this
theorem NT (hT:Eh P T) (Pl:Li P Γ) (hm:P.follows .mixedOrders=true) {Q:Exit->Act->World->Prop} {id:Nat} {draw:Bool} {st:St} {K:St->Prop} {a:Act} (h:Rel X st a w)
  (he:yI T Γ ops draw st K) (hQ: ∀st' a' w',K st'->Rel X st' a' w'->Q .normal a' w'):(Code.region id ops draw).wp P Q a w:=by
 rcases he with he|⟨dead,_,he⟩
 ·exact qR hT Pl hm h he hQ
 ·exact qR hT Pl hm h he λst' a' w' hk hr=>hQ _ a' w' hk (WC dead hr)
end
end Go.Proofs.Ytkkdpknjohcekaa
