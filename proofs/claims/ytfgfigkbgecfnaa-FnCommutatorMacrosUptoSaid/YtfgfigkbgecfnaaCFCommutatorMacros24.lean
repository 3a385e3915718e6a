/-
  Part 25 of the proof that the statement FnCommutatorMacros holds.
-/
import Derived.Test.YtfgfigkbgecfnaaCFCommutatorMacros23
namespace Go.Proofs.Ytfgfigkbgecfnaa
open Go.RowKit
section
variable {P:Program} {T:Tab} {Γ:Env} {X:Ctx} {w w':World} {π:Pi} {ops:Array Oper} {hd tl:List Nat}
structure Ub (ops:Array Oper) (tl fl:List Nat) (Ae:Array Bool):Prop where
 size:Ae.size=ops.size
 done: ∀i,i∈fl->Ae.getD i false=true
 closed: ∀j oj,ops[j]?=some oj->Ae.getD j false=true-> ∀e∈oj.after,Region.binds .any e=true->Ae.getD e.on false=true
 tail: ∀t,t∈tl->Ae.getD t true=false
theorem Ub.set {fl:List Nat} {i:Nat} {Ae:Array Bool} (inv:Ub ops tl fl Ae) (hi:i∈Region.ready .any ops Ae) (BH:i∉tl):Ub ops tl fl (Ae.setIfInBounds i true):=by
 obtain ⟨_,oi,ZT,Ig⟩:=mem_ready.1 hi
 refine ⟨by simp [inv.size],λk hk=>getD_set_true (inv.done k hk),λj oj hj hl e he hb=>?_,λt ht=>by
  have Hs:i≠t:= λe=>BH (by rw [e];exact ht)
  rw [getD_set_ne true Hs];exact inv.tail t ht⟩
 by_cases fW:i=j
 ·subst fW
  have:oj=oi:=Aw (hj.symm.trans ZT)
  subst this
  exact getD_set_true (Ig e he hb)
 ·rw [getD_set_ne false fW] at hl
  exact getD_set_true (inv.closed j oj hj hl e he hb)
theorem vo (k:Nat) (r:List Nat) (h:(r.all λt=>(k::r).any λk=>Region.waitsFor .any ops t k)=true): ∀t,t∈r-> ∃k',(k'=k\/k'∈r)/\Region.waitsFor .any ops t k'=true:= λt ht=>by
 obtain ⟨k',h1,h2⟩:=Dv.1 (Au.1 h t ht)
 exact ⟨k',Ay.1 h1,h2⟩
theorem uC {fl:List Nat} {Ae:Array Bool} (hs:nb ops hd tl=true) (inv:Ub ops tl fl Ae) (Vc: ∀i,i∈hd->i<ops.size):
  ∀(d i:Nat),ops.size-i=d->i∈hd->Ae.getD i true=false-> ∀t,t∈tl->t∉Region.ready .any ops Ae:=by
 cases tl with
 |nil=>intro d i _ _ _ t ht;cases ht
 |cons f r=>
  simp only [nb,Ag] at hs
  obtain ⟨fX,nH⟩:=hs
  intro d
  induction d using Nat.strongRecOn with
  |_ d ih=>
   intro i yw hi iS t ht hr
   obtain ⟨_,ot,ZU,Ig⟩:=mem_ready.1 hr
   rcases Ay.1 ht with rfl|ib
   ·have h1:=Au.1 fX i hi
    obtain ⟨j,hj,GC⟩:=Dv.1 h1
    simp only [Ag,Ra] at GC
    obtain ⟨oj,IX,e,he,hb,PZ⟩:=Region.waitsFor_spec GC.2
    rcases Ay.1 hj with rfl|GD
    ·have:oj=ot:=Aw (IX.symm.trans ZU)
     subst this
     have h2:=Ig e he hb
     rw [PZ,getD_both iS] at h2
     cases h2
    ·cases hl:Ae.getD j false with
     |true=>
      have h2:=inv.closed j oj IX hl e he hb
      rw [PZ,getD_both iS] at h2
      cases h2
     |false=>
      have hjs:j<Ae.size:=by rw [inv.size];exact Vc j GD
      have:=Vc j GD
      exact ih (ops.size-j) (by omega) j rfl GD (getD_in hjs hl) t (by simp) hr
   ·obtain ⟨k',h1,h2⟩:=vo f r nH t ib
    obtain ⟨o',NR,e,he,hb,PZ⟩:=Region.waitsFor_spec h2
    have:o'=ot:=Aw (NR.symm.trans ZU)
    subst this
    have h3:=Ig e he hb
    have hk:k'∈f::r:=by rcases h1 with rfl|h1<;>simp [*]
    rw [PZ,getD_both (inv.tail k' hk)] at h3
    cases h3
def AA (T:Tab) (Γ:Env) (ops:Array Oper) (hd:List Nat) (L:Array Bool->St->Prop):Nat->Array Bool->St->Prop
 |0,Ae,st=>L Ae st
 |f+1,Ae,st=>
  Region.ready .any ops Ae≠ []/\ ∀i∈Region.ready .any ops Ae,i∈hd/\ ∃o v,ops[i]?=some o/\Sd T Γ ops st o=some v/\AA T Γ ops hd L f (Ae.setIfInBounds i true) (st.put o.dst v)
theorem ss (hT:De P T) (Ls:Ib P Γ) {Q:Exit->Act->World->Prop} {K:Act->World->Prop} {st:St} {a:Act} (h:Rel X st a w) {i:Nat} {o:Oper} {v:AV} (ho:ops[i]?=some o) (hv:Sd T Γ ops st o=some v)
  (hK: ∀a' w',Rel X (st.put o.dst v) a' w'->K a' w'):wpOp P ops Q i K a w:=by
 obtain ⟨π,h⟩:=h
 have run:Se T Γ st o=some v->o.wp P a w K Q:= λhe=>kG (X:=X) (st':=st) (av:=v) (sQ hT Ls h o v he) hK
 have skip:v= .at .skip->K (a.put o.dst undef) w:= λe=>by subst e;exact hK _ _ ⟨π,h.put o.dst uo⟩
 unfold wpOp
 simp only [ho]
 unfold Sd at hv
 split at hv
 ·rename_i hg
  rw [Af (by simp [Region.wanted,hg])]
  exact .inl (run hv)
 ·rename_i j want hg
  split at hv
  ·rename_i b hb
   have hy:=(aR h j).1 b hb
   split at hv
   ·rename_i BB
    rw [Af (by simp only [Region.wanted,hg,hy];simpa using BB)]
    exact .inl (run hv)
   ·rename_i BB
    rw [Aj (by simp only [Region.wanted,hg,hy];simpa using BB)]
    simp only [Aa] at hv
    exact skip hv.symm
  ·rename_i hb
   have hy:=(aR h j).2 hb
   rw [Aj (by simp [Region.wanted,hg,hy])]
   simp only [Aa] at hv
   exact skip hv.symm
  ·cases hv
theorem fD (hT:De P T) (Ls:Ib P Γ) {g:Nat} {L:Array Bool->St->Prop} {Q:Exit->Act->World->Prop} (hL: ∀Ae st a w,L Ae st->Rel X st a w->wpAny P .any ops Q g Ae a w):
  ∀(f:Nat) (Ae:Array Bool) (st:St) (a:Act) (w:World),AA T Γ ops hd L f Ae st->Rel X st a w->wpAny P .any ops Q (f+g) Ae a w
 |0,Ae,st,a,w,h,hr=>by rw [Dp];exact hL _ _ _ _ h hr
 |f+1,Ae,st,a,w,h,hr=>by
  rw [show f+1+g=(f+g)+1 by omega]
  refine ⟨λh0=>absurd h0 h.1,λi hi=>?_⟩
  obtain ⟨_,o,v,ho,hv,bZ⟩:=h.2 i hi
  exact ss hT Ls hr ho hv λa' w' h'=>fD hT Ls hL f _ _ _ _ bZ h'
theorem uV {fl:List Nat} {i:Nat} {oi:Oper} {v:AV} {L:Array Bool->St->Prop} (hi:ops[i]?=some oi) (hs:nb ops hd tl=true) (Vc: ∀i,i∈hd->i<ops.size) (BH:i∈hd)
  (Ig: ∀j,j<ops.size->j∈fl\/j∈hd\/j∈tl) (td: ∀j,j∈hd->j∉tl) (PC: ∀Ae st,L Ae st-> ∀j∈Region.ready .any ops Ae,j∈tl):
  ∀(f:Nat) (Ae:Array Bool) (st:St),Ub ops tl fl Ae->
   (∀j oj,ops[j]?=some oj->j≠i->Ae.getD j true=false->(∀e∈oj.after,Region.binds .any e=true->e.on≠i)->oi.apart ops oj=true)->
   i∈Region.ready .any ops Ae->Sd T Γ ops st oi=some v->
   AA T Γ ops hd L f (Ae.setIfInBounds i true) (st.put oi.dst v)->AA T Γ ops hd L (f+1) Ae st:=by
 intro f
 have RE: ∀Ae,Ub ops tl fl Ae->i∈Region.ready .any ops Ae-> ∀j,j∈Region.ready .any ops Ae->j∈hd:=by
  intro Ae inv hr j hj
  obtain ⟨iS,oj,IX,_⟩:=mem_ready.1 hj
  rcases Ig j (Hl.1 IX).1 with h|h|h
  ·have h1:=inv.done j h
   rw [getD_both iS] at h1;cases h1
  ·exact h
  ·exact absurd hj (uC hs inv Vc _ i rfl BH (mem_ready.1 hr).1 j h)
 induction f with
 |zero=>
  intro Ae st inv _ hr hv Hh
  refine ⟨λh=>(by rw [h] at hr;cases hr),λj hj=>?_⟩
  have GD:=RE Ae inv hr j hj
  refine ⟨GD,?_⟩
  by_cases lf:j=i
  ·subst lf;exact ⟨oi,v,hi,hv,Hh⟩
  ·exact absurd (PC _ _ Hh j (ready_mono hj lf)) (td j GD)
 |succ f ih=>
  intro Ae st inv hZ hr hv Hh
  have iS:=(mem_ready.1 hr).1
  refine ⟨λh=>(by rw [h] at hr;cases hr),λj hj=>?_⟩
  have GD:=RE Ae inv hr j hj
  refine ⟨GD,?_⟩
  by_cases lf:j=i
  ·subst lf;exact ⟨oi,v,hi,hv,Hh⟩
  ·obtain ⟨_,oj,vj,IX,hvj,bZ⟩:=Hh.2 j (ready_mono hj lf)
   obtain ⟨PK,RJ,WT,OT⟩:=mem_ready.1 hj
   have:RJ=oj:=Aw (WT.symm.trans IX)
   subst this
   have mf: ∀e∈RJ.after,Region.binds .any e=true->e.on≠i:= λe he hb heq=>by
    have h1:=OT e he hb
    rw [heq,getD_both iS] at h1
    cases h1
   obtain ⟨p1,p2,p3⟩:=Oper.apart_spec (hZ j RJ IX lf PK mf)
   rw [uJ p1] at hvj
   refine ⟨RJ,vj,IX,hvj,?_⟩
   have KQ: ∀k ok,ops[k]?=some ok->k≠i->(Ae.setIfInBounds j true).getD k true=false->
     (∀e∈ok.after,Region.binds .any e=true->e.on≠i)->oi.apart ops ok=true:= λk ok hk hki QT LF=>by
    refine hZ k ok hk hki ?_ LF
    by_cases ZM:j=k
    ·subst ZM;exact PK
    ·rw [getD_set_ne true ZM] at QT;exact QT
   refine ih (Ae.setIfInBounds j true) (st.put RJ.dst vj) (inv.set hj (td j GD)) KQ (ready_mono hr (Fo lf)) (by rw [uJ p3];exact hv) ?_
   rw [Array.setIfInBounds_comm _ _ lf,<-St.put_comm st v vj p2]
   exact bZ
theorem kz: ∀(l:List Nat) (Ae:Array Bool),iF ops l Ae=true-> ∀j∈Region.ready .any ops Ae,j∈l
 | [],Ae,h,j,hj=>by simp only [iF,List.isEmpty_iff] at h;rw [h] at hj;cases hj
 |k::r,Ae,h,j,hj=>by
  simp only [iF,Ag,Ja,Ra] at h
  rcases h.1 with h1|h1
  ·rw [h1] at hj
   simp at hj
   simp [hj]
  ·by_cases e:j=k
   ·simp [e]
   ·exact Aq _ (kz r _ h.2 j (ready_mono hj e))
theorem sy {fl:List Nat} (Wz:Region.noSelect ops=true) (hs:nb ops hd tl=true) (Vc: ∀i,i∈hd->i<ops.size) (Ig: ∀j,j<ops.size->j∈fl\/j∈hd\/j∈tl) (td: ∀j,j∈hd->j∉tl) (st':St):
  ∀(l:List Nat) (Ae:Array Bool) (st:St),(∀i,i∈l->i∈hd)->Ub ops tl fl Ae->jc ops tl l Ae=true->Ef T Γ ops l st=some st'->
  AA T Γ ops hd (λqR s=>iF ops tl qR=true/\s=st') l.length Ae st
 | [],Ae,st,_,_,hB,he=>by
  simp only [Ef,Aa] at he
  exact ⟨by simpa [jc] using hB,he⟩
 |k::l,Ae,st,hl,inv,hB,he=>by
  simp only [jc,Ag] at hB
  obtain ⟨⟨hr,hf⟩,hB'⟩:=hB
  have ZN:=hl k (by simp)
  have eH:k∈Region.ready .any ops Ae:=by simpa using hr
  simp only [Ef] at he
  split at he
  ·cases he
  ·rename_i o ho
   split at he
   ·rename_i v hv
    exact uV ho hs Vc ZN Ig td (λqR s hL=>kz tl qR hL.1) l.length Ae st inv (Region.free_spec ho hf) eH hv
     (sy Wz hs Vc Ig td st' l _ _ (λi hi=>hl i (by simp [hi])) (inv.set eH (td k ZN)) hB' he)
   ·cases he
theorem qo {Q:Exit->Act->World->Prop} (hQ: ∀e a w,Q e a w->e= .normal) {k i:Nat} {x:Operand} {o:Oper} (ho:ops[k]?=some o) (lh:o.op= .extract x i) (hg:o.guard=none) {K:Act->World->Prop} {a:Act} {w:World}
  (h:wpOp P ops Q k K a w): ∃v,Yields P ops o v a/\K (a.put o.dst v) w:=by
 unfold wpOp at h
 simp only [ho] at h
 have hw:Region.wanted o (yielded ops a.tmps)=true:=by simp [Region.wanted,hg]
 rw [Af hw] at h
 rcases h with h|⟨_,a',w',h⟩
 ·unfold Oper.wp at h
  have hr: ∀w,(execOp a.eval o).run P w=(do pure (Next.value (<-Instr.extract (a.eval x) i))).run P w:= λw=>by unfold execOp;rw [lh]
  rw [hr] at h
  unfold Instr.extract at h hr
  split at h
  ·rename_i vs hx
   split at h
   ·rename_i v hv
    rw [hx] at hr
    simp only [hv] at hr
    exact ⟨v, .inl ⟨hw,λw=>(hr w).trans rfl⟩,h⟩
   ·exact h.elim
  ·exact h.elim
 ·cases hQ _ _ _ h
theorem Zo {Q:Exit->Act->World->Prop} (hQ: ∀e a w,Q e a w->e= .normal) (Wz:Region.noSelect ops=true): ∀(l:List Nat) (Ae:Array Bool) (a:Act) (w:World),iF ops l Ae=true->wpOps P ops Q l a w->wpAny P .any ops Q l.length Ae a w
 | [],Ae,a,w,hB,h=>⟨by simpa [iF] using hB,h⟩
 |k::r,Ae,a,w,hB,h=>by
  simp only [iF,Ag,Ja,Ra] at hB
  rw [wpOps_cons] at h
  rcases hB.1 with h0|⟨h1,h2,h3⟩
  ·refine ⟨λh1=>(by rw [h0] at h1;cases h1),λi hi=>?_⟩
   rw [h0] at hi
   have IN:i=k:=by simpa using hi
   subst IN
   exact wpOp_mono (λa' w' h'=>Zo hQ Wz r _ a' w' hB.2 h') h
  ·unfold CF at h1
   split at h1
   ·rename_i o ho
    split at h1
    ·rename_i x i lh hg
     obtain ⟨v,hy,hk⟩:=qo hQ ho lh hg h
     exact wpAny_take ho Wz h3 h2 (λc a w hq=>by cases hQ _ _ _ hq) hy (Zo hQ Wz r _ _ w hB.2 hk)
    ·cases h1
   ·cases h1
theorem gZ {P:Program} {o:Oper} {t:Tmp} {a:Act} (h:o.op= .move (.tmp t)) (hg:o.guard=none):Yields P ops o (a.tmps.getD t undef) a:=by
 refine .inl ⟨by simp [Region.wanted,hg],λw=>?_⟩
 unfold execOp
 rw [h]
 rfl
theorem qG {hd tl:List Nat} {i:Nat} (h:ig ops hd tl i=true): ∃o t,ops[i]?=some o/\o.op= .move (.tmp t)/\o.guard=none:=by
 unfold ig at h
 split at h
 ·rename_i o ho
  simp only [Ag] at h
  have h1:=h.1
  split at h1
  ·rename_i t h2 h3
   exact ⟨o,t,ho,h2,h3⟩
  ·cases h1
 ·cases h
theorem cp {q:Bool} {hd:List Nat} {Q:Exit->Act->World->Prop} (hQ: ∀c a w,¬Q (.panic c) a w) (Wz:Region.noSelect ops=true) {n:Nat} {st1:St}
  (bZ: ∀Ae st a w,(∀j oj,ops[j]?=some oj->Ae.getD j false=true-> ∀e∈oj.after,Region.binds .any e=true->Ae.getD e.on false=true)->Ae.size=ops.size->jc ops tl hd Ae=true->st=st1->Rel X st a w->
   (∀j,Ae.getD j false=true↔j∈Ri q Γ ops)->wpAny P .any ops Q n Ae a w):
  ∀(l dn:List Nat) (Ae:Array Bool) (st:St) (a:Act) (w:World),(∀j,j∈Ri q Γ ops↔j∈dn\/j∈l)->(∀i,i∈l-> ∃o t,ops[i]?=some o/\o.op= .move (.tmp t)/\o.guard=none)->
   (∀j oj,ops[j]?=some oj->Ae.getD j false=true-> ∀e∈oj.after,Region.binds .any e=true->Ae.getD e.on false=true)->Ae.size=ops.size->(∀j,Ae.getD j false=true↔j∈dn)->
   gY ops tl hd l Ae=true->Ef T Γ ops l st=some st1->Rel X st a w->wpAny P .any ops Q (l.length+n) Ae a w
 | [],dn,Ae,st,a,w,hm,_,hc,Vc,VU,hf,he,hr=>by
  simp only [Ef,Aa] at he
  rw [Jb,Dp]
  exact bZ Ae st a w hc Vc (by simpa [gY] using hf) he hr λj=>by rw [VU j,hm j];simp
 |k::l,dn,Ae,st,a,w,hm,hl,hc,Vc,VU,hf,he,hr=>by
  simp only [gY,Ag] at hf
  obtain ⟨⟨h1,h2⟩,h3⟩:=hf
  obtain ⟨o,t,ho,lh,hg⟩:=hl k (by simp)
  have nR:k∈Region.ready .any ops Ae:=by simpa using h1
  obtain ⟨_,o',NR,Ig⟩:=mem_ready.1 nR
  have WR:o'=o:=Aw (NR.symm.trans ho)
  subst WR
  have hks:k<Ae.size:=by rw [Vc];exact (Hl.1 ho).1
  simp only [Ef,ho] at he
  have hv:Sd T Γ ops st o'=some (st.get t):=by simp only [Sd,hg,Se,Dq,lh];rfl
  rw [hv] at he
  rw [Bf,show l.length+1+n=(l.length+n)+1 by omega]
  refine wpAny_take ho Wz h2 h1 (λc a w hq=>absurd hq (hQ c _ w)) (gZ lh hg) ?_
  obtain ⟨π,hr⟩:=hr
  refine cp hQ Wz bZ l (k::dn) _ _ _ _ (λj=>by rw [hm j,Ay,Ay];exact ⟨λh=>h.elim (λh=> .inl (.inr h)) (λh=>h.elim (λh=> .inl (.inl h)) .inr),λh=>h.elim (λh=>h.elim (λh=> .inr (.inl h)) .inl) (λh=> .inr (.inr h))⟩) (λi hi=>hl i (by simp [hi])) ?_ (by simp [Vc]) (λj=>?_) h3 he ⟨π,hr.put o'.dst (hr.2.tmps t)⟩
  ·intro j oj hj ZP e ZH hb
   by_cases zX:k=j
   ·subst zX
    have:oj=o':=Aw (hj.symm.trans ho)
    subst this
    exact getD_set_true (Ig e ZH hb)
   ·rw [getD_set_ne false zX] at ZP
    exact getD_set_true (hc j oj hj ZP e ZH hb)
  ·by_cases zX:k=j
   ·subst zX
    refine ⟨λ_=>by simp,λ_=>?_⟩
    simp [hks]
   ·rw [getD_set_ne false zX,VU j]
    simp [Fo zX]
theorem bX {ops:Array Oper} : ∀(a b:List Nat) (st st':St),Ef T Γ ops (a++b) st=some st'-> ∃s,Ef T Γ ops a st=some s/\Ef T Γ ops b s=some st'
 | [],b,st,st',h=>⟨st,rfl,h⟩
 |i::a,b,st,st',h=>by
  simp only [Ov,Ef] at h⊢
  split at h
  ·cases h
  ·split at h
   ·exact bX a b _ st' h
   ·cases h
theorem j4 (hT:De P T) (Ls:Ib P Γ) (hm:P.follows .mixedOrders=true) {Q:Exit->Act->World->Prop} {id:Nat} {draw:Bool} {st st':St} {a:Act} (h:Rel X st a w)
  (he:Nx T Γ ops draw st=some st') (hQ: ∀a' w',Rel X st' a' w'->Q .normal a' w'):(Code.region id ops draw).wp P Q a w:=by
 unfold Nx at he
 cases draw with
 |false=>
  rw [Aj (by simp)] at he
  exact wp_region_list (eU hT Ls ops.toList st st' a w h he hQ)
 |true=>
  rw [Af rfl] at he
  have go: ∀(q:Bool),Yo q Γ ops=true->(match Ef T Γ ops (ei q Γ ops) st with
    |some st'=>Kb T Γ ops (Gv q Γ ops) st'
    |none=>none)=some st'->(Code.region id ops true).wp P Q a w:=by
   intro q kR he
   split at he
   ·rename_i st1 h1
    simp only [Yo,Ag,beq_iff_eq] at kR
    obtain ⟨⟨⟨Wz,hlen⟩,KO⟩,QQ⟩:=kR
    refine wp_mono (Q:= λe a w=>e= .normal/\Q .normal a w) ?_ λe a w h=>h.1▸h.2
    refine wp_region_any hm ?_
    have hrel:Rel X st a {w with drawn:=w.drawn+1} :=by
     obtain ⟨π,h⟩:=h
     exact ⟨π,h.quiet ⟨rfl,rfl,rfl,Ao _,λ_ _=>rfl⟩⟩
    obtain ⟨s0,h0,h1⟩:=bX _ _ _ _ h1
    have BH: ∀i,i∈Yh q Γ ops->i<ops.size:= λi hi=>Ho.1 (Bk.1 hi).1
    have Vc: ∀i,i∈Rl q Γ ops->i<ops.size:= λi hi=>BH i (Bk.1 hi).1
    have Ig: ∀j,j<ops.size->j∈Ri q Γ ops\/j∈Rl q Γ ops\/j∈Gv q Γ ops:= λj hj=>by
     by_cases ht:j∈Gv q Γ ops
     ·exact .inr (.inr ht)
     ·have hh:j∈Yh q Γ ops:=Bk.2 ⟨Ho.2 hj,by simpa using ht⟩
      cases FB:ig ops (Yh q Γ ops) (Gv q Γ ops) j with
      |true=>exact .inl (Bk.2 ⟨hh,FB⟩)
      |false=>exact .inr (.inl (Bk.2 ⟨hh,by rw [FB];rfl⟩))
    have IJ: ∀j,j∈Yh q Γ ops->j∉Gv q Γ ops:= λj hj=>by
     have:=(Bk.1 hj).2
     simpa using this
    have td: ∀j,j∈Rl q Γ ops->j∉Gv q Γ ops:= λj hj=>IJ j (Bk.1 hj).1
    have PA: ∀j,j∈Ri q Γ ops->j∉Gv q Γ ops:= λj hj=>IJ j (Bk.1 hj).1
    have htl: ∀t,t∈Gv q Γ ops->t<ops.size:=by
     intro t ht
     unfold Gv at ht
     have: ∀(l:List Nat) (acc:List Nat),(∀i,i∈acc->i<ops.size)->(∀i,i∈l->i<ops.size)-> ∀i,i∈l.foldl (init:=acc) (λacc i=>match ops[i]? with
       |some o=>if CO q Γ o||o.after.any (λe=>Region.binds .any e&&acc.contains e.on) then acc++ [i] else acc
       |none=>acc)->i<ops.size:=by
      intro l
      induction l with
      |nil=>intro acc h1 _ i hi;exact h1 i hi
      |cons x l ih=>
       intro acc h1 h2 i hi
       simp only [Ky] at hi
       refine ih _ ?_ (λi hi=>h2 i (by simp [hi])) i hi
       intro k hk
       split at hk
       ·split at hk
        ·rcases Av.1 hk with hk|hk
         ·exact h1 k hk
         ·simp at hk;rw [hk];exact h2 x (by simp)
        ·exact h1 k hk
       ·exact h1 k hk
     exact this (List.range ops.size) [] (by simp) (λi hi=>Ho.1 hi) t ht
    rw [<-hlen]
    refine cp (q:=q) (X:=X) (T:=T) (Γ:=Γ) (tl:=Gv q Γ ops) (hd:=Rl q Γ ops) (st1:=s0) (λc a w hq=>by cases hq.1) Wz ?_ (Ri q Γ ops) [] _ st a _ (λj=>by simp)
     (λi hi=>qG (Bk.1 hi).2) (λj oj _ hl=>(by rw [hlen,getD_replicate_false] at hl;cases hl)) (by simp [hlen]) (λj=>by rw [hlen,getD_replicate_false];simp) (by rw [hlen];exact KO) h0 hrel
    intro Ae s a' w' hc IU PI hs hr FB
    subst hs
    have XV:Ub ops (Gv q Γ ops) (Ri q Γ ops) Ae:=
     ⟨IU,λi hi=>(FB i).2 hi,hc,λt ht=>getD_in (by rw [IU];exact htl t ht) (by
      cases hg:Ae.getD t false with
      |false=>rfl
      |true=>exact absurd ht (PA t ((FB t).1 hg)))⟩
    have HA:=sy (T:=T) (Γ:=Γ) Wz QQ Vc Ig td st1 (Rl q Γ ops) _ s (λi hi=>hi) XV PI h1
    exact fD (X:=X) (P:=P) (Q:= λe a w=>e= .normal/\Q .normal a w) (g:=(Gv q Γ ops).length) hT Ls (λAe s a' w' hL hr=>by
     obtain ⟨XE,rfl⟩:=hL
     exact Zo (λe a w h=>h.1) Wz (Gv q Γ ops) Ae a' w' XE (eQ hT Ls _ _ st' a' w' hr he λa w h=>⟨rfl,hQ a w h⟩)) _ _ _ _ _ HA hr
   ·cases he
  split at he
  ·rename_i kR;exact go false kR he
  ·split at he
   ·rename_i kR;exact go true kR he
   ·cases he
theorem Zg (q:Bool): ∀(l:List Nat) (Ae:Array Bool),(Gs q ops l Ae).length<=l.length
 | [],_=>Ao _
 |i::r,Ae=>by
  simp only [Gs]
  split
  ·simp only [Bf];have:=Zg q r (Ae.setIfInBounds i true);omega
  ·simp only [Bf];have:=Zg q r Ae;omega
theorem uc (hT:De P T) {st:St} {a:Act} (h:Ax X π st a w) {i:Nat} {o:Oper} (ho:ops[i]?=some o) (hp:en ops i=true) {v:AV} (hv:Sd T Γ ops st o=some v):
  ∃u,Yields P ops o u a/\Ba X w π st.heap v u:=by
 unfold en at hp
 rw [ho] at hp
 simp only at hp
 obtain ⟨dst,op,ty,pos,af,gd⟩:=o
 split at hp
 ·rename_i t h3 h4
  simp only at h3 h4;subst h3;subst h4
  refine ⟨a.tmps.getD t undef,gZ rfl rfl,?_⟩
  simp only [Sd,Se,Dq,Aa] at hv
  subst hv
  exact h.2.tmps t
 ·rename_i x h3 h4
  simp only at h3 h4;subst h3;subst h4
  have e:=Co h.2 x
  have fin:(∃ad,a.eval x= .pointer (some ad))->Yields P ops ⟨dst, .nilCheck x,ty,pos,af,none⟩ (a.eval x) a:= λ⟨ad,hx⟩=>
   .inl ⟨by simp [Region.wanted],λw=>by simp [execOp,hx]⟩
  simp only [Sd,Se,Dq] at hv
  split at hv
  ·rename_i fr τ y hx
   simp only [Aa] at hv;subst hv
   rw [hx] at e
   have e':=e
   obtain ⟨cs,hc,hv⟩:=e
   simp only [Cells] at hc
   obtain ⟨g,o,rfl,_⟩:=hc
   simp only [Bi,Ty.Ak,Ci,Pk,cI] at hv
   exact ⟨_,fin ⟨_,hv⟩,e'⟩
  ·rename_i fr τ y hx
   simp only [Aa] at hv;subst hv
   rw [hx] at e
   obtain ⟨cs,hc,hv⟩:=e
   simp only [Cells] at hc
   rcases hc with ⟨h0,_⟩|⟨y',g,o,h0,rfl,hr⟩
   ·cases h0
   simp only [Aa] at h0;subst h0
   simp only [Bi,Ty.Ak,Ci,Pk,cI] at hv
   exact ⟨_,fin ⟨_,hv⟩,[_],⟨g,o,rfl,hr⟩,by rw [hv];simp [Bi,Ty.Ak]⟩
  ·rename_i l i hx
   simp only [Aa] at hv;subst hv
   rw [hx] at e
   have e':=e
   obtain ⟨r,tid,vs,_,_,hv⟩:=e
   exact ⟨_,fin ⟨_,hv⟩,e'⟩
  ·rename_i l i hx
   simp only [Aa] at hv;subst hv
   rw [hx] at e
   have e':=e
   obtain ⟨r,b,sz,n,_,_,_,_,hv⟩:=e
   exact ⟨_,fin ⟨_,hv⟩,e'⟩
  ·cases hv
 ·rename_i s x f h3 h4
  simp only at h3 h4;subst h3;subst h4
  simp only [Sd,Se,Dq] at hv
  obtain ⟨u,h1,h2⟩:=Yc hT (st:=st) _ _ _ _ v (Co h.2 x) hv
  refine ⟨u, .inl ⟨by simp [Region.wanted],λw=>?_⟩,h2⟩
  have:=h1 w
  simp only [execOp,Sem.run_bind]
  first
   |(rw [this];rfl)
   |simp [this]
 ·cases hp
theorem rq {i:Nat} (h:qH ops i=true):en ops i=true:=by
 unfold qH at h
 unfold en
 split at h
 ·rename_i o ho
  split at h
  ·rename_i h1 h2
   simp only [h1,h2]
  ·cases h
 ·cases h
theorem Xo (hT:De P T) (q:Bool) {Q:Exit->Act->World->Prop} (hQ: ∀c a w,¬Q (.panic c) a w) (Wz:Region.noSelect ops=true) {n:Nat} {st1:St} :
  ∀(l:List Nat) (Ae:Array Bool) (st:St) (a:Act) (w:World),Ef T Γ ops (Gs q ops l Ae) st=some st1->Rel X st a w->
   (∀a w,Rel X st1 a w->wpAny P .any ops Q n (Da (Gs q ops l Ae) Ae) a w)->wpAny P .any ops Q ((Gs q ops l Ae).length+n) Ae a w
 | [],Ae,st,a,w,he,hr,hK=>by
  simp only [Gs,Ef,Aa] at he
  subst he
  simp only [Gs,Jb,Dp]
  exact hK a w hr
 |k::l,Ae,st,a,w,he,hr,hK=>by
  simp only [Gs] at he hK⊢
  split
  ·rename_i hc
   rw [Af hc] at he hK
   simp only [Ag] at hc
   obtain ⟨h0,h1,h2⟩:=hc
   have hp:en ops k=true:=by
    cases q with
    |true=>exact h0
    |false=>exact rq h0
   simp only [Ef] at he
   split at he
   ·cases he
   rename_i o ho
   split at he
   rotate_left
   ·cases he
   rename_i v hv
   obtain ⟨π,hr⟩:=hr
   obtain ⟨u,hy,hu⟩:=uc (Γ:=Γ) hT hr ho hp hv
   rw [Bf,show (Gs q ops l (Ae.setIfInBounds k true)).length+1+n=((Gs q ops l (Ae.setIfInBounds k true)).length+n)+1 by omega]
   refine wpAny_take ho Wz h2 h1 (λc a w hq=>absurd hq (hQ c _ w)) hy ?_
   exact Xo hT q hQ Wz l _ _ _ _ he ⟨π,hr.put o.dst hu⟩ hK
  ·rename_i hc
   rw [Aj hc] at he hK
   exact Xo hT q hQ Wz l Ae st a w he hr hK
theorem fE (hT:De P T) (Ls:Ib P Γ) {Q:Exit->Act->World->Prop} {K:St->Prop} (hK: ∀st a w,K st->Rel X st a w->Q .normal a w):
  ∀(f:Nat) (Ae:Array Bool) (st:St) (a:Act) (w:World),anyS T Γ ops K f Ae st->Rel X st a w->wpAny P .any ops Q f Ae a w
 |0,Ae,st,a,w,h,hr=>⟨h.1,hK _ _ _ h.2 hr⟩
 |f+1,Ae,st,a,w,h,hr=>by
  refine ⟨λh0=>absurd h0 h.1,λi hi=>?_⟩
  obtain ⟨o,st',ho,he,bZ⟩:=h.2 i hi
  obtain ⟨π,hr⟩:=hr
  unfold wpOp
  simp only [ho]
  exact Rh hT Ls hr o he λa' w' h'=>fE hT Ls hK f _ _ _ _ bZ h'
def Pv (ops:Array Oper) (Ae:Array Bool):Prop:= ∀k a,Ae.getD k false=true->Region.waitsFor .any ops k a=true->Ae.getD a false=true
theorem Yq {Ae:Array Bool} {i a:Nat} (h:i∈Region.ready .any ops Ae) (hw:Region.waitsFor .any ops i a=true):Ae.getD a false=true:=by
 obtain ⟨_,o,ho,Ig⟩:=mem_ready.1 h
 obtain ⟨o',NR,e,he,hb,rfl⟩:=Region.waitsFor_spec hw
 rw [ho] at NR
 cases NR
 exact Ig e he hb
theorem Pv.set {Ae:Array Bool} (hc:Pv ops Ae) {i:Nat} (hi:i∈Region.ready .any ops Ae):Pv ops (Ae.setIfInBounds i true):= λk a hk hw=>by
 by_cases IN:i=k
 ·subst IN
  exact getD_set_true (Yq hi hw)
 ·rw [getD_set_ne false IN] at hk
  exact getD_set_true (hc k a hk hw)
theorem jM:Pv ops (Array.replicate ops.size false):= λk a hk _=>by
 rw [getD_replicate_false] at hk
 cases hk
theorem Vj (q:Bool): ∀(l:List Nat) (Ae:Array Bool),Pv ops Ae->Pv ops (Da (Gs q ops l Ae) Ae)
 | [],Ae,h=>h
 |i::r,Ae,h=>by
  simp only [Gs]
  split
  ·rename_i hc
   rw [Ag,Ag] at hc
   have hi:i∈Region.ready .any ops Ae:=by simpa using hc.2.1
   exact Vj q r _ (h.set hi)
  ·exact Vj q r Ae h
theorem Rp: ∀(l:List Nat) (Ae:Array Bool),(Da l Ae).size=Ae.size
 | [],_=>rfl
 |i::r,Ae=>by simp only [Da];rw [Rp r];simp
theorem bk: ∀(l:List Nat) (Ae:Array Bool) (k:Nat),k∈l->k<Ae.size->(Da l Ae).getD k false=true
 |i::r,Ae,k,h,hk=>by
  simp only [Da]
  by_cases hr:k∈r
  ·exact bk r _ k hr (by simpa using hk)
  ·have:k=i:=(Ay.1 h).resolve_right hr
   subst this
   have hs: ∀(l:List Nat) (A:Array Bool),A.getD k false=true->(Da l A).getD k false=true:=by
    intro l
    induction l with
    |nil=>exact λA h=>h
    |cons j l ih=>exact λA h=>ih _ (getD_set_true h)
   exact hs r _ (by simp [hk])
theorem Zf: ∀(l:List Nat) (Ae:Array Bool) (k:Nat),k∉l->(Da l Ae).getD k false=Ae.getD k false
 | [],_,_,_=>rfl
 |i::r,Ae,k,h=>by
  simp only [Da]
  rw [Zf r _ k λhk=>h (Aq _ hk),getD_set_ne false (λe=>h (by rw [e];simp))]
def Jl (E:List Nat) (Ae:Array Bool):List Nat:=E.filter λr=>!Ae.getD r false
def Zb (ops:Array Oper) (r:Nat):Option Tmp:=(ops[r]?).bind (·.dst)
def eP (ops:Array Oper) (Q:List Nat):List Nat:=Q.filterMap (Zb ops)
def Oa (ops:Array Oper):List Nat->St->St
 | [],st=>st
 |r::Q,st=>(Oa ops Q st).put (Zb ops r) .undef
def yb (ops:Array Oper):List Nat->Act->Act->Prop
 | [],a,a'=>a'=a
 |r::Q,a,a'=> ∃u,yb ops Q (a.put (Zb ops r) u) a'
theorem EJ {H:List (Nat×OB)} {v:Value} :Ba X w π H .undef v:=trivial
theorem dj (s:St) (d:Option Tmp) (v:AV) (t:Nat):(d=some t->(s.put d v).get t=v\/(s.put d v).get t= .undef)/\(d≠some t->(s.put d v).get t=s.get t):=by
 cases d with
 |none=>exact ⟨λh=>(by cases h),λ_=>rfl⟩
 |some e=>
  have key:(s.put (some e) v).get t=if e=t/\t<s.tmps.length then v else s.get t:=Ng _ _ _ _ _
  refine ⟨λh=>?_,λh=>?_⟩
  ·cases h
   rw [key]
   by_cases hl:t<s.tmps.length
   ·rw [Af ⟨rfl,hl⟩];exact .inl rfl
   ·rw [Aj (λh=>hl h.2)]
    exact .inr (by unfold St.get;rw [An,Ee (by omega)];rfl)
  ·rw [key,Aj]
   rintro ⟨rfl,_⟩
   exact h rfl
theorem eu (s:St) (d:Option Tmp) (v:AV):(s.put d v).heap=s.heap:=by cases d<;>rfl
theorem iB (s:St) (d:Option Tmp) (v:AV):(s.put d v).tmps.length=s.tmps.length:=by
 cases d with
 |none=>rfl
 |some d=>exact Uo _ _ _
theorem Nb: ∀(Q:List Nat) (st:St),(Oa ops Q st).heap=st.heap
 | [],_=>rfl
 |r::Q,st=>by simp only [Oa];rw [eu,Nb Q]
theorem Rq: ∀(Q:List Nat) (st:St),(Oa ops Q st).tmps.length=st.tmps.length
 | [],_=>rfl
 |r::Q,st=>by simp only [Oa];rw [iB,Rq Q]
theorem Iw {Q:List Nat} {t:Nat} :t∈eP ops Q↔ ∃r∈Q,Zb ops r=some t:=List.mem_filterMap
theorem Ob: ∀(Q:List Nat) (st:St) (t:Nat),(t∈eP ops Q->(Oa ops Q st).get t= .undef)/\(t∉eP ops Q->(Oa ops Q st).get t=st.get t)
 | [],st,t=>⟨λh=>by simp [eP] at h,λ_=>rfl⟩
 |r::Q,st,t=>by
  obtain ⟨h1,h2⟩:=Ob Q st t
  obtain ⟨g1,g2⟩:=dj (Oa ops Q st) (Zb ops r) .undef t
  simp only [Oa]
  by_cases hd:Zb ops r=some t
  ·refine ⟨λ_=>(g1 hd).elim id id,λh=>absurd (Iw.2 ⟨r,Jh ..,hd⟩) h⟩
  ·refine ⟨λh=>?_,λh=>?_⟩
   ·rw [g2 hd]
    obtain ⟨q,hq,he⟩:=Iw.1 h
    rcases Ay.1 hq with rfl|hq
    ·exact absurd he hd
    ·exact h1 (Iw.2 ⟨q,hq,he⟩)
   ·rw [g2 hd]
    exact h2 λhm=>by
     obtain ⟨q,hq,he⟩:=Iw.1 hm
     exact h (Iw.2 ⟨q,Aq _ hq,he⟩)
theorem mS {st s:St} {a:Act} (h:Ax X π st a w) (hh:s.heap=st.heap) (hl:s.tmps.length=st.tmps.length) (hg: ∀t,s.get t=st.get t\/s.get t= .undef):Ax X π s a w:=by
 refine ⟨by rw [hh];exact h.1,⟨by rw [hl];exact h.2.size,h.2.defers,λt=>?_⟩⟩
 rw [hh]
 rcases hg t with e|e
 ·rw [e];exact h.2.tmps t
 ·rw [e];exact EJ
theorem uI {st s:St} {o:Oper} (hh:s.heap=st.heap) (hg: ∀t,t∈o.looksAt ops->s.get t=st.get t):Sd T Γ ops s o=Sd T Γ ops st o:=by
 obtain ⟨ts,H⟩:=s
 obtain ⟨ts',H'⟩:=st
 simp only at hh
 subst hh
 exact pT hg
theorem ku (hT:De P T) (Ls:Ib P Γ) {st:St} {a:Act} (h:Ax X π st a w) {i:Nat} {o:Oper} (ho:ops[i]?=some o) (hp:eo ops i=true) {v:AV} (hv:Sd T Γ ops st o=some v):
  ∃u,(∀(Q:Exit->Act->World->Prop) (K:Act->World->Prop),K (a.put o.dst u) w->wpOp P ops Q i K a w)/\Ba X w π st.heap v u:=by
 unfold eo at hp
 rw [ho] at hp
 simp only at hp
 have SY:o.guard=none:=by
  obtain ⟨dst,op,ty,pos,af,gd⟩:=o
  cases gd with
  |none=>rfl
  |some g=>split at hp<;>first|rfl|(rename_i h4;cases h4)|cases hp
 have hb:Se T Γ st o=some v:=by
  unfold Sd at hv
  rw [SY] at hv
  exact hv
 have hw:Region.wanted o (yielded ops a.tmps)=true:=by simp [Region.wanted,SY]
 have fin: ∀s:Sem Value,execOp a.eval o=(do pure (.value (<-s)))->Dq T Γ st o=some v-> ∃u,(∀(Q:Exit->Act->World->Prop) (K:Act->World->Prop),K (a.put o.dst u) w->wpOp P ops Q i K a w)/\Ba X w π st.heap v u:=by
  intro s he hq
  have hg:=db hT Ls h o v hq
  rw [he,Sem.run_bind] at hg
  cases hr:s.run P w with
  |ok u w'=>
   rw [hr] at hg
   obtain ⟨e,hu⟩:=(show w'=w/\Ba X w π st.heap v u from hg)
   subst e
   refine ⟨u,λQ K hK=>?_,hu⟩
   unfold wpOp
   simp only [ho]
   rw [Af hw]
   refine .inl ?_
   unfold Oper.wp
   rw [he,Sem.run_bind,hr]
   exact hK
  |halt x w'=>rw [hr] at hg;exact hg.elim
 obtain ⟨dst,op,ty,pos,af,gd⟩:=o
 simp only at SY
 subst SY
 split at hp
 ·rename_i x h3 h4
  simp only at h3;subst h3
  exact fin (pure (a.eval x)) (by simp [execOp]) hb
 ·rename_i x h3 h4
  simp only at h3;subst h3
  exact fin _ rfl hb
 ·rename_i x h3 h4
  simp only at h3;subst h3
  exact fin _ rfl hb
 ·rename_i x h3 h4
  simp only at h3;subst h3
  exact fin _ rfl hb
 ·cases hp
theorem zP {j:Nat} {oi oj:Oper} {v:Value} (hj:ops[j]?=some oj) (NH:oi.apart ops oj=true) (QR: ∀cs b,oj.op≠ .select cs b)
  {Q:Exit->Act->World->Prop} (hQ: ∀c a w,¬Q (.panic c) a w) {K:Act->World->Prop} {a:Act} {w:World} (h:wpOp P ops Q j K (a.put oi.dst v) w):
  wpOp P ops Q j (λa' w'=>K (a'.put oi.dst v) w') a w:=by
 obtain ⟨h1,h2,h3⟩:=Oper.apart_spec NH
 unfold wpOp at*
 simp only [hj] at*
 rw [wanted_put oj a oi.dst v h1] at h
 split
 ·rename_i hw
  simp only [hw,Nh] at h
  rcases h with h|⟨IF,PQ⟩
  case inr=>exact .inr ⟨by unfold Oper.asks at*;rw [execOp_put oj QR a oi.dst v h1] at IF;exact IF,PQ⟩
  refine .inl ?_
  unfold Oper.wp at*
  rw [execOp_put oj QR a oi.dst v h1] at h
  generalize (execOp a.eval oj).run P w=r at*
  cases r with
  |ok n w'=>
   cases n<;>simp only [Oper.upon] at h⊢
   case value u=>rw [<-Act.put_comm a v u h2];exact h
   case skip=>rw [<-Act.put_comm a v undef h2];exact h
   case defer d=>
    rw [<-Act.put_comm _ v undef h2,<-Act.put_defers]
    exact h
   case enter f args=>
    refine Calls.mono h λe kF he=>?_
    cases e with
    |returned u=>show K ((a.put oj.dst u).put oi.dst v) kF;rw [<-Act.put_comm a v u h2];exact he
    |panicked c=>exact absurd he (hQ _ _ _)
    |outgrown=>exact he
   case row row args=>exact Rows.mono h λu kF he=>by rw [<-Act.put_comm a v u h2];exact he
  |halt x w'=>
   cases x<;>simp only [Oper.upon] at h⊢
   case panic u=>exact absurd h (hQ _ _ _)
 ·rename_i hw
  simp only [hw] at h
  rw [<-Act.put_comm a v undef h2];exact h
theorem pF: ∀ {Q:List Nat} {a a':Act},yb ops Q a a'->a'.defers=a.defers/\a'.tmps.size=a.tmps.size/\ ∀t,t∉eP ops Q->a'.tmps.getD t undef=a.tmps.getD t undef
 | [],a,a',h=>by cases h;exact ⟨rfl,rfl,λ_ _=>rfl⟩
 |r::Q,a,a',⟨u,h⟩=>by
  obtain ⟨h1,h2,h3⟩:=pF h
  have hp:(a.put (Zb ops r) u).defers=a.defers/\(a.put (Zb ops r) u).tmps.size=a.tmps.size:=by cases Zb ops r<;>simp [Act.put]
  refine ⟨h1.trans hp.1,h2.trans hp.2,λt ht=>?_⟩
  have hn:Zb ops r≠some t:= λe=>ht (Iw.2 ⟨r,Jh ..,e⟩)
  rw [h3 t λhm=>ht (by obtain ⟨q,hq,he⟩:=Iw.1 hm;exact Iw.2 ⟨q,Aq _ hq,he⟩)]
  cases hd:Zb ops r with
  |none=>rfl
  |some d=>
   have Hs:d≠t:= λe=>hn (by rw [hd,e])
   simp [Act.put,Array.getElem?_setIfInBounds_ne Hs]
theorem DP {Q:List Nat} {st:St} {a a':Act} (hp:yb ops Q a a') (h:Ax X π st a' w):Ax X π (Oa ops Q st) a w:=by
 obtain ⟨h1,h2,h3⟩:=pF hp
 refine ⟨by rw [Nb];exact h.1,⟨by rw [Rq,<-h2];exact h.2.size,by rw [<-h1];exact h.2.defers,λt=>?_⟩⟩
 rw [Nb]
 by_cases ht:t∈eP ops Q
 ·rw [(Ob Q st t).1 ht];exact EJ
 ·rw [(Ob Q st t).2 ht,<-h3 t ht];exact h.2.tmps t
theorem pV {j:Nat} {oj:Oper} (hj:ops[j]?=some oj) (QR: ∀cs b,oj.op≠ .select cs b) {Q:Exit->Act->World->Prop} (hQ: ∀c a w,¬Q (.panic c) a w) {K:Act->World->Prop} :
  ∀(L:List Nat) (a a':Act) (w:World),(∀r∈L,∃o,ops[r]?=some o/\o.apart ops oj=true)->yb ops L a a'->wpOp P ops Q j K a' w->wpOp P ops Q j (λa2 w2=> ∃a3,yb ops L a2 a3/\K a3 w2) a w
 | [],a,a',w,_,hp,h=>by cases hp;exact wpOp_mono (λa2 w2 hk=>⟨a2,rfl,hk⟩) h
 |r::L,a,a',w,NH,⟨u,hp⟩,h=>by
  obtain ⟨o,ho,ha⟩:=NH r (Jh ..)
  have hd:Zb ops r=o.dst:=by unfold Zb;rw [ho];rfl
  rw [hd] at hp
  have ih:=pV hj QR hQ L _ a' w (λq hq=>NH q (Aq _ hq)) hp h
  exact wpOp_mono (λa2 w2 ⟨a3,h1,h2⟩=>⟨a3,⟨u,by rw [hd];exact h1⟩,h2⟩) (zP hj ha QR hQ ih)
def uX (ops:Array Oper):List Nat->Prop
 | []=>True
 |r::L=>(∀q∈r::L,∀o d,ops[r]?=some o->Zb ops q=some d->d∉o.looksAt ops)/\(∀q∈L,∀d,Zb ops r=some d->Zb ops q≠some d)/\uX ops L
def oM (ops:Array Oper):List Nat->Prop
 | []=>True
 |r::L=>(∀q∈L,Region.waitsFor .any ops q r=true\/ ∀o d,ops[q]?=some o->Zb ops r=some d->d∉o.looksAt ops)/\oM ops L
theorem uX.filter {p:Nat->Bool} : ∀ {L:List Nat},uX ops L->uX ops (L.filter p)
 | [],_=>trivial
 |r::L,⟨h1,h2,h3⟩=>by
  rw [List.filter_cons]
  split
  ·exact ⟨λq hq=>h1 q (by rcases Ay.1 hq with rfl|hq;exact Jh ..;exact Aq _ (Bk.1 hq).1),λq hq=>h2 q (Bk.1 hq).1,h3.filter⟩
  ·exact h3.filter
theorem oM.filter {p:Nat->Bool} : ∀ {L:List Nat},oM ops L->oM ops (L.filter p)
 | [],_=>trivial
 |r::L,⟨h1,h3⟩=>by
  rw [List.filter_cons]
  split
  ·exact ⟨λq hq=>h1 q (Bk.1 hq).1,h3.filter⟩
  ·exact h3.filter
theorem Up {i j:Nat} {p:Oper->Oper->Bool} (h:jF ops i j p=true): ∃x y,ops[i]?=some x/\ops[j]?=some y/\p x y=true:=by
 unfold jF at h
 split at h
 ·rename_i x y h1 h2;exact ⟨x,y,h1,h2,h⟩
 ·cases h
theorem bK {x y:Oper} (h:iM ops x y=true): ∀d,x.dst=some d->d∉y.looksAt ops:= λd hd=>by
 unfold iM at h
 rw [hd] at h
 simpa using h
theorem sP {x y:Oper} (h:vE x y=true): ∀d,x.dst=some d->y.dst≠some d:= λd hd=>by
 unfold vE at h
 rw [hd] at h
 simpa using h
theorem Yb {r:Nat} {o:Oper} (h:ops[r]?=some o):Zb ops r=o.dst:=by unfold Zb;rw [h];rfl
theorem kl: ∀ {E:List Nat},rk ops E=true->uX ops E/\oM ops E
 | [],_=>⟨trivial,trivial⟩
 |r::E,h=>by
  simp only [rk,Ag,Au] at h
  obtain ⟨⟨h1,h2⟩,h3⟩:=h
  obtain ⟨g1,g2⟩:=kl h3
  refine ⟨⟨λq hq o d ho hd=>?_,λq hq d hd=>?_,g1⟩,λq hq=>?_,g2⟩
  ·rcases Ay.1 hq with rfl|hq
   ·obtain ⟨x,y,hx,hy,hp⟩:=Up h1
    rw [ho] at hx hy;cases hx;cases hy
    rw [Yb ho] at hd
    exact bK hp d hd
   ·obtain ⟨x,y,hx,hy,hp⟩:=Up (h2 q hq).1
    rw [ho] at hx;cases hx
    rw [Yb hy] at hd
    exact bK (Fg.1 hp).2 d hd
  ·obtain ⟨x,y,hx,hy,hp⟩:=Up (h2 q hq).1
   rw [Yb hx] at hd
   rw [Yb hy]
   exact sP (Fg.1 hp).1 d hd
  ·have h4:=(h2 q hq).2
   rw [Ja] at h4
   rcases h4 with h4|h4
   ·exact .inl h4
   ·refine .inr λo d ho hd=>?_
    obtain ⟨x,y,hx,hy,hp⟩:=Up h4
    rw [ho] at hy;cases hy
    rw [Yb hx] at hd
    exact bK hp d hd
theorem HV (hT:De P T) (Ls:Ib P Γ) {st:St} : ∀(L:List Nat) (a:Act),(∀r∈L,eo ops r=true/\ ∃o v,ops[r]?=some o/\Sd T Γ ops st o=some v/\ ∀d,o.dst=some d->st.get d=v)->uX ops L->
  Ax X π (Oa ops L st) a w-> ∃a',yb ops L a a'/\Ax X π st a' w
 | [],a,_,_,h=>⟨a,rfl,h⟩
 |r::L,a,hs,⟨f1,f2,f3⟩,h=>by
  obtain ⟨hr,o,v,ho,hv,hd⟩:=hs r (Jh ..)
  have PB:=Yb ho
  have tq:Sd T Γ ops (Oa ops (r::L) st) o=some v:=by
   rw [uI (st:=st) (Nb _ _) λt ht=>(Ob _ _ _).2 λhm=>by
    obtain ⟨q,hq,he⟩:=Iw.1 hm
    exact f1 q hq o t ho he ht]
   exact hv
  obtain ⟨u,_,hu⟩:=ku hT Ls h ho hr tq
  have h2:=h.put o.dst hu
  have h3:Ax X π (Oa ops L st) (a.put o.dst u) w:=by
   refine mS h2 ?_ ?_ λt=>?_
   ·rw [eu,Nb,Nb]
   ·rw [iB,Rq,Rq]
   ·obtain ⟨g1,g2⟩:=dj (Oa ops (r::L) st) o.dst v t
    by_cases he:o.dst=some t
    ·have tj:t∉eP ops L:= λhm=>by
      obtain ⟨q,hq,QH⟩:=Iw.1 hm
      exact f2 q hq t (by rw [PB];exact he) QH
     rw [(Ob L st t).2 tj,hd t he]
     rcases g1 he with g|g
     ·exact .inl g.symm
     ·by_cases hl:t<st.tmps.length
      ·refine .inl ?_
       rw [he]
       show v=((Oo (Oa ops (r::L) st).tmps t v).getD t .undef)
       rw [Ng,Af ⟨rfl,by rw [Rq];exact hl⟩]
      ·refine .inr ?_
       rw [<-hd t he]
       unfold St.get
       rw [An,Ee (by omega)]
       rfl
    ·rw [g2 he]
     have:(Oa ops (r::L) st).get t=(Oa ops L st).get t:=(dj (Oa ops L st) (Zb ops r) .undef t).2 (by rw [PB];exact he)
     exact .inl this.symm
  obtain ⟨a',hp,ct⟩:=HV hT Ls L _ (λq hq=>hs q (Aq _ hq)) f3 h3
  exact ⟨a',⟨u,by rw [PB];exact hp⟩,ct⟩
theorem AX: ∀ {L:List Nat},uX ops L->oM ops L-> ∀ {i:Nat} {o:Oper},i∈L->ops[i]?=some o->(∀q∈L,Region.waitsFor .any ops i q=true->False)-> ∀q∈L,∀d,Zb ops q=some d->d∉o.looksAt ops
 | [],_,_,i,_,hi,_,_=>by cases hi
 |r::L,⟨f1,f2,f3⟩,⟨b1,b2⟩,i,o,hi,ho,hw=> λq hq d hd=>by
  by_cases ZK:i=r
  ·subst ZK
   exact f1 q hq o d ho hd
  ·have k9:=(Ay.1 hi).resolve_left ZK
   rcases Ay.1 hq with rfl|tm
   ·rcases b1 i k9 with h|h
    ·exact (hw q hq h).elim
    ·exact h o d ho hd
   ·exact AX f3 b2 k9 ho (λq hq=>hw q (Aq _ hq)) q tm d hd
theorem jS {Ae:Array Bool} (Vc:Ae.size=ops.size): ∀ {E:List Nat} {L:Array Bool} {r:Nat} {Q:List Nat},dH ops E L=true->(∀j,L.getD j false=true->Ae.getD j false=true)->Jl E Ae=r::Q->r∈Region.ready .any ops Ae
 | [],_,_,_,_,_,h=>by simp [Jl] at h
 |e::E,L,r,Q,hr,hl,hp=>by
  simp only [dH,Ag,Gx] at hr
  unfold Jl at hp
  rw [List.filter_cons] at hp
  by_cases he:Ae.getD e false=true
  ·rw [Aj (by rw [he];simp)] at hp
   refine jS Vc hr.2 (λj hj=>?_) hp
   by_cases ZG:e=j
   ·subst ZG;exact he
   ·rw [getD_set_ne false ZG] at hj;exact hl j hj
  ·have he:Ae.getD e false=false:=by simpa using he
   rw [Af (by rw [he];rfl)] at hp
   injection hp with pa xE
   subst pa
   obtain ⟨_,o,ho,Ig⟩:=mem_ready.1 hr.1
   have Im:e<Ae.size:=by rw [Vc];exact (Hl.1 ho).1
   exact mem_ready.2 ⟨getD_in Im he,o,ho,λx hx hb=>hl _ (Ig x hx hb)⟩
theorem az {Ae:Array Bool} {j:Nat} (h:Ae.getD j true=false):j<Ae.size:=by
 rcases Nat.lt_or_ge j Ae.size with h'|h'
 ·exact h'
 ·simp [Array.getElem?_eq_none h'] at h
theorem oL (hT:De P T) (Ls:Ib P Γ) {Q:Exit->Act->World->Prop} (hQ: ∀c a w,¬Q (.panic c) a w) {K:St->Prop} (hK: ∀st a w,K st->Rel X st a w->Q .normal a w) (Wz:Region.noSelect ops=true)
  {E:List Nat} {L0:Array Bool} (hE:Yp ops E L0=true): ∀(n f:Nat) (Ae LA:Array Bool) (st:St) (a:Act) (w:World),n=f+(Jl E Ae).length->Ae.size=ops.size->LA.size=ops.size->
   (∀j,LA.getD j false=(Ae.getD j false||E.contains j))->Pv ops Ae->(∀j,L0.getD j false=true->Ae.getD j false=true)->kJ T Γ ops E K f LA st->Rel X (Oa ops (Jl E Ae) st) a w->wpAny P .any ops Q n Ae a w:=by
 simp only [Yp,Ag,Au] at hE
 obtain ⟨⟨QL,QO⟩,hpr,NH⟩:=hE
 obtain ⟨PE,jX⟩:=kl hpr
 have key: ∀(n f:Nat) (Ae LA:Array Bool) (st:St) (a:Act) (w:World),n=f+(Jl E Ae).length->Ae.size=ops.size->LA.size=ops.size->
   (∀j,LA.getD j false=(Ae.getD j false||E.contains j))->Pv ops Ae->(∀j,L0.getD j false=true->Ae.getD j false=true)->kJ T Γ ops E K f LA st->Rel X (Oa ops (Jl E Ae) st) a w->
   (∀j,j∈Region.ready .any ops Ae->j∉E->j∈Region.ready .any ops LA)/\(Region.ready .any ops Ae= []->Q .normal a w/\f=0/\Jl E Ae= []):=by
  intro n f Ae LA st a w hn fX nH EZ Ol ID m8 hrel
  have h1: ∀j,j∈Region.ready .any ops Ae->j∉E->j∈Region.ready .any ops LA:= λj hj TA=>by
   obtain ⟨iS,o,ho,Ig⟩:=mem_ready.1 hj
   have Im:=az iS
   refine mem_ready.2 ⟨getD_in (by omega) ?_,o,ho,λe he hb=>by rw [EZ,Ig e he hb];rfl⟩
   rw [EZ,getD_both iS]
   simpa using TA
  refine ⟨h1,λh0=>?_⟩
  cases IY:Jl E Ae with
  |cons r L=>
   have:=jS fX QO ID IY
   rw [h0] at this
   cases this
  |nil=>
   have Ig: ∀r,r∈E->Ae.getD r false=true:= λr hr=>by
    have:r∉Jl E Ae:=by rw [IY];simp
    unfold Jl at this
    rw [Bk] at this
    by_cases hl:Ae.getD r false=true
    ·exact hl
    ·exact absurd ⟨hr,by simpa using hl⟩ this
   have hb: ∀j,j∈Region.ready .any ops LA->j∈Region.ready .any ops Ae:= λj hj=>by
    obtain ⟨iS,o,ho,hw⟩:=mem_ready.1 hj
    have Im:=az iS
    have he: ∀k,LA.getD k false=Ae.getD k false:= λk=>by
     rw [EZ]
     by_cases hk:k∈E
     ·rw [Ig k hk];rfl
     ·rw [show E.contains k=false by simpa using hk,cz]
    exact mem_ready.2 ⟨getD_in (by omega) (by rw [<-he];exact getD_both iS),o,ho,λe hx VN=>by rw [<-he];exact hw e hx VN⟩
   cases f with
   |zero=>
    obtain ⟨_,_,hk⟩:=m8
    rw [IY] at hrel
    exact ⟨hK _ _ _ hk hrel,rfl,rfl⟩
   |succ f=>
    obtain ⟨_,Hs,_⟩:=m8
    obtain ⟨j,hj⟩:=List.exists_mem_of_ne_nil _ Hs
    have:=hb j hj
    rw [h0] at this
    cases this
 intro n
 induction n with
 |zero=>
  intro f Ae LA st a w hn fX nH EZ Ol ID m8 hrel
  obtain ⟨k1,k2⟩:=key 0 f Ae LA st a w hn fX nH EZ Ol ID m8 hrel
  have hf:f=0:=by omega
  have hp:Jl E Ae= []:=Tn.1 (by omega)
  subst hf
  obtain ⟨_,hr,_⟩:=m8
  have h0:Region.ready .any ops Ae= []:=List.eq_nil_iff_forall_not_mem.2 λj hj=>by
   by_cases TA:j∈E
   ·have iS:=getD_both (mem_ready.1 hj).1
    have:j∈Jl E Ae:=Bk.2 ⟨TA,by rw [iS];rfl⟩
    rw [hp] at this
    cases this
   ·have:=k1 j hj TA
    rw [hr] at this
    cases this
  exact ⟨h0,(k2 h0).1⟩
 |succ n ih=>
  intro f Ae LA st a w hn fX nH EZ Ol ID m8 hrel
  obtain ⟨k1,k2⟩:=key (n+1) f Ae LA st a w hn fX nH EZ Ol ID m8 hrel
  have Yi:DZ T Γ ops E LA st:=by cases f<;>exact m8.1
  have BO: ∀r∈Jl E Ae,r∈E/\Ae.getD r false=false:= λr hr=>by
   obtain ⟨h1,h2⟩:=Bk.1 hr
   exact ⟨h1,by simpa using h2⟩
  have JD: ∀r∈Jl E Ae,eo ops r=true/\ ∃o v,ops[r]?=some o/\Sd T Γ ops st o=some v/\ ∀d,o.dst=some d->st.get d=v:= λr hr=>by
   obtain ⟨h1,h2⟩:=BO r hr
   refine ⟨QL r h1,(Yi r h1).resolve_left λhw=>?_⟩
   unfold ll at hw
   obtain ⟨j,_,hj⟩:=Dv.1 hw
   simp only [Ag,Ds] at hj
   obtain ⟨hj1,GC,hj3⟩:=hj
   rw [EZ,hj1,cz] at GC
   have:=Ol j r GC hj3
   rw [h2] at this
   cases this
  refine ⟨λh0=>(k2 h0).1,λi hi=>?_⟩
  obtain ⟨π,hrel⟩:=hrel
  have ZL: ∀q∈Jl E Ae,Region.waitsFor .any ops i q=true->False:= λq hq hw=>by
   have:=Yq hi hw
   rw [(BO q hq).2] at this
   cases this
  obtain ⟨iS,oi,ZT,_⟩:=mem_ready.1 hi
  have Im:=az iS
  by_cases KS:i∈E
  ·have zW:i∈Jl E Ae:=Bk.2 ⟨KS,by rw [getD_both iS];rfl⟩
   obtain ⟨hrd,o,v,ho,hv,hd⟩:=JD i zW
   have hnl:=AX (PE.filter (p:= λr=>!Ae.getD r false)) (jX.filter (p:= λr=>!Ae.getD r false)) zW ho ZL
   have tq:Sd T Γ ops (Oa ops (Jl E Ae) st) o=some v:=by
    rw [uI (st:=st) (Nb _ _) λt ht=>(Ob _ _ _).2 λhm=>by
     obtain ⟨q,hq,he⟩:=Iw.1 hm
     exact hnl q hq t he ht]
    exact hv
   obtain ⟨u,hy,hu⟩:=ku hT Ls hrel ho hrd tq
   refine hy Q _ ?_
   have IY: ∀q,q∈Jl E (Ae.setIfInBounds i true)↔q∈Jl E Ae/\q≠i:= λq=>by
    unfold Jl
    rw [Bk,Bk]
    by_cases NX:q=i
    ·subst NX
     simp [Im]
    ·rw [getD_set_ne false (Fo NX)]
     exact ⟨λh=>⟨h,NX⟩,λh=>h.1⟩
   have hlen:(Jl E Ae).length=(Jl E (Ae.setIfInBounds i true)).length+1:=by
    have tj: ∀(E:List Nat) (L:Array Bool),dH ops E L=true->E.Nodup/\ ∀r∈E,L.getD r true=false:=by
     intro E
     induction E with
     |nil=>exact λL _=>⟨Kh,λr hr=>by cases hr⟩
     |cons e E ihE=>
      intro L h
      simp only [dH,Ag,Gx] at h
      obtain ⟨g1,g2⟩:=ihE _ h.2
      have he:=(mem_ready.1 h.1).1
      have eZ:=az he
      refine ⟨Bw.2 ⟨λhm=>?_,g1⟩,λr hr=>?_⟩
      ·have:=g2 e hm
       simp [eZ] at this
      ·rcases Ay.1 hr with rfl|hr
       ·exact he
       ·have Hs:e≠r:= λe'=>by subst e';have:=g2 e hr;simp [eZ] at this
        have:=g2 r hr
        rw [getD_set_ne true Hs] at this
        exact this
    have UQ:=(tj E L0 QO).1
    have XW: ∀L:List Nat,L.Nodup->i∈L->(L.filter λr=>!Ae.getD r false).length=(L.filter λr=>!(Ae.setIfInBounds i true).getD r false).length+1:=by
     intro L
     induction L with
     |nil=>exact λ_ h=>by cases h
     |cons x L ihL=>
      intro hn hm
      obtain ⟨hx,hn⟩:=Bw.1 hn
      rw [List.filter_cons,List.filter_cons]
      by_cases XS:x=i
      ·subst XS
       rw [Af (by rw [getD_both iS];rfl),Aj (by simp [Im])]
       have:L.filter (λr=>!Ae.getD r false)=L.filter (λr=>!(Ae.setIfInBounds x true).getD r false):=List.filter_congr λq hq=>by
        rw [getD_set_ne false (λe=>hx (by rw [e];exact hq))]
       rw [Bf,this]
      ·have hm:=(Ay.1 hm).resolve_left (Fo XS)
       rw [getD_set_ne false (Fo XS)]
       split
       ·rw [Bf,Bf,ihL hn hm]
       ·exact ihL hn hm
    exact XW E UQ KS
   refine ih f (Ae.setIfInBounds i true) LA st _ w (by omega) (by simp [fX]) nH (λj=>?_) (Ol.set hi) (λj hj=>getD_set_true (ID j hj)) m8 ⟨π,?_⟩
   ·rw [EZ]
    by_cases fW:i=j
    ·subst fW
     rw [show E.contains i=true by simpa using KS,Bool.or_true,Bool.or_true]
    ·rw [getD_set_ne false fW]
   ·have h2:=hrel.put o.dst hu
    refine mS h2 ?_ ?_ λt=>?_
    ·rw [eu,Nb,Nb]
    ·rw [iB,Rq,Rq]
    ·have PB:=Yb ho
     by_cases hm:t∈eP ops (Jl E (Ae.setIfInBounds i true))
     ·exact .inr ((Ob _ _ _).1 hm)
     ·rw [(Ob _ _ _).2 hm]
      obtain ⟨g1,g2⟩:=dj (Oa ops (Jl E Ae) st) o.dst v t
      by_cases he:o.dst=some t
      ·rw [hd t he]
       rcases g1 he with g|g
       ·exact .inl g.symm
       ·by_cases hl:t<st.tmps.length
        ·refine .inl ?_
         rw [he]
         show v=((Oo (Oa ops (Jl E Ae) st).tmps t v).getD t .undef)
         rw [Ng,Af ⟨rfl,by rw [Rq];exact hl⟩]
        ·refine .inr ?_
         rw [<-hd t he]
         unfold St.get
         rw [An,Ee (by omega)]
         rfl
      ·rw [g2 he]
       refine .inl ((Ob _ _ _).2 λNQ=>?_).symm
       obtain ⟨q,hq,QH⟩:=Iw.1 NQ
       by_cases NX:q=i
       ·subst NX
        rw [PB] at QH
        exact he QH
       ·exact hm (Iw.2 ⟨q,(IY q).2 ⟨hq,NX⟩,QH⟩)
  ·cases f with
   |zero=>
    obtain ⟨_,hr,_⟩:=m8
    have:=k1 i hi KS
    rw [hr] at this
    cases this
   |succ f=>
    obtain ⟨_,_,xA⟩:=m8
    obtain ⟨o,st',ho,he,bZ⟩:=xA i (k1 i hi KS)
    obtain ⟨a',BS,PH⟩:=HV hT Ls (Jl E Ae) a JD PE.filter hrel
    have c5:wpOp P ops Q i (λa2 w2=>Rel X st' a2 w2) a' w:=by
     unfold wpOp
     simp only [ho]
     exact Rh hT Ls PH o he λa2 w2 h2=>h2
    have tf:=pV (Q:=Q) ho (λcs b=>Region.noSelect_spec Wz i o cs b ho) hQ (Jl E Ae) a a' w (λr hr=>?_) BS c5
    ·refine wpOp_mono (λa2 w2 hk=>?_) tf
     obtain ⟨a3,hp3,UD,hr3⟩:=hk
     have IY:Jl E (Ae.setIfInBounds i true)=Jl E Ae:=by
      unfold Jl
      refine List.filter_congr λq hq=>?_
      rw [getD_set_ne false (λe=>KS (by rw [e];exact hq))]
     refine ih f (Ae.setIfInBounds i true) (LA.setIfInBounds i true) st' a2 w2 (by rw [IY];omega) (by simp [fX]) (by simp [nH]) (λj=>?_) (Ol.set hi) (λj hj=>getD_set_true (ID j hj)) bZ ⟨UD,by rw [IY];exact DP hp3 hr3⟩
     by_cases fW:i=j
     ·subst fW
      simp [Im,fX▸Im,nH]
     ·rw [getD_set_ne false fW,getD_set_ne false fW,EZ]
    ·obtain ⟨hrE,hrl⟩:=BO r hr
     have h3:=Au.1 (Au.1 NH r hrE) i (Ho.2 (by omega))
     simp only [Ja] at h3
     rcases h3 with ((h3|h3)|h3)|h3
     ·exact absurd (by simpa using h3) KS
     ·have:=ID i h3
      rw [getD_both iS] at this
      cases this
     ·exact (ZL r hr h3).elim
     ·obtain ⟨x,y,hx,hy,hp⟩:=Up h3
      rw [ho] at hy;cases hy
      exact ⟨x,hx,hp⟩
theorem gU: ∀(E:List Nat) (s0 s1:St),Ef T Γ ops E s0=some s1->s1.heap=s0.heap/\s1.tmps.length=s0.tmps.length/\ ∀t,t∉eP ops E->s1.get t=s0.get t
 | [],s0,s1,h=>by
  simp only [Ef,Aa] at h
  subst h
  exact ⟨rfl,rfl,λ_ _=>rfl⟩
 |r::E,s0,s1,h=>by
  simp only [Ef] at h
  split at h
  ·cases h
  rename_i o ho
  split at h
  rotate_left
  ·cases h
  rename_i v hv
  obtain ⟨h1,h2,h3⟩:=gU E _ _ h
  refine ⟨by rw [h1,eu],by rw [h2,iB],λt ht=>?_⟩
  rw [h3 t λhm=>ht (by obtain ⟨q,hq,he⟩:=Iw.1 hm;exact Iw.2 ⟨q,Aq _ hq,he⟩)]
  exact (dj s0 o.dst v t).2 λe=>ht (Iw.2 ⟨r,Jh ..,by rw [Yb ho];exact e⟩)
theorem pA: ∀ {E:List Nat} {L0:Array Bool},dH ops E L0=true-> ∀r∈E,L0.getD r true=false
 | [],_,_,_,hr=>by cases hr
 |e::E,L0,h,r,hr=>by
  simp only [dH,Ag,Gx] at h
  have he:=(mem_ready.1 h.1).1
  rcases Ay.1 hr with rfl|hr
  ·exact he
  ·have h2:=pA h.2 r hr
   have Hs:e≠r:= λe'=>by subst e';simp [az he] at h2
   rw [getD_set_ne true Hs] at h2
   exact h2
theorem oK (hT:De P T) (Ls:Ib P Γ) {Q:Exit->Act->World->Prop} (hQ: ∀c a w,¬Q (.panic c) a w) {K:St->Prop} (hK: ∀st a w,K st->Rel X st a w->Q .normal a w) (Wz:Region.noSelect ops=true)
  {E:List Nat} {L0:Array Bool} (hE:Yp ops E L0=true) {n:Nat} (hn:E.length<=n) {Xq st1:St} (h1:Ef T Γ ops E Xq=some st1) (h2:kJ T Γ ops E K (n-E.length) (Da E L0) st1)
  (Vc:L0.size=ops.size) (Ol:Pv ops L0) {a:Act} {w:World} (hr:Rel X Xq a w):wpAny P .any ops Q n L0 a w:=by
 have YW:=hE
 simp only [Yp,Ag] at YW
 have iS:=pA YW.1.2
 have hp:Jl E L0=E:=List.filter_eq_self.2 λr hr=>by rw [getD_both (iS r hr)];rfl
 refine oL hT Ls hQ hK Wz hE n (n-E.length) L0 (Da E L0) st1 a w (by rw [hp];omega) Vc (by rw [Rp];exact Vc) (λj=>?_) Ol (λj hj=>hj) h2 ?_
 ·by_cases hj:j∈E
  ·rw [bk E L0 j hj (az (iS j hj)),show E.contains j=true by simpa using hj,Bool.or_true]
  ·rw [Zf E L0 j hj,show E.contains j=false by simpa using hj,cz]
 ·obtain ⟨π,hr⟩:=hr
  obtain ⟨g1,g2,g3⟩:=gU E _ _ h1
  refine ⟨π,mS hr (by rw [Nb,g1]) (by rw [Rq,g2]) λt=>?_⟩
  rw [hp]
  by_cases ht:t∈eP ops E
  ·exact .inr ((Ob _ _ _).1 ht)
  ·exact .inl (((Ob _ _ _).2 ht).trans (g3 t ht))
theorem Sk (live:List Nat): ∀(i:Nat) (l:List AV),(Fy live i l).length=l.length
 |_,[]=>rfl
 |i,v::r=>by simp [Fy,Sk live (i+1) r]
theorem Wr (live:List Nat): ∀(i:Nat) (l:List AV) (t:Nat),(Fy live i l).getD t .undef= .undef\/(Fy live i l).getD t .undef=l.getD t .undef
 |_,[],t=> .inr rfl
 |i,v::r,0=>by
  simp only [Fy,bO]
  split
  ·exact .inr rfl
  ·exact .inl rfl
 |i,v::r,t+1=>by
  simp only [Fy,Kn]
  exact Wr live (i+1) r t
theorem Zc: ∀(l:List Nat) (st:St) (a:Act) (w:World),Rel X st a w->Rel X (Vz l st) a w
 | [],_,_,_,h=>h
 |k::r,_,a,w,⟨_,h⟩=>Zc r _ a w ⟨_,h.forget k⟩
theorem zw (dead:List Nat) {st:St} {a:Act} {w:World} (h:Rel X st a w):Rel X (st.Mw dead) a w:=by
 obtain ⟨π,h⟩:=h
 unfold St.Mw
 refine Zc _ _ a w ⟨π,h.1,⟨by simp [Sk,h.2.size],h.2.defers,λt=>?_⟩⟩
 show Ba X w π st.heap ((Fy _ 0 st.tmps).getD t .undef) _
 rcases Wr ((List.range st.tmps.length).filter λt=>!dead.contains t) 0 st.tmps t with e|e
 ·rw [e];trivial
 ·rw [e];exact h.2.tmps t
theorem kv (hT:De P T) (Ls:Ib P Γ) (hm:P.follows .mixedOrders=true) {Q:Exit->Act->World->Prop} {id:Nat} {draw:Bool} {st:St} {K:St->Prop} {a:Act} (h:Rel X st a w)
  (he:eJ T Γ ops draw st K) (hQ: ∀st' a' w',K st'->Rel X st' a' w'->Q .normal a' w'):(Code.region id ops draw).wp P Q a w:=by
 rcases he with ⟨st',h1,h2⟩|⟨rfl,Wz,Xq,h1,h2⟩
 ·exact j4 hT Ls hm h h1 λa' w' h'=>hQ st' a' w' h2 h'
 ·refine wp_mono (Q:= λe a w=>e= .normal/\Q .normal a w) ?_ λe a w h=>h.1▸h.2
  refine wp_region_any hm ?_
  have hrel:Rel X st a {w with drawn:=w.drawn+1} :=by
   obtain ⟨π,h⟩:=h
   exact ⟨π,h.quiet ⟨rfl,rfl,rfl,Ao _,λ_ _=>rfl⟩⟩
  have hlen:(Hw ops).length<=ops.size:=by
   have:=Zg (ops:=ops) (!eg false ops) (List.range ops.size) (Array.replicate ops.size false)
   rw [List.length_range] at this
   exact this
  have BL:(Array.replicate ops.size false).size=ops.size:=by simp
  have hmv:(Da (Hw ops) (Array.replicate ops.size false)).size=ops.size:=by rw [Rp,BL]
  have:=Xo hT (!eg false ops) (X:=X) (P:=P) (T:=T) (Γ:=Γ) (Q:= λe a w=>e= .normal/\Q .normal a w) (n:=ops.size-(Hw ops).length) (st1:=Xq) (λc a w hq=>by cases hq.1) Wz (List.range ops.size) (Array.replicate ops.size false) st a _ h1 hrel λa' w' h'=>by
   rcases h2 with h2|⟨E,st1,hE,UQ,hE1,hE2⟩
   ·exact fE hT Ls (λst' a' w' hk hr=>⟨rfl,hQ st' a' w' hk hr⟩) _ _ _ _ _ h2 h'
   ·exact oK hT Ls (λc a w hq=>by cases hq.1) (λst' a' w' hk hr=>⟨rfl,hQ st' a' w' hk hr⟩) Wz hE UQ hE1 hE2 hmv (Vj _ _ _ jM) h'
  have e:(Gs (!eg false ops) ops (List.range ops.size) (Array.replicate ops.size false)).length+(ops.size-(Hw ops).length)=ops.size:=by
   have e2:(Gs (!eg false ops) ops (List.range ops.size) (Array.replicate ops.size false)).length=(Hw ops).length:=rfl
   omega
  rw [e] at this
  exact this
theorem wA (hT:De P T) (Ls:Ib P Γ) (hm:P.follows .mixedOrders=true) {Q:Exit->Act->World->Prop} {id:Nat} {draw:Bool} {st:St} {K:St->Prop} {a:Act} (h:Rel X st a w)
  (he:q6 T Γ ops draw st K) (hQ: ∀st' a' w',K st'->Rel X st' a' w'->Q .normal a' w'):(Code.region id ops draw).wp P Q a w:=by
 rcases he with he|⟨dead,_,he⟩
 ·exact kv hT Ls hm h he hQ
 ·exact kv hT Ls hm h he λst' a' w' hk hr=>hQ _ a' w' hk (zw dead hr)
end
end Go.Proofs.Ytfgfigkbgecfnaa
