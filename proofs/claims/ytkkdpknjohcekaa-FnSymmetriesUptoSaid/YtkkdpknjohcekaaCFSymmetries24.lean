/-
  Part 25 of the proof that the statement FnSymmetries holds.
-/
import Derived.Test.YtkkdpknjohcekaaCFSymmetries23
namespace Go.Proofs.Ytkkdpknjohcekaa
open Go.RowKit
section
variable {P:Program} {T:Tab} {Γ:Env} {X:Ctx} {w w':World} {π:Pi} {ops:Array Oper} {hd tl:List Nat}
structure Xs (ops:Array Oper) (tl fl:List Nat) (Af:Array Bool):Prop where
 size:Af.size=ops.size
 done: ∀i,i∈fl->Af.getD i false=true
 closed: ∀j oj,ops[j]?=some oj->Af.getD j false=true-> ∀e∈oj.after,Region.binds .any e=true->Af.getD e.on false=true
 tail: ∀t,t∈tl->Af.getD t true=false
theorem Xs.set {fl:List Nat} {i:Nat} {Af:Array Bool} (inv:Xs ops tl fl Af) (hi:i∈Region.ready .any ops Af) (tF:i∉tl):Xs ops tl fl (Af.setIfInBounds i true):=by
 obtain ⟨_,oi,hoi,Kp⟩:=mem_ready.1 hi
 refine ⟨by simp [inv.size],λk hk=>getD_set_true (inv.done k hk),λj oj hj hl e he hb=>?_,λt ht=>by
  have Is:i≠t:= λe=>tF (by rw [e];exact ht)
  rw [getD_set_ne true Is];exact inv.tail t ht⟩
 by_cases dm:i=j
 ·subst dm
  have:oj=oi:=Aw (hj.symm.trans hoi)
  subst this
  exact getD_set_true (Kp e he hb)
 ·rw [getD_set_ne false dm] at hl
  exact getD_set_true (inv.closed j oj hj hl e he hb)
theorem BP (k:Nat) (r:List Nat) (h:(r.all λt=>(k::r).any λk=>Region.waitsFor .any ops t k)=true): ∀t,t∈r-> ∃k',(k'=k\/k'∈r)/\Region.waitsFor .any ops t k'=true:= λt ht=>by
 obtain ⟨k',h1,h2⟩:=Eu.1 (Ax.1 h t ht)
 exact ⟨k',Ba.1 h1,h2⟩
theorem zX {fl:List Nat} {Af:Array Bool} (hs:qR ops hd tl=true) (inv:Xs ops tl fl Af) (Yz: ∀i,i∈hd->i<ops.size):
  ∀(d i:Nat),ops.size-i=d->i∈hd->Af.getD i true=false-> ∀t,t∈tl->t∉Region.ready .any ops Af:=by
 cases tl with
 |nil=>intro d i _ _ _ t ht;cases ht
 |cons f r=>
  simp only [qR,Ag] at hs
  obtain ⟨jI,rK⟩:=hs
  intro d
  induction d using Nat.strongRecOn with
  |_ d ih=>
   intro i AZ hi m9 t ht hr
   obtain ⟨_,ot,hot,Kp⟩:=mem_ready.1 hr
   rcases Ba.1 ht with rfl|l6
   ·have h1:=Ax.1 jI i hi
    obtain ⟨j,hj,ZI⟩:=Eu.1 h1
    simp only [Ag,Uo] at ZI
    obtain ⟨oj,XH,e,he,hb,hon⟩:=Region.waitsFor_spec ZI.2
    rcases Ba.1 hj with rfl|UK
    ·have:oj=ot:=Aw (XH.symm.trans hot)
     subst this
     have h2:=Kp e he hb
     rw [hon,getD_both m9] at h2
     cases h2
    ·cases hl:Af.getD j false with
     |true=>
      have h2:=inv.closed j oj XH hl e he hb
      rw [hon,getD_both m9] at h2
      cases h2
     |false=>
      have hjs:j<Af.size:=by rw [inv.size];exact Yz j UK
      have:=Yz j UK
      exact ih (ops.size-j) (by omega) j rfl UK (getD_in hjs hl) t (by simp) hr
   ·obtain ⟨k',h1,h2⟩:=BP f r rK t l6
    obtain ⟨o',ho',e,he,hb,hon⟩:=Region.waitsFor_spec h2
    have:o'=ot:=Aw (ho'.symm.trans hot)
    subst this
    have h3:=Kp e he hb
    have hk:k'∈f::r:=by rcases h1 with rfl|h1<;>simp [*]
    rw [hon,getD_both (inv.tail k' hk)] at h3
    cases h3
def MR (T:Tab) (Γ:Env) (ops:Array Oper) (hd:List Nat) (L:Array Bool->St->Prop):Nat->Array Bool->St->Prop
 |0,Af,st=>L Af st
 |f+1,Af,st=>
  Region.ready .any ops Af≠ []/\ ∀i∈Region.ready .any ops Af,i∈hd/\ ∃o v,ops[i]?=some o/\Vy T Γ ops st o=some v/\MR T Γ ops hd L f (Af.setIfInBounds i true) (st.put o.dst v)
theorem xF (hT:Du P T) (Of:Ju P Γ) {Q:Exit->Act->World->Prop} {K:Act->World->Prop} {st:St} {a:Act} (h:Rel X st a w) {i:Nat} {o:Oper} {v:AV} (ho:ops[i]?=some o) (hv:Vy T Γ ops st o=some v)
  (hK: ∀a' w',Rel X (st.put o.dst v) a' w'->K a' w'):wpOp P ops Q i K a w:=by
 obtain ⟨π,h⟩:=h
 have run:Vz T Γ st o=some v->o.wp P a w K Q:= λhe=>oa (X:=X) (st':=st) (av:=v) (yj hT Of h o v he) hK
 have skip:v= .at .skip->K (a.put o.dst undef) w:= λe=>by subst e;exact hK _ _ ⟨π,h.put o.dst zI⟩
 unfold wpOp
 simp only [ho]
 unfold Vy at hv
 split at hv
 ·rename_i hg
  rw [Ab (by simp [Region.wanted,hg])]
  exact .inl (run hv)
 ·rename_i j want hg
  split at hv
  ·rename_i b hb
   have hy:=(dc h j).1 b hb
   split at hv
   ·rename_i OC
    rw [Ab (by simp only [Region.wanted,hg,hy];simpa using OC)]
    exact .inl (run hv)
   ·rename_i OC
    rw [Ai (by simp only [Region.wanted,hg,hy];simpa using OC)]
    simp only [Aa] at hv
    exact skip hv.symm
  ·rename_i hb
   have hy:=(dc h j).2 hb
   rw [Ai (by simp [Region.wanted,hg,hy])]
   simp only [Aa] at hv
   exact skip hv.symm
  ·cases hv
theorem jl (hT:Du P T) (Of:Ju P Γ) {g:Nat} {L:Array Bool->St->Prop} {Q:Exit->Act->World->Prop} (hL: ∀Af st a w,L Af st->Rel X st a w->wpAny P .any ops Q g Af a w):
  ∀(f:Nat) (Af:Array Bool) (st:St) (a:Act) (w:World),MR T Γ ops hd L f Af st->Rel X st a w->wpAny P .any ops Q (f+g) Af a w
 |0,Af,st,a,w,h,hr=>by rw [Db];exact hL _ _ _ _ h hr
 |f+1,Af,st,a,w,h,hr=>by
  rw [show f+1+g=(f+g)+1 by omega]
  refine ⟨λh0=>absurd h0 h.1,λi hi=>?_⟩
  obtain ⟨_,o,v,ho,hv,ey⟩:=h.2 i hi
  exact xF hT Of hr ho hv λa' w' h'=>jl hT Of hL f _ _ _ _ ey h'
theorem BB {fl:List Nat} {i:Nat} {oi:Oper} {v:AV} {L:Array Bool->St->Prop} (hi:ops[i]?=some oi) (hs:qR ops hd tl=true) (Yz: ∀i,i∈hd->i<ops.size) (tF:i∈hd)
  (Kp: ∀j,j<ops.size->j∈fl\/j∈hd\/j∈tl) (yB: ∀j,j∈hd->j∉tl) (Acz: ∀Af st,L Af st-> ∀j∈Region.ready .any ops Af,j∈tl):
  ∀(f:Nat) (Af:Array Bool) (st:St),Xs ops tl fl Af->
   (∀j oj,ops[j]?=some oj->j≠i->Af.getD j true=false->(∀e∈oj.after,Region.binds .any e=true->e.on≠i)->oi.apart ops oj=true)->
   i∈Region.ready .any ops Af->Vy T Γ ops st oi=some v->
   MR T Γ ops hd L f (Af.setIfInBounds i true) (st.put oi.dst v)->MR T Γ ops hd L (f+1) Af st:=by
 intro f
 have Aef: ∀Af,Xs ops tl fl Af->i∈Region.ready .any ops Af-> ∀j,j∈Region.ready .any ops Af->j∈hd:=by
  intro Af inv hr j hj
  obtain ⟨m9,oj,XH,_⟩:=mem_ready.1 hj
  rcases Kp j (Mp.1 XH).1 with h|h|h
  ·have h1:=inv.done j h
   rw [getD_both m9] at h1;cases h1
  ·exact h
  ·exact absurd hj (zX hs inv Yz _ i rfl tF (mem_ready.1 hr).1 j h)
 induction f with
 |zero=>
  intro Af st inv _ hr hv Hh
  refine ⟨λh=>(by rw [h] at hr;cases hr),λj hj=>?_⟩
  have UK:=Aef Af inv hr j hj
  refine ⟨UK,?_⟩
  by_cases oT:j=i
  ·subst oT;exact ⟨oi,v,hi,hv,Hh⟩
  ·exact absurd (Acz _ _ Hh j (ready_mono hj oT)) (yB j UK)
 |succ f ih=>
  intro Af st inv kY hr hv Hh
  have m9:=(mem_ready.1 hr).1
  refine ⟨λh=>(by rw [h] at hr;cases hr),λj hj=>?_⟩
  have UK:=Aef Af inv hr j hj
  refine ⟨UK,?_⟩
  by_cases oT:j=i
  ·subst oT;exact ⟨oi,v,hi,hv,Hh⟩
  ·obtain ⟨_,oj,vj,XH,hvj,ey⟩:=Hh.2 j (ready_mono hj oT)
   obtain ⟨Ad5,oj',Aix,Acp⟩:=mem_ready.1 hj
   have:oj'=oj:=Aw (Aix.symm.trans XH)
   subst this
   have pZ: ∀e∈oj'.after,Region.binds .any e=true->e.on≠i:= λe he hb heq=>by
    have h1:=Acp e he hb
    rw [heq,getD_both m9] at h1
    cases h1
   obtain ⟨p1,p2,p3⟩:=Oper.apart_spec (kY j oj' XH oT Ad5 pZ)
   rw [AF p1] at hvj
   refine ⟨oj',vj,XH,hvj,?_⟩
   have ZE: ∀k ok,ops[k]?=some ok->k≠i->(Af.setIfInBounds j true).getD k true=false->
     (∀e∈ok.after,Region.binds .any e=true->e.on≠i)->oi.apart ops ok=true:= λk ok hk hki Ae5 hno=>by
    refine kY k ok hk hki ?_ hno
    by_cases hjk:j=k
    ·subst hjk;exact Ad5
    ·rw [getD_set_ne true hjk] at Ae5;exact Ae5
   refine ih (Af.setIfInBounds j true) (st.put oj'.dst vj) (inv.set hj (yB j UK)) ZE (ready_mono hr (Gl oT)) (by rw [AF p3];exact hv) ?_
   rw [Array.setIfInBounds_comm _ _ oT,<-St.put_comm st v vj p2]
   exact ey
theorem o1: ∀(l:List Nat) (Af:Array Bool),lL ops l Af=true-> ∀j∈Region.ready .any ops Af,j∈l
 | [],Af,h,j,hj=>by simp only [lL,List.isEmpty_iff] at h;rw [h] at hj;cases hj
 |k::r,Af,h,j,hj=>by
  simp only [lL,Ag,Lk,Uo] at h
  rcases h.1 with h1|h1
  ·rw [h1] at hj
   simp at hj
   simp [hj]
  ·by_cases e:j=k
   ·simp [e]
   ·exact Am _ (o1 r _ h.2 j (ready_mono hj e))
theorem xL {fl:List Nat} (az:Region.noSelect ops=true) (hs:qR ops hd tl=true) (Yz: ∀i,i∈hd->i<ops.size) (Kp: ∀j,j<ops.size->j∈fl\/j∈hd\/j∈tl) (yB: ∀j,j∈hd->j∉tl) (st':St):
  ∀(l:List Nat) (Af:Array Bool) (st:St),(∀i,i∈l->i∈hd)->Xs ops tl fl Af->mC ops tl l Af=true->Fh T Γ ops l st=some st'->
  MR T Γ ops hd (λvY s=>lL ops tl vY=true/\s=st') l.length Af st
 | [],Af,st,_,_,hB,he=>by
  simp only [Fh,Aa] at he
  exact ⟨by simpa [mC] using hB,he⟩
 |k::l,Af,st,hl,inv,hB,he=>by
  simp only [mC,Ag] at hB
  obtain ⟨⟨hr,hf⟩,hB'⟩:=hB
  have hkh:=hl k (by simp)
  have ix:k∈Region.ready .any ops Af:=by simpa using hr
  simp only [Fh] at he
  split at he
  ·cases he
  ·rename_i o ho
   split at he
   ·rename_i v hv
    exact BB ho hs Yz hkh Kp yB (λvY s hL=>o1 tl vY hL.1) l.length Af st inv (Region.free_spec ho hf) ix hv
     (xL az hs Yz Kp yB st' l _ _ (λi hi=>hl i (by simp [hi])) (inv.set ix (yB k hkh)) hB' he)
   ·cases he
theorem vv {Q:Exit->Act->World->Prop} (hQ: ∀e a w,Q e a w->e= .normal) {k i:Nat} {x:Operand} {o:Oper} (ho:ops[k]?=some o) (oV:o.op= .extract x i) (hg:o.guard=none) {K:Act->World->Prop} {a:Act} {w:World}
  (h:wpOp P ops Q k K a w): ∃v,Yields P ops o v a/\K (a.put o.dst v) w:=by
 unfold wpOp at h
 simp only [ho] at h
 have hw:Region.wanted o (yielded ops a.tmps)=true:=by simp [Region.wanted,hg]
 rw [Ab hw] at h
 rcases h with h|⟨_,a',w',h⟩
 ·unfold Oper.wp at h
  have hr: ∀w,(execOp a.eval o).run P w=(do pure (Next.value (<-Instr.extract (a.eval x) i))).run P w:= λw=>by unfold execOp;rw [oV]
  rw [hr] at h
  unfold Instr.extract at h hr
  split at h
  ·rename_i vs hx
   split at h
   ·rename_i v hv
    rw [hx] at hr
    simp only [hv] at hr
    exact ⟨v, .inl ⟨hw,λw=>(hr w).trans rfl⟩,h⟩
   ·exact h.elim
  ·exact h.elim
 ·cases hQ _ _ _ h
theorem bV {Q:Exit->Act->World->Prop} (hQ: ∀e a w,Q e a w->e= .normal) (az:Region.noSelect ops=true): ∀(l:List Nat) (Af:Array Bool) (a:Act) (w:World),lL ops l Af=true->wpOps P ops Q l a w->wpAny P .any ops Q l.length Af a w
 | [],Af,a,w,hB,h=>⟨by simpa [lL] using hB,h⟩
 |k::r,Af,a,w,hB,h=>by
  simp only [lL,Ag,Lk,Uo] at hB
  rw [wpOps_cons] at h
  rcases hB.1 with h0|⟨h1,h2,h3⟩
  ·refine ⟨λh1=>(by rw [h0] at h1;cases h1),λi hi=>?_⟩
   rw [h0] at hi
   have hik:i=k:=by simpa using hi
   subst hik
   exact wpOp_mono (λa' w' h'=>bV hQ az r _ a' w' hB.2 h') h
  ·unfold PJ at h1
   split at h1
   ·rename_i o ho
    split at h1
    ·rename_i x i oV hg
     obtain ⟨v,hy,hk⟩:=vv hQ ho oV hg h
     exact wpAny_take ho az h3 h2 (λc a w hq=>by cases hQ _ _ _ hq) hy (bV hQ az r _ _ w hB.2 hk)
    ·cases h1
   ·cases h1
theorem kV {P:Program} {o:Oper} {t:Tmp} {a:Act} (h:o.op= .move (.tmp t)) (hg:o.guard=none):Yields P ops o (a.tmps.getD t undef) a:=by
 refine .inl ⟨by simp [Region.wanted,hg],λw=>?_⟩
 unfold execOp
 rw [h]
 rfl
theorem vN {hd tl:List Nat} {i:Nat} (h:lb ops hd tl i=true): ∃o t,ops[i]?=some o/\o.op= .move (.tmp t)/\o.guard=none:=by
 unfold lb at h
 split at h
 ·rename_i o ho
  simp only [Ag] at h
  have h1:=h.1
  split at h1
  ·rename_i t h2 h3
   exact ⟨o,t,ho,h2,h3⟩
  ·cases h1
 ·cases h
theorem eO {q:Bool} {hd:List Nat} {Q:Exit->Act->World->Prop} (hQ: ∀c a w,¬Q (.panic c) a w) (az:Region.noSelect ops=true) {n:Nat} {st1:St}
  (ey: ∀Af st a w,(∀j oj,ops[j]?=some oj->Af.getD j false=true-> ∀e∈oj.after,Region.binds .any e=true->Af.getD e.on false=true)->Af.size=ops.size->mC ops tl hd Af=true->st=st1->Rel X st a w->
   (∀j,Af.getD j false=true↔j∈Ux q Γ ops)->wpAny P .any ops Q n Af a w):
  ∀(l dn:List Nat) (Af:Array Bool) (st:St) (a:Act) (w:World),(∀j,j∈Ux q Γ ops↔j∈dn\/j∈l)->(∀i,i∈l-> ∃o t,ops[i]?=some o/\o.op= .move (.tmp t)/\o.guard=none)->
   (∀j oj,ops[j]?=some oj->Af.getD j false=true-> ∀e∈oj.after,Region.binds .any e=true->Af.getD e.on false=true)->Af.size=ops.size->(∀j,Af.getD j false=true↔j∈dn)->
   kU ops tl hd l Af=true->Fh T Γ ops l st=some st1->Rel X st a w->wpAny P .any ops Q (l.length+n) Af a w
 | [],dn,Af,st,a,w,hm,_,hc,Yz,hdn,hf,he,hr=>by
  simp only [Fh,Aa] at he
  rw [Hr,Db]
  exact ey Af st a w hc Yz (by simpa [kU] using hf) he hr λj=>by rw [hdn j,hm j];simp
 |k::l,dn,Af,st,a,w,hm,hl,hc,Yz,hdn,hf,he,hr=>by
  simp only [kU,Ag] at hf
  obtain ⟨⟨h1,h2⟩,h3⟩:=hf
  obtain ⟨o,t,ho,oV,hg⟩:=hl k (by simp)
  have rY:k∈Region.ready .any ops Af:=by simpa using h1
  obtain ⟨_,o',ho',Kp⟩:=mem_ready.1 rY
  have ho2:o'=o:=Aw (ho'.symm.trans ho)
  subst ho2
  have hks:k<Af.size:=by rw [Yz];exact (Mp.1 ho).1
  simp only [Fh,ho] at he
  have hv:Vy T Γ ops st o'=some (st.get t):=by simp only [Vy,hg,Vz,Ep,oV];rfl
  rw [hv] at he
  rw [Bg,show l.length+1+n=(l.length+n)+1 by omega]
  refine wpAny_take ho az h2 h1 (λc a w hq=>absurd hq (hQ c _ w)) (kV oV hg) ?_
  obtain ⟨π,hr⟩:=hr
  refine eO hQ az ey l (k::dn) _ _ _ _ (λj=>by rw [hm j,Ba,Ba];exact ⟨λh=>h.elim (λh=> .inl (.inr h)) (λh=>h.elim (λh=> .inl (.inl h)) .inr),λh=>h.elim (λh=>h.elim (λh=> .inr (.inl h)) .inl) (λh=> .inr (.inr h))⟩) (λi hi=>hl i (by simp [hi])) ?_ (by simp [Yz]) (λj=>?_) h3 he ⟨π,hr.put o'.dst (hr.2.tmps t)⟩
  ·intro j oj hj hlj e hem hb
   by_cases MM:k=j
   ·subst MM
    have:oj=o':=Aw (hj.symm.trans ho)
    subst this
    exact getD_set_true (Kp e hem hb)
   ·rw [getD_set_ne false MM] at hlj
    exact getD_set_true (hc j oj hj hlj e hem hb)
  ·by_cases MM:k=j
   ·subst MM
    refine ⟨λ_=>by simp,λ_=>?_⟩
    simp [hks]
   ·rw [getD_set_ne false MM,hdn j]
    simp [Gl MM]
theorem eu {ops:Array Oper} : ∀(a b:List Nat) (st st':St),Fh T Γ ops (a++b) st=some st'-> ∃s,Fh T Γ ops a st=some s/\Fh T Γ ops b s=some st'
 | [],b,st,st',h=>⟨st,rfl,h⟩
 |i::a,b,st,st',h=>by
  simp only [Ly,Fh] at h⊢
  split at h
  ·cases h
  ·split at h
   ·exact eu a b _ st' h
   ·cases h
theorem mq (hT:Du P T) (Of:Ju P Γ) (hm:P.follows .mixedOrders=true) {Q:Exit->Act->World->Prop} {id:Nat} {draw:Bool} {st st':St} {a:Act} (h:Rel X st a w)
  (he:Qv T Γ ops draw st=some st') (hQ: ∀a' w',Rel X st' a' w'->Q .normal a' w'):(Code.region id ops draw).wp P Q a w:=by
 unfold Qv at he
 cases draw with
 |false=>
  rw [Ai (by simp)] at he
  exact wp_region_list (iL hT Of ops.toList st st' a w h he hQ)
 |true=>
  rw [Ab rfl] at he
  have go: ∀(q:Bool),bq q Γ ops=true->(match Fh T Γ ops (gU q Γ ops) st with
    |some st'=>Mk T Γ ops (Ix q Γ ops) st'
    |none=>none)=some st'->(Code.region id ops true).wp P Q a w:=by
   intro q fT he
   split at he
   ·rename_i st1 h1
    simp only [bq,Ag,Vv] at fT
    obtain ⟨⟨⟨az,hlen⟩,ZC⟩,Ae2⟩:=fT
    refine wp_mono (Q:= λe a w=>e= .normal/\Q .normal a w) ?_ λe a w h=>h.1▸h.2
    refine wp_region_any hm ?_
    have hrel:Rel X st a {w with drawn:=w.drawn+1} :=by
     obtain ⟨π,h⟩:=h
     exact ⟨π,h.quiet ⟨rfl,rfl,rfl,Ar _,λ_ _=>rfl⟩⟩
    obtain ⟨s0,h0,h1⟩:=eu _ _ _ _ h1
    have tF: ∀i,i∈bl q Γ ops->i<ops.size:= λi hi=>Io.1 (Bv.1 hi).1
    have Yz: ∀i,i∈Vb q Γ ops->i<ops.size:= λi hi=>tF i (Bv.1 hi).1
    have Kp: ∀j,j<ops.size->j∈Ux q Γ ops\/j∈Vb q Γ ops\/j∈Ix q Γ ops:= λj hj=>by
     by_cases ht:j∈Ix q Γ ops
     ·exact .inr (.inr ht)
     ·have hh:j∈bl q Γ ops:=Bv.2 ⟨Io.2 hj,by simpa using ht⟩
      cases MK:lb ops (bl q Γ ops) (Ix q Γ ops) j with
      |true=>exact .inl (Bv.2 ⟨hh,MK⟩)
      |false=>exact .inr (.inl (Bv.2 ⟨hh,by rw [MK];rfl⟩))
    have WX: ∀j,j∈bl q Γ ops->j∉Ix q Γ ops:= λj hj=>by
     have:=(Bv.1 hj).2
     simpa using this
    have yB: ∀j,j∈Vb q Γ ops->j∉Ix q Γ ops:= λj hj=>WX j (Bv.1 hj).1
    have Acy: ∀j,j∈Ux q Γ ops->j∉Ix q Γ ops:= λj hj=>WX j (Bv.1 hj).1
    have htl: ∀t,t∈Ix q Γ ops->t<ops.size:=by
     intro t ht
     unfold Ix at ht
     have: ∀(l:List Nat) (acc:List Nat),(∀i,i∈acc->i<ops.size)->(∀i,i∈l->i<ops.size)-> ∀i,i∈l.foldl (init:=acc) (λacc i=>match ops[i]? with
       |some o=>if PU q Γ o||o.after.any (λe=>Region.binds .any e&&acc.contains e.on) then acc++ [i] else acc
       |none=>acc)->i<ops.size:=by
      intro l
      induction l with
      |nil=>intro acc h1 _ i hi;exact h1 i hi
      |cons x l ih=>
       intro acc h1 h2 i hi
       simp only [Ui] at hi
       refine ih _ ?_ (λi hi=>h2 i (by simp [hi])) i hi
       intro k hk
       split at hk
       ·split at hk
        ·rcases Az.1 hk with hk|hk
         ·exact h1 k hk
         ·simp at hk;rw [hk];exact h2 x (by simp)
        ·exact h1 k hk
       ·exact h1 k hk
     exact this (List.range ops.size) [] (by simp) (λi hi=>Io.1 hi) t ht
    rw [<-hlen]
    refine eO (q:=q) (X:=X) (T:=T) (Γ:=Γ) (tl:=Ix q Γ ops) (hd:=Vb q Γ ops) (st1:=s0) (λc a w hq=>by cases hq.1) az ?_ (Ux q Γ ops) [] _ st a _ (λj=>by simp)
     (λi hi=>vN (Bv.1 hi).2) (λj oj _ hl=>(by rw [hlen,getD_replicate_false] at hl;cases hl)) (by simp [hlen]) (λj=>by rw [hlen,getD_replicate_false];simp) (by rw [hlen];exact ZC) h0 hrel
    intro Af s a' w' hc vH Ad3 hs hr MK
    subst hs
    have Ajq:Xs ops (Ix q Γ ops) (Ux q Γ ops) Af:=
     ⟨vH,λi hi=>(MK i).2 hi,hc,λt ht=>getD_in (by rw [vH];exact htl t ht) (by
      cases hg:Af.getD t false with
      |false=>rfl
      |true=>exact absurd ht (Acy t ((MK t).1 hg)))⟩
    have HA:=xL (T:=T) (Γ:=Γ) az Ae2 Yz Kp yB st1 (Vb q Γ ops) _ s (λi hi=>hi) Ajq Ad3 h1
    exact jl (X:=X) (P:=P) (Q:= λe a w=>e= .normal/\Q .normal a w) (g:=(Ix q Γ ops).length) hT Of (λAf s a' w' hL hr=>by
     obtain ⟨Aj7,rfl⟩:=hL
     exact bV (λe a w h=>h.1) az (Ix q Γ ops) Af a' w' Aj7 (iH hT Of _ _ st' a' w' hr he λa w h=>⟨rfl,hQ a w h⟩)) _ _ _ _ _ HA hr
   ·cases he
  split at he
  ·rename_i fT;exact go false fT he
  ·split at he
   ·rename_i fT;exact go true fT he
   ·cases he
theorem bQ (q:Bool): ∀(l:List Nat) (Af:Array Bool),(Iu q ops l Af).length<=l.length
 | [],_=>Ar _
 |i::r,Af=>by
  simp only [Iu]
  split
  ·simp only [Bg];have:=bQ q r (Af.setIfInBounds i true);omega
  ·simp only [Bg];have:=bQ q r Af;omega
theorem zz (hT:Du P T) {st:St} {a:Act} (h:Bb X π st a w) {i:Nat} {o:Oper} (ho:ops[i]?=some o) (hp:gY ops i=true) {v:AV} (hv:Vy T Γ ops st o=some v):
  ∃u,Yields P ops o u a/\Bf X w π st.heap v u:=by
 unfold gY at hp
 rw [ho] at hp
 simp only at hp
 obtain ⟨dst,op,ty,pos,af,gd⟩:=o
 split at hp
 ·rename_i t h3 h4
  simp only at h3 h4;subst h3;subst h4
  refine ⟨a.tmps.getD t undef,kV rfl rfl,?_⟩
  simp only [Vy,Vz,Ep,Aa] at hv
  subst hv
  exact h.2.tmps t
 ·rename_i x h3 h4
  simp only at h3 h4;subst h3;subst h4
  have e:=Dn h.2 x
  have fin:(∃ad,a.eval x= .pointer (some ad))->Yields P ops ⟨dst, .nilCheck x,ty,pos,af,none⟩ (a.eval x) a:= λ⟨ad,hx⟩=>
   .inl ⟨by simp [Region.wanted],λw=>by simp [execOp,hx]⟩
  simp only [Vy,Vz,Ep] at hv
  split at hv
  ·rename_i fr τ y hx
   simp only [Aa] at hv;subst hv
   rw [hx] at e
   have e':=e
   obtain ⟨cs,hc,hv⟩:=e
   simp only [Cells] at hc
   obtain ⟨g,o,rfl,_⟩:=hc
   simp only [Bs,Ty.Ap,Cy,Sl,fh] at hv
   exact ⟨_,fin ⟨_,hv⟩,e'⟩
  ·rename_i fr τ y hx
   simp only [Aa] at hv;subst hv
   rw [hx] at e
   obtain ⟨cs,hc,hv⟩:=e
   simp only [Cells] at hc
   rcases hc with ⟨h0,_⟩|⟨y',g,o,h0,rfl,hr⟩
   ·cases h0
   simp only [Aa] at h0;subst h0
   simp only [Bs,Ty.Ap,Cy,Sl,fh] at hv
   exact ⟨_,fin ⟨_,hv⟩,[_],⟨g,o,rfl,hr⟩,by rw [hv];simp [Bs,Ty.Ap]⟩
  ·rename_i l i hx
   simp only [Aa] at hv;subst hv
   rw [hx] at e
   have e':=e
   obtain ⟨r,tid,vs,_,_,hv⟩:=e
   exact ⟨_,fin ⟨_,hv⟩,e'⟩
  ·rename_i l i hx
   simp only [Aa] at hv;subst hv
   rw [hx] at e
   have e':=e
   obtain ⟨r,b,sz,n,_,_,_,_,hv⟩:=e
   exact ⟨_,fin ⟨_,hv⟩,e'⟩
  ·cases hv
 ·rename_i s x f h3 h4
  simp only at h3 h4;subst h3;subst h4
  simp only [Vy,Vz,Ep] at hv
  obtain ⟨u,h1,h2⟩:=bg hT (st:=st) _ _ _ _ v (Dn h.2 x) hv
  refine ⟨u, .inl ⟨by simp [Region.wanted],λw=>?_⟩,h2⟩
  have:=h1 w
  simp only [execOp,Sem.run_bind]
  first
   |(rw [this];rfl)
   |simp [this]
 ·cases hp
theorem wC {i:Nat} (h:vO ops i=true):gY ops i=true:=by
 unfold vO at h
 unfold gY
 split at h
 ·rename_i o ho
  split at h
  ·rename_i h1 h2
   simp only [h1,h2]
  ·cases h
 ·cases h
theorem aU (hT:Du P T) (q:Bool) {Q:Exit->Act->World->Prop} (hQ: ∀c a w,¬Q (.panic c) a w) (az:Region.noSelect ops=true) {n:Nat} {st1:St} :
  ∀(l:List Nat) (Af:Array Bool) (st:St) (a:Act) (w:World),Fh T Γ ops (Iu q ops l Af) st=some st1->Rel X st a w->
   (∀a w,Rel X st1 a w->wpAny P .any ops Q n (Ee (Iu q ops l Af) Af) a w)->wpAny P .any ops Q ((Iu q ops l Af).length+n) Af a w
 | [],Af,st,a,w,he,hr,hK=>by
  simp only [Iu,Fh,Aa] at he
  subst he
  simp only [Iu,Hr,Db]
  exact hK a w hr
 |k::l,Af,st,a,w,he,hr,hK=>by
  simp only [Iu] at he hK⊢
  split
  ·rename_i hc
   rw [Ab hc] at he hK
   simp only [Ag] at hc
   obtain ⟨h0,h1,h2⟩:=hc
   have hp:gY ops k=true:=by
    cases q with
    |true=>exact h0
    |false=>exact wC h0
   simp only [Fh] at he
   split at he
   ·cases he
   rename_i o ho
   split at he
   rotate_left
   ·cases he
   rename_i v hv
   obtain ⟨π,hr⟩:=hr
   obtain ⟨u,hy,hu⟩:=zz (Γ:=Γ) hT hr ho hp hv
   rw [Bg,show (Iu q ops l (Af.setIfInBounds k true)).length+1+n=((Iu q ops l (Af.setIfInBounds k true)).length+n)+1 by omega]
   refine wpAny_take ho az h2 h1 (λc a w hq=>absurd hq (hQ c _ w)) hy ?_
   exact aU hT q hQ az l _ _ _ _ he ⟨π,hr.put o.dst hu⟩ hK
  ·rename_i hc
   rw [Ai hc] at he hK
   exact aU hT q hQ az l Af st a w he hr hK
theorem jm (hT:Du P T) (Of:Ju P Γ) {Q:Exit->Act->World->Prop} {K:St->Prop} (hK: ∀st a w,K st->Rel X st a w->Q .normal a w):
  ∀(f:Nat) (Af:Array Bool) (st:St) (a:Act) (w:World),anyS T Γ ops K f Af st->Rel X st a w->wpAny P .any ops Q f Af a w
 |0,Af,st,a,w,h,hr=>⟨h.1,hK _ _ _ h.2 hr⟩
 |f+1,Af,st,a,w,h,hr=>by
  refine ⟨λh0=>absurd h0 h.1,λi hi=>?_⟩
  obtain ⟨o,st',ho,he,ey⟩:=h.2 i hi
  obtain ⟨π,hr⟩:=hr
  unfold wpOp
  simp only [ho]
  exact Uv hT Of hr o he λa' w' h'=>jm hT Of hK f _ _ _ _ ey h'
def Tb (ops:Array Oper) (Af:Array Bool):Prop:= ∀k a,Af.getD k false=true->Region.waitsFor .any ops k a=true->Af.getD a false=true
theorem bt {Af:Array Bool} {i a:Nat} (h:i∈Region.ready .any ops Af) (hw:Region.waitsFor .any ops i a=true):Af.getD a false=true:=by
 obtain ⟨_,o,ho,Kp⟩:=mem_ready.1 h
 obtain ⟨o',ho',e,he,hb,rfl⟩:=Region.waitsFor_spec hw
 rw [ho] at ho'
 cases ho'
 exact Kp e he hb
theorem Tb.set {Af:Array Bool} (hc:Tb ops Af) {i:Nat} (hi:i∈Region.ready .any ops Af):Tb ops (Af.setIfInBounds i true):= λk a hk hw=>by
 by_cases hik:i=k
 ·subst hik
  exact getD_set_true (bt hi hw)
 ·rw [getD_set_ne false hik] at hk
  exact getD_set_true (hc k a hk hw)
theorem nz:Tb ops (Array.replicate ops.size false):= λk a hk _=>by
 rw [getD_replicate_false] at hk
 cases hk
theorem Zi (q:Bool): ∀(l:List Nat) (Af:Array Bool),Tb ops Af->Tb ops (Ee (Iu q ops l Af) Af)
 | [],Af,h=>h
 |i::r,Af,h=>by
  simp only [Iu]
  split
  ·rename_i hc
   rw [Ag,Ag] at hc
   have hi:i∈Region.ready .any ops Af:=by simpa using hc.2.1
   exact Zi q r _ (h.set hi)
  ·exact Zi q r Af h
theorem Vf: ∀(l:List Nat) (Af:Array Bool),(Ee l Af).size=Af.size
 | [],_=>rfl
 |i::r,Af=>by simp only [Ee];rw [Vf r];simp
theorem dw: ∀(l:List Nat) (Af:Array Bool) (k:Nat),k∈l->k<Af.size->(Ee l Af).getD k false=true
 |i::r,Af,k,h,hk=>by
  simp only [Ee]
  by_cases hr:k∈r
  ·exact dw r _ k hr (by simpa using hk)
  ·have:k=i:=(Ba.1 h).resolve_right hr
   subst this
   have hs: ∀(l:List Nat) (A:Array Bool),A.getD k false=true->(Ee l A).getD k false=true:=by
    intro l
    induction l with
    |nil=>exact λA h=>h
    |cons j l ih=>exact λA h=>ih _ (getD_set_true h)
   exact hs r _ (by simp [hk])
theorem bP: ∀(l:List Nat) (Af:Array Bool) (k:Nat),k∉l->(Ee l Af).getD k false=Af.getD k false
 | [],_,_,_=>rfl
 |i::r,Af,k,h=>by
  simp only [Ee]
  rw [bP r _ k λhk=>h (Am _ hk),getD_set_ne false (λe=>h (by rw [e];simp))]
def Lt (E:List Nat) (Af:Array Bool):List Nat:=E.filter λr=>!Af.getD r false
def bL (ops:Array Oper) (r:Nat):Option Tmp:=(ops[r]?).bind (·.dst)
def iG (ops:Array Oper) (Q:List Nat):List Nat:=Q.filterMap (bL ops)
def Ra (ops:Array Oper):List Nat->St->St
 | [],st=>st
 |r::Q,st=>(Ra ops Q st).put (bL ops r) .undef
def HY (ops:Array Oper):List Nat->Act->Act->Prop
 | [],a,a'=>a'=a
 |r::Q,a,a'=> ∃u,HY ops Q (a.put (bL ops r) u) a'
theorem RZ {H:List (Nat×OB)} {v:Value} :Bf X w π H .undef v:=trivial
theorem fR (s:St) (d:Option Tmp) (v:AV) (t:Nat):(d=some t->(s.put d v).get t=v\/(s.put d v).get t= .undef)/\(d≠some t->(s.put d v).get t=s.get t):=by
 cases d with
 |none=>exact ⟨λh=>(by cases h),λ_=>rfl⟩
 |some e=>
  have key:(s.put (some e) v).get t=if e=t/\t<s.tmps.length then v else s.get t:=Qe _ _ _ _ _
  refine ⟨λh=>?_,λh=>?_⟩
  ·cases h
   rw [key]
   by_cases hl:t<s.tmps.length
   ·rw [Ab ⟨rfl,hl⟩];exact .inl rfl
   ·rw [Ai (λh=>hl h.2)]
    exact .inr (by unfold St.get;rw [Al,Er (by omega)];rfl)
  ·rw [key,Ai]
   rintro ⟨rfl,_⟩
   exact h rfl
theorem hZ (s:St) (d:Option Tmp) (v:AV):(s.put d v).heap=s.heap:=by cases d<;>rfl
theorem lD (s:St) (d:Option Tmp) (v:AV):(s.put d v).tmps.length=s.tmps.length:=by
 cases d with
 |none=>rfl
 |some d=>exact Yi _ _ _
theorem Qb: ∀(Q:List Nat) (st:St),(Ra ops Q st).heap=st.heap
 | [],_=>rfl
 |r::Q,st=>by simp only [Ra];rw [hZ,Qb Q]
theorem Vg: ∀(Q:List Nat) (st:St),(Ra ops Q st).tmps.length=st.tmps.length
 | [],_=>rfl
 |r::Q,st=>by simp only [Ra];rw [lD,Vg Q]
theorem Lf {Q:List Nat} {t:Nat} :t∈iG ops Q↔ ∃r∈Q,bL ops r=some t:=List.mem_filterMap
theorem Rb: ∀(Q:List Nat) (st:St) (t:Nat),(t∈iG ops Q->(Ra ops Q st).get t= .undef)/\(t∉iG ops Q->(Ra ops Q st).get t=st.get t)
 | [],st,t=>⟨λh=>by simp [iG] at h,λ_=>rfl⟩
 |r::Q,st,t=>by
  obtain ⟨h1,h2⟩:=Rb Q st t
  obtain ⟨g1,g2⟩:=fR (Ra ops Q st) (bL ops r) .undef t
  simp only [Ra]
  by_cases hd:bL ops r=some t
  ·refine ⟨λ_=>(g1 hd).elim id id,λh=>absurd (Lf.2 ⟨r,Jr ..,hd⟩) h⟩
  ·refine ⟨λh=>?_,λh=>?_⟩
   ·rw [g2 hd]
    obtain ⟨q,hq,he⟩:=Lf.1 h
    rcases Ba.1 hq with rfl|hq
    ·exact absurd he hd
    ·exact h1 (Lf.2 ⟨q,hq,he⟩)
   ·rw [g2 hd]
    exact h2 λhm=>by
     obtain ⟨q,hq,he⟩:=Lf.1 hm
     exact h (Lf.2 ⟨q,Am _ hq,he⟩)
theorem qI {st s:St} {a:Act} (h:Bb X π st a w) (hh:s.heap=st.heap) (hl:s.tmps.length=st.tmps.length) (hg: ∀t,s.get t=st.get t\/s.get t= .undef):Bb X π s a w:=by
 refine ⟨by rw [hh];exact h.1,⟨by rw [hl];exact h.2.size,h.2.defers,λt=>?_⟩⟩
 rw [hh]
 rcases hg t with e|e
 ·rw [e];exact h.2.tmps t
 ·rw [e];exact RZ
theorem AE {st s:St} {o:Oper} (hh:s.heap=st.heap) (hg: ∀t,t∈o.looksAt ops->s.get t=st.get t):Vy T Γ ops s o=Vy T Γ ops st o:=by
 obtain ⟨ts,H⟩:=s
 obtain ⟨ts',H'⟩:=st
 simp only at hh
 subst hh
 exact uH hg
theorem nV (hT:Du P T) (Of:Ju P Γ) {st:St} {a:Act} (h:Bb X π st a w) {i:Nat} {o:Oper} (ho:ops[i]?=some o) (hp:gZ ops i=true) {v:AV} (hv:Vy T Γ ops st o=some v):
  ∃u,(∀(Q:Exit->Act->World->Prop) (K:Act->World->Prop),K (a.put o.dst u) w->wpOp P ops Q i K a w)/\Bf X w π st.heap v u:=by
 unfold gZ at hp
 rw [ho] at hp
 simp only at hp
 have TA:o.guard=none:=by
  obtain ⟨dst,op,ty,pos,af,gd⟩:=o
  cases gd with
  |none=>rfl
  |some g=>split at hp<;>first|rfl|(rename_i h4;cases h4)|cases hp
 have hb:Vz T Γ st o=some v:=by
  unfold Vy at hv
  rw [TA] at hv
  exact hv
 have hw:Region.wanted o (yielded ops a.tmps)=true:=by simp [Region.wanted,TA]
 have fin: ∀s:Sem Value,execOp a.eval o=(do pure (.value (<-s)))->Ep T Γ st o=some v-> ∃u,(∀(Q:Exit->Act->World->Prop) (K:Act->World->Prop),K (a.put o.dst u) w->wpOp P ops Q i K a w)/\Bf X w π st.heap v u:=by
  intro s he hq
  have hg:=fI hT Of h o v hq
  rw [he,Sem.run_bind] at hg
  cases hr:s.run P w with
  |ok u w'=>
   rw [hr] at hg
   obtain ⟨e,hu⟩:=(show w'=w/\Bf X w π st.heap v u from hg)
   subst e
   refine ⟨u,λQ K hK=>?_,hu⟩
   unfold wpOp
   simp only [ho]
   rw [Ab hw]
   refine .inl ?_
   unfold Oper.wp
   rw [he,Sem.run_bind,hr]
   exact hK
  |halt x w'=>rw [hr] at hg;exact hg.elim
 obtain ⟨dst,op,ty,pos,af,gd⟩:=o
 simp only at TA
 subst TA
 split at hp
 ·rename_i x h3 h4
  simp only at h3;subst h3
  exact fin (pure (a.eval x)) (by simp [execOp]) hb
 ·rename_i x h3 h4
  simp only at h3;subst h3
  exact fin _ rfl hb
 ·rename_i x h3 h4
  simp only at h3;subst h3
  exact fin _ rfl hb
 ·rename_i x h3 h4
  simp only at h3;subst h3
  exact fin _ rfl hb
 ·cases hp
theorem MD {j:Nat} {oi oj:Oper} {v:Value} (hj:ops[j]?=some oj) (hap:oi.apart ops oj=true) (hsj: ∀cs b,oj.op≠ .select cs b)
  {Q:Exit->Act->World->Prop} (hQ: ∀c a w,¬Q (.panic c) a w) {K:Act->World->Prop} {a:Act} {w:World} (h:wpOp P ops Q j K (a.put oi.dst v) w):
  wpOp P ops Q j (λa' w'=>K (a'.put oi.dst v) w') a w:=by
 obtain ⟨h1,h2,h3⟩:=Oper.apart_spec hap
 unfold wpOp at*
 simp only [hj] at*
 rw [wanted_put oj a oi.dst v h1] at h
 split
 ·rename_i hw
  simp only [hw,Qf] at h
  rcases h with h|⟨WR,Ad7⟩
  case inr=>exact .inr ⟨by unfold Oper.asks at*;rw [execOp_put oj hsj a oi.dst v h1] at WR;exact WR,Ad7⟩
  refine .inl ?_
  unfold Oper.wp at*
  rw [execOp_put oj hsj a oi.dst v h1] at h
  generalize (execOp a.eval oj).run P w=r at*
  cases r with
  |ok n w'=>
   cases n<;>simp only [Oper.upon] at h⊢
   case value u=>rw [<-Act.put_comm a v u h2];exact h
   case skip=>rw [<-Act.put_comm a v undef h2];exact h
   case defer d=>
    rw [<-Act.put_comm _ v undef h2,<-Act.put_defers]
    exact h
   case enter f args=>
    refine Calls.mono h λe o9 he=>?_
    cases e with
    |returned u=>show K ((a.put oj.dst u).put oi.dst v) o9;rw [<-Act.put_comm a v u h2];exact he
    |panicked c=>exact absurd he (hQ _ _ _)
    |outgrown=>exact he
   case row row args=>exact Rows.mono h λu o9 he=>by rw [<-Act.put_comm a v u h2];exact he
  |halt x w'=>
   cases x<;>simp only [Oper.upon] at h⊢
   case panic u=>exact absurd h (hQ _ _ _)
 ·rename_i hw
  simp only [hw] at h
  rw [<-Act.put_comm a v undef h2];exact h
theorem ue: ∀ {Q:List Nat} {a a':Act},HY ops Q a a'->a'.defers=a.defers/\a'.tmps.size=a.tmps.size/\ ∀t,t∉iG ops Q->a'.tmps.getD t undef=a.tmps.getD t undef
 | [],a,a',h=>by cases h;exact ⟨rfl,rfl,λ_ _=>rfl⟩
 |r::Q,a,a',⟨u,h⟩=>by
  obtain ⟨h1,h2,h3⟩:=ue h
  have hp:(a.put (bL ops r) u).defers=a.defers/\(a.put (bL ops r) u).tmps.size=a.tmps.size:=by cases bL ops r<;>simp [Act.put]
  refine ⟨h1.trans hp.1,h2.trans hp.2,λt ht=>?_⟩
  have hn:bL ops r≠some t:= λe=>ht (Lf.2 ⟨r,Jr ..,e⟩)
  rw [h3 t λhm=>ht (by obtain ⟨q,hq,he⟩:=Lf.1 hm;exact Lf.2 ⟨q,Am _ hq,he⟩)]
  cases hd:bL ops r with
  |none=>rfl
  |some d=>
   have Is:d≠t:= λe=>hn (by rw [hd,e])
   simp [Act.put,Array.getElem?_setIfInBounds_ne Is]
theorem QY {Q:List Nat} {st:St} {a a':Act} (hp:HY ops Q a a') (h:Bb X π st a' w):Bb X π (Ra ops Q st) a w:=by
 obtain ⟨h1,h2,h3⟩:=ue hp
 refine ⟨by rw [Qb];exact h.1,⟨by rw [Vg,<-h2];exact h.2.size,by rw [<-h1];exact h.2.defers,λt=>?_⟩⟩
 rw [Qb]
 by_cases ht:t∈iG ops Q
 ·rw [(Rb Q st t).1 ht];exact RZ
 ·rw [(Rb Q st t).2 ht,<-h3 t ht];exact h.2.tmps t
theorem uL {j:Nat} {oj:Oper} (hj:ops[j]?=some oj) (hsj: ∀cs b,oj.op≠ .select cs b) {Q:Exit->Act->World->Prop} (hQ: ∀c a w,¬Q (.panic c) a w) {K:Act->World->Prop} :
  ∀(L:List Nat) (a a':Act) (w:World),(∀r∈L,∃o,ops[r]?=some o/\o.apart ops oj=true)->HY ops L a a'->wpOp P ops Q j K a' w->wpOp P ops Q j (λa2 w2=> ∃a3,HY ops L a2 a3/\K a3 w2) a w
 | [],a,a',w,_,hp,h=>by cases hp;exact wpOp_mono (λa2 w2 hk=>⟨a2,rfl,hk⟩) h
 |r::L,a,a',w,hap,⟨u,hp⟩,h=>by
  obtain ⟨o,ho,ha⟩:=hap r (Jr ..)
  have hd:bL ops r=o.dst:=by unfold bL;rw [ho];rfl
  rw [hd] at hp
  have ih:=uL hj hsj hQ L _ a' w (λq hq=>hap q (Am _ hq)) hp h
  exact wpOp_mono (λa2 w2 ⟨a3,h1,h2⟩=>⟨a3,⟨u,by rw [hd];exact h1⟩,h2⟩) (MD hj ha hsj hQ ih)
def BC (ops:Array Oper):List Nat->Prop
 | []=>True
 |r::L=>(∀q∈r::L,∀o d,ops[r]?=some o->bL ops q=some d->d∉o.looksAt ops)/\(∀q∈L,∀d,bL ops r=some d->bL ops q≠some d)/\BC ops L
def sZ (ops:Array Oper):List Nat->Prop
 | []=>True
 |r::L=>(∀q∈L,Region.waitsFor .any ops q r=true\/ ∀o d,ops[q]?=some o->bL ops r=some d->d∉o.looksAt ops)/\sZ ops L
theorem BC.filter {p:Nat->Bool} : ∀ {L:List Nat},BC ops L->BC ops (L.filter p)
 | [],_=>trivial
 |r::L,⟨h1,h2,h3⟩=>by
  rw [List.filter_cons]
  split
  ·exact ⟨λq hq=>h1 q (by rcases Ba.1 hq with rfl|hq;exact Jr ..;exact Am _ (Bv.1 hq).1),λq hq=>h2 q (Bv.1 hq).1,h3.filter⟩
  ·exact h3.filter
theorem sZ.filter {p:Nat->Bool} : ∀ {L:List Nat},sZ ops L->sZ ops (L.filter p)
 | [],_=>trivial
 |r::L,⟨h1,h3⟩=>by
  rw [List.filter_cons]
  split
  ·exact ⟨λq hq=>h1 q (Bv.1 hq).1,h3.filter⟩
  ·exact h3.filter
theorem Yj {i j:Nat} {p:Oper->Oper->Bool} (h:nk ops i j p=true): ∃x y,ops[i]?=some x/\ops[j]?=some y/\p x y=true:=by
 unfold nk at h
 split at h
 ·rename_i x y h1 h2;exact ⟨x,y,h1,h2,h⟩
 ·cases h
theorem dZ {x y:Oper} (h:lZ ops x y=true): ∀d,x.dst=some d->d∉y.looksAt ops:= λd hd=>by
 unfold lZ at h
 rw [hd] at h
 simpa using h
theorem yi {x y:Oper} (h:BW x y=true): ∀d,x.dst=some d->y.dst≠some d:= λd hd=>by
 unfold BW at h
 rw [hd] at h
 simpa using h
theorem bf {r:Nat} {o:Oper} (h:ops[r]?=some o):bL ops r=o.dst:=by unfold bL;rw [h];rfl
theorem nQ: ∀ {E:List Nat},wz ops E=true->BC ops E/\sZ ops E
 | [],_=>⟨trivial,trivial⟩
 |r::E,h=>by
  simp only [wz,Ag,Ax] at h
  obtain ⟨⟨h1,h2⟩,h3⟩:=h
  obtain ⟨g1,g2⟩:=nQ h3
  refine ⟨⟨λq hq o d ho hd=>?_,λq hq d hd=>?_,g1⟩,λq hq=>?_,g2⟩
  ·rcases Ba.1 hq with rfl|hq
   ·obtain ⟨x,y,hx,hy,hp⟩:=Yj h1
    rw [ho] at hx hy;cases hx;cases hy
    rw [bf ho] at hd
    exact dZ hp d hd
   ·obtain ⟨x,y,hx,hy,hp⟩:=Yj (h2 q hq).1
    rw [ho] at hx;cases hx
    rw [bf hy] at hd
    exact dZ (Bm.1 hp).2 d hd
  ·obtain ⟨x,y,hx,hy,hp⟩:=Yj (h2 q hq).1
   rw [bf hx] at hd
   rw [bf hy]
   exact yi (Bm.1 hp).1 d hd
  ·have h4:=(h2 q hq).2
   rw [Lk] at h4
   rcases h4 with h4|h4
   ·exact .inl h4
   ·refine .inr λo d ho hd=>?_
    obtain ⟨x,y,hx,hy,hp⟩:=Yj h4
    rw [ho] at hy;cases hy
    rw [bf hx] at hd
    exact dZ hp d hd
theorem WG (hT:Du P T) (Of:Ju P Γ) {st:St} : ∀(L:List Nat) (a:Act),(∀r∈L,gZ ops r=true/\ ∃o v,ops[r]?=some o/\Vy T Γ ops st o=some v/\ ∀d,o.dst=some d->st.get d=v)->BC ops L->
  Bb X π (Ra ops L st) a w-> ∃a',HY ops L a a'/\Bb X π st a' w
 | [],a,_,_,h=>⟨a,rfl,h⟩
 |r::L,a,hs,⟨f1,f2,f3⟩,h=>by
  obtain ⟨hr,o,v,ho,hv,hd⟩:=hs r (Jr ..)
  have WZ:=bf ho
  have l7:Vy T Γ ops (Ra ops (r::L) st) o=some v:=by
   rw [AE (st:=st) (Qb _ _) λt ht=>(Rb _ _ _).2 λhm=>by
    obtain ⟨q,hq,he⟩:=Lf.1 hm
    exact f1 q hq o t ho he ht]
   exact hv
  obtain ⟨u,_,hu⟩:=nV hT Of h ho hr l7
  have h2:=h.put o.dst hu
  have h3:Bb X π (Ra ops L st) (a.put o.dst u) w:=by
   refine qI h2 ?_ ?_ λt=>?_
   ·rw [hZ,Qb,Qb]
   ·rw [lD,Vg,Vg]
   ·obtain ⟨g1,g2⟩:=fR (Ra ops (r::L) st) o.dst v t
    by_cases he:o.dst=some t
    ·have rZ:t∉iG ops L:= λhm=>by
      obtain ⟨q,hq,hqe⟩:=Lf.1 hm
      exact f2 q hq t (by rw [WZ];exact he) hqe
     rw [(Rb L st t).2 rZ,hd t he]
     rcases g1 he with g|g
     ·exact .inl g.symm
     ·by_cases hl:t<st.tmps.length
      ·refine .inl ?_
       rw [he]
       show v=((Rr (Ra ops (r::L) st).tmps t v).getD t .undef)
       rw [Qe,Ab ⟨rfl,by rw [Vg];exact hl⟩]
      ·refine .inr ?_
       rw [<-hd t he]
       unfold St.get
       rw [Al,Er (by omega)]
       rfl
    ·rw [g2 he]
     have:(Ra ops (r::L) st).get t=(Ra ops L st).get t:=(fR (Ra ops L st) (bL ops r) .undef t).2 (by rw [WZ];exact he)
     exact .inl this.symm
  obtain ⟨a',hp,eT⟩:=WG hT Of L _ (λq hq=>hs q (Am _ hq)) f3 h3
  exact ⟨a',⟨u,by rw [WZ];exact hp⟩,eT⟩
theorem NV: ∀ {L:List Nat},BC ops L->sZ ops L-> ∀ {i:Nat} {o:Oper},i∈L->ops[i]?=some o->(∀q∈L,Region.waitsFor .any ops i q=true->False)-> ∀q∈L,∀d,bL ops q=some d->d∉o.looksAt ops
 | [],_,_,i,_,hi,_,_=>by cases hi
 |r::L,⟨f1,f2,f3⟩,⟨b1,b2⟩,i,o,hi,ho,hw=> λq hq d hd=>by
  by_cases hir:i=r
  ·subst hir
   exact f1 q hq o d ho hd
  ·have oS:=(Ba.1 hi).resolve_left hir
   rcases Ba.1 hq with rfl|m8
   ·rcases b1 i oS with h|h
    ·exact (hw q hq h).elim
    ·exact h o d ho hd
   ·exact NV f3 b2 oS ho (λq hq=>hw q (Am _ hq)) q m8 d hd
theorem nC {Af:Array Bool} (Yz:Af.size=ops.size): ∀ {E:List Nat} {L:Array Bool} {r:Nat} {Q:List Nat},gr ops E L=true->(∀j,L.getD j false=true->Af.getD j false=true)->Lt E Af=r::Q->r∈Region.ready .any ops Af
 | [],_,_,_,_,_,h=>by simp [Lt] at h
 |e::E,L,r,Q,hr,hl,hp=>by
  simp only [gr,Ag,Iz] at hr
  unfold Lt at hp
  rw [List.filter_cons] at hp
  by_cases he:Af.getD e false=true
  ·rw [Ai (by rw [he];simp)] at hp
   refine nC Yz hr.2 (λj hj=>?_) hp
   by_cases hej:e=j
   ·subst hej;exact he
   ·rw [getD_set_ne false hej] at hj;exact hl j hj
  ·have he:Af.getD e false=false:=by simpa using he
   rw [Ab (by rw [he];rfl)] at hp
   injection hp with tH tJ
   subst tH
   obtain ⟨_,o,ho,Kp⟩:=mem_ready.1 hr.1
   have Jx:e<Af.size:=by rw [Yz];exact (Mp.1 ho).1
   exact mem_ready.2 ⟨getD_in Jx he,o,ho,λx hx hb=>hl _ (Kp x hx hb)⟩
theorem cF {Af:Array Bool} {j:Nat} (h:Af.getD j true=false):j<Af.size:=by
 rcases Nat.lt_or_ge j Af.size with h'|h'
 ·exact h'
 ·simp [Array.getElem?_eq_none h'] at h
theorem sY (hT:Du P T) (Of:Ju P Γ) {Q:Exit->Act->World->Prop} (hQ: ∀c a w,¬Q (.panic c) a w) {K:St->Prop} (hK: ∀st a w,K st->Rel X st a w->Q .normal a w) (az:Region.noSelect ops=true)
  {E:List Nat} {L0:Array Bool} (hE:br ops E L0=true): ∀(n f:Nat) (Af LA:Array Bool) (st:St) (a:Act) (w:World),n=f+(Lt E Af).length->Af.size=ops.size->LA.size=ops.size->
   (∀j,LA.getD j false=(Af.getD j false||E.contains j))->Tb ops Af->(∀j,L0.getD j false=true->Af.getD j false=true)->og T Γ ops E K f LA st->Rel X (Ra ops (Lt E Af) st) a w->wpAny P .any ops Q n Af a w:=by
 simp only [br,Ag,Ax] at hE
 obtain ⟨⟨hre,hry⟩,hpr,hap⟩:=hE
 obtain ⟨Ad1,nG⟩:=nQ hpr
 have key: ∀(n f:Nat) (Af LA:Array Bool) (st:St) (a:Act) (w:World),n=f+(Lt E Af).length->Af.size=ops.size->LA.size=ops.size->
   (∀j,LA.getD j false=(Af.getD j false||E.contains j))->Tb ops Af->(∀j,L0.getD j false=true->Af.getD j false=true)->og T Γ ops E K f LA st->Rel X (Ra ops (Lt E Af) st) a w->
   (∀j,j∈Region.ready .any ops Af->j∉E->j∈Region.ready .any ops LA)/\(Region.ready .any ops Af= []->Q .normal a w/\f=0/\Lt E Af= []):=by
  intro n f Af LA st a w hn jI rK SY Qp UA pR hrel
  have h1: ∀j,j∈Region.ready .any ops Af->j∉E->j∈Region.ready .any ops LA:= λj hj hjE=>by
   obtain ⟨m9,o,ho,Kp⟩:=mem_ready.1 hj
   have Jx:=cF m9
   refine mem_ready.2 ⟨getD_in (by omega) ?_,o,ho,λe he hb=>by rw [SY,Kp e he hb];rfl⟩
   rw [SY,getD_both m9]
   simpa using hjE
  refine ⟨h1,λh0=>?_⟩
  cases CN:Lt E Af with
  |cons r L=>
   have:=nC jI hry UA CN
   rw [h0] at this
   cases this
  |nil=>
   have Kp: ∀r,r∈E->Af.getD r false=true:= λr hr=>by
    have:r∉Lt E Af:=by rw [CN];simp
    unfold Lt at this
    rw [Bv] at this
    by_cases hl:Af.getD r false=true
    ·exact hl
    ·exact absurd ⟨hr,by simpa using hl⟩ this
   have hb: ∀j,j∈Region.ready .any ops LA->j∈Region.ready .any ops Af:= λj hj=>by
    obtain ⟨m9,o,ho,hw⟩:=mem_ready.1 hj
    have Jx:=cF m9
    have he: ∀k,LA.getD k false=Af.getD k false:= λk=>by
     rw [SY]
     by_cases hk:k∈E
     ·rw [Kp k hk];rfl
     ·rw [show E.contains k=false by simpa using hk,eW]
    exact mem_ready.2 ⟨getD_in (by omega) (by rw [<-he];exact getD_both m9),o,ho,λe hx hbd=>by rw [<-he];exact hw e hx hbd⟩
   cases f with
   |zero=>
    obtain ⟨_,_,hk⟩:=pR
    rw [CN] at hrel
    exact ⟨hK _ _ _ hk hrel,rfl,rfl⟩
   |succ f=>
    obtain ⟨_,Is,_⟩:=pR
    obtain ⟨j,hj⟩:=List.exists_mem_of_ne_nil _ Is
    have:=hb j hj
    rw [h0] at this
    cases this
 intro n
 induction n with
 |zero=>
  intro f Af LA st a w hn jI rK SY Qp UA pR hrel
  obtain ⟨k1,k2⟩:=key 0 f Af LA st a w hn jI rK SY Qp UA pR hrel
  have hf:f=0:=by omega
  have hp:Lt E Af= []:=List.length_eq_zero_iff.1 (by omega)
  subst hf
  obtain ⟨_,hr,_⟩:=pR
  have h0:Region.ready .any ops Af= []:=List.eq_nil_iff_forall_not_mem.2 λj hj=>by
   by_cases hjE:j∈E
   ·have m9:=getD_both (mem_ready.1 hj).1
    have:j∈Lt E Af:=Bv.2 ⟨hjE,by rw [m9];rfl⟩
    rw [hp] at this
    cases this
   ·have:=k1 j hj hjE
    rw [hr] at this
    cases this
  exact ⟨h0,(k2 h0).1⟩
 |succ n ih=>
  intro f Af LA st a w hn jI rK SY Qp UA pR hrel
  obtain ⟨k1,k2⟩:=key (n+1) f Af LA st a w hn jI rK SY Qp UA pR hrel
  have Up:RK T Γ ops E LA st:=by cases f<;>exact pR.1
  have ON: ∀r∈Lt E Af,r∈E/\Af.getD r false=false:= λr hr=>by
   obtain ⟨h1,h2⟩:=Bv.1 hr
   exact ⟨h1,by simpa using h2⟩
  have XK: ∀r∈Lt E Af,gZ ops r=true/\ ∃o v,ops[r]?=some o/\Vy T Γ ops st o=some v/\ ∀d,o.dst=some d->st.get d=v:= λr hr=>by
   obtain ⟨h1,h2⟩:=ON r hr
   refine ⟨hre r h1,(Up r h1).resolve_left λhw=>?_⟩
   unfold oZ at hw
   obtain ⟨j,_,hj⟩:=Eu.1 hw
   simp only [Ag,Eg] at hj
   obtain ⟨hj1,ZI,hj3⟩:=hj
   rw [SY,hj1,eW] at ZI
   have:=Qp j r ZI hj3
   rw [h2] at this
   cases this
  refine ⟨λh0=>(k2 h0).1,λi hi=>?_⟩
  obtain ⟨π,hrel⟩:=hrel
  have hiw: ∀q∈Lt E Af,Region.waitsFor .any ops i q=true->False:= λq hq hw=>by
   have:=bt hi hw
   rw [(ON q hq).2] at this
   cases this
  obtain ⟨m9,oi,hoi,_⟩:=mem_ready.1 hi
  have Jx:=cF m9
  by_cases ZG:i∈E
  ·have ML:i∈Lt E Af:=Bv.2 ⟨ZG,by rw [getD_both m9];rfl⟩
   obtain ⟨hrd,o,v,ho,hv,hd⟩:=XK i ML
   have hnl:=NV (Ad1.filter (p:= λr=>!Af.getD r false)) (nG.filter (p:= λr=>!Af.getD r false)) ML ho hiw
   have l7:Vy T Γ ops (Ra ops (Lt E Af) st) o=some v:=by
    rw [AE (st:=st) (Qb _ _) λt ht=>(Rb _ _ _).2 λhm=>by
     obtain ⟨q,hq,he⟩:=Lf.1 hm
     exact hnl q hq t he ht]
    exact hv
   obtain ⟨u,hy,hu⟩:=nV hT Of hrel ho hrd l7
   refine hy Q _ ?_
   have CN: ∀q,q∈Lt E (Af.setIfInBounds i true)↔q∈Lt E Af/\q≠i:= λq=>by
    unfold Lt
    rw [Bv,Bv]
    by_cases hqi:q=i
    ·subst hqi
     simp [Jx]
    ·rw [getD_set_ne false (Gl hqi)]
     exact ⟨λh=>⟨h,hqi⟩,λh=>h.1⟩
   have hlen:(Lt E Af).length=(Lt E (Af.setIfInBounds i true)).length+1:=by
    have rZ: ∀(E:List Nat) (L:Array Bool),gr ops E L=true->E.Nodup/\ ∀r∈E,L.getD r true=false:=by
     intro E
     induction E with
     |nil=>exact λL _=>⟨Mr,λr hr=>by cases hr⟩
     |cons e E ihE=>
      intro L h
      simp only [gr,Ag,Iz] at h
      obtain ⟨g1,g2⟩:=ihE _ h.2
      have he:=(mem_ready.1 h.1).1
      have iR:=cF he
      refine ⟨Cf.2 ⟨λhm=>?_,g1⟩,λr hr=>?_⟩
      ·have:=g2 e hm
       simp [iR] at this
      ·rcases Ba.1 hr with rfl|hr
       ·exact he
       ·have Is:e≠r:= λe'=>by subst e';have:=g2 e hr;simp [iR] at this
        have:=g2 r hr
        rw [getD_set_ne true Is] at this
        exact this
    have hEn:=(rZ E L0 hry).1
    have Ajr: ∀L:List Nat,L.Nodup->i∈L->(L.filter λr=>!Af.getD r false).length=(L.filter λr=>!(Af.setIfInBounds i true).getD r false).length+1:=by
     intro L
     induction L with
     |nil=>exact λ_ h=>by cases h
     |cons x L ihL=>
      intro hn hm
      obtain ⟨hx,hn⟩:=Cf.1 hn
      rw [List.filter_cons,List.filter_cons]
      by_cases hxi:x=i
      ·subst hxi
       rw [Ab (by rw [getD_both m9];rfl),Ai (by simp [Jx])]
       have:L.filter (λr=>!Af.getD r false)=L.filter (λr=>!(Af.setIfInBounds x true).getD r false):=List.filter_congr λq hq=>by
        rw [getD_set_ne false (λe=>hx (by rw [e];exact hq))]
       rw [Bg,this]
      ·have hm:=(Ba.1 hm).resolve_left (Gl hxi)
       rw [getD_set_ne false (Gl hxi)]
       split
       ·rw [Bg,Bg,ihL hn hm]
       ·exact ihL hn hm
    exact Ajr E hEn ZG
   refine ih f (Af.setIfInBounds i true) LA st _ w (by omega) (by simp [jI]) rK (λj=>?_) (Qp.set hi) (λj hj=>getD_set_true (UA j hj)) pR ⟨π,?_⟩
   ·rw [SY]
    by_cases dm:i=j
    ·subst dm
     rw [show E.contains i=true by simpa using ZG,Bool.or_true,Bool.or_true]
    ·rw [getD_set_ne false dm]
   ·have h2:=hrel.put o.dst hu
    refine qI h2 ?_ ?_ λt=>?_
    ·rw [hZ,Qb,Qb]
    ·rw [lD,Vg,Vg]
    ·have WZ:=bf ho
     by_cases hm:t∈iG ops (Lt E (Af.setIfInBounds i true))
     ·exact .inr ((Rb _ _ _).1 hm)
     ·rw [(Rb _ _ _).2 hm]
      obtain ⟨g1,g2⟩:=fR (Ra ops (Lt E Af) st) o.dst v t
      by_cases he:o.dst=some t
      ·rw [hd t he]
       rcases g1 he with g|g
       ·exact .inl g.symm
       ·by_cases hl:t<st.tmps.length
        ·refine .inl ?_
         rw [he]
         show v=((Rr (Ra ops (Lt E Af) st).tmps t v).getD t .undef)
         rw [Qe,Ab ⟨rfl,by rw [Vg];exact hl⟩]
        ·refine .inr ?_
         rw [<-hd t he]
         unfold St.get
         rw [Al,Er (by omega)]
         rfl
      ·rw [g2 he]
       refine .inl ((Rb _ _ _).2 λhm2=>?_).symm
       obtain ⟨q,hq,hqe⟩:=Lf.1 hm2
       by_cases hqi:q=i
       ·subst hqi
        rw [WZ] at hqe
        exact he hqe
       ·exact hm (Lf.2 ⟨q,(CN q).2 ⟨hq,hqi⟩,hqe⟩)
  ·cases f with
   |zero=>
    obtain ⟨_,hr,_⟩:=pR
    have:=k1 i hi ZG
    rw [hr] at this
    cases this
   |succ f=>
    obtain ⟨_,_,Adg⟩:=pR
    obtain ⟨o,st',ho,he,ey⟩:=Adg i (k1 i hi ZG)
    obtain ⟨a',OT,kZ⟩:=WG hT Of (Lt E Af) a XK Ad1.filter hrel
    have tK:wpOp P ops Q i (λa2 w2=>Rel X st' a2 w2) a' w:=by
     unfold wpOp
     simp only [ho]
     exact Uv hT Of kZ o he λa2 w2 h2=>h2
    have vD:=uL (Q:=Q) ho (λcs b=>Region.noSelect_spec az i o cs b ho) hQ (Lt E Af) a a' w (λr hr=>?_) OT tK
    ·refine wpOp_mono (λa2 w2 hk=>?_) vD
     obtain ⟨a3,hp3,π3,hr3⟩:=hk
     have CN:Lt E (Af.setIfInBounds i true)=Lt E Af:=by
      unfold Lt
      refine List.filter_congr λq hq=>?_
      rw [getD_set_ne false (λe=>ZG (by rw [e];exact hq))]
     refine ih f (Af.setIfInBounds i true) (LA.setIfInBounds i true) st' a2 w2 (by rw [CN];omega) (by simp [jI]) (by simp [rK]) (λj=>?_) (Qp.set hi) (λj hj=>getD_set_true (UA j hj)) ey ⟨π3,by rw [CN];exact QY hp3 hr3⟩
     by_cases dm:i=j
     ·subst dm
      simp [Jx,jI▸Jx,rK]
     ·rw [getD_set_ne false dm,getD_set_ne false dm,SY]
    ·obtain ⟨hrE,hrl⟩:=ON r hr
     have h3:=Ax.1 (Ax.1 hap r hrE) i (Io.2 (by omega))
     simp only [Lk] at h3
     rcases h3 with ((h3|h3)|h3)|h3
     ·exact absurd (by simpa using h3) ZG
     ·have:=UA i h3
      rw [getD_both m9] at this
      cases this
     ·exact (hiw r hr h3).elim
     ·obtain ⟨x,y,hx,hy,hp⟩:=Yj h3
      rw [ho] at hy;cases hy
      exact ⟨x,hx,hp⟩
theorem kQ: ∀(E:List Nat) (s0 s1:St),Fh T Γ ops E s0=some s1->s1.heap=s0.heap/\s1.tmps.length=s0.tmps.length/\ ∀t,t∉iG ops E->s1.get t=s0.get t
 | [],s0,s1,h=>by
  simp only [Fh,Aa] at h
  subst h
  exact ⟨rfl,rfl,λ_ _=>rfl⟩
 |r::E,s0,s1,h=>by
  simp only [Fh] at h
  split at h
  ·cases h
  rename_i o ho
  split at h
  rotate_left
  ·cases h
  rename_i v hv
  obtain ⟨h1,h2,h3⟩:=kQ E _ _ h
  refine ⟨by rw [h1,hZ],by rw [h2,lD],λt ht=>?_⟩
  rw [h3 t λhm=>ht (by obtain ⟨q,hq,he⟩:=Lf.1 hm;exact Lf.2 ⟨q,Am _ hq,he⟩)]
  exact (fR s0 o.dst v t).2 λe=>ht (Lf.2 ⟨r,Jr ..,by rw [bf ho];exact e⟩)
theorem ua: ∀ {E:List Nat} {L0:Array Bool},gr ops E L0=true-> ∀r∈E,L0.getD r true=false
 | [],_,_,_,hr=>by cases hr
 |e::E,L0,h,r,hr=>by
  simp only [gr,Ag,Iz] at h
  have he:=(mem_ready.1 h.1).1
  rcases Ba.1 hr with rfl|hr
  ·exact he
  ·have h2:=ua h.2 r hr
   have Is:e≠r:= λe'=>by subst e';simp [cF he] at h2
   rw [getD_set_ne true Is] at h2
   exact h2
theorem sX (hT:Du P T) (Of:Ju P Γ) {Q:Exit->Act->World->Prop} (hQ: ∀c a w,¬Q (.panic c) a w) {K:St->Prop} (hK: ∀st a w,K st->Rel X st a w->Q .normal a w) (az:Region.noSelect ops=true)
  {E:List Nat} {L0:Array Bool} (hE:br ops E L0=true) {n:Nat} (hn:E.length<=n) {aW st1:St} (h1:Fh T Γ ops E aW=some st1) (h2:og T Γ ops E K (n-E.length) (Ee E L0) st1)
  (Yz:L0.size=ops.size) (Qp:Tb ops L0) {a:Act} {w:World} (hr:Rel X aW a w):wpAny P .any ops Q n L0 a w:=by
 have hE':=hE
 simp only [br,Ag] at hE'
 have m9:=ua hE'.1.2
 have hp:Lt E L0=E:=List.filter_eq_self.2 λr hr=>by rw [getD_both (m9 r hr)];rfl
 refine sY hT Of hQ hK az hE n (n-E.length) L0 (Ee E L0) st1 a w (by rw [hp];omega) Yz (by rw [Vf];exact Yz) (λj=>?_) Qp (λj hj=>hj) h2 ?_
 ·by_cases hj:j∈E
  ·rw [dw E L0 j hj (cF (m9 j hj)),show E.contains j=true by simpa using hj,Bool.or_true]
  ·rw [bP E L0 j hj,show E.contains j=false by simpa using hj,eW]
 ·obtain ⟨π,hr⟩:=hr
  obtain ⟨g1,g2,g3⟩:=kQ E _ _ h1
  refine ⟨π,qI hr (by rw [Qb,g1]) (by rw [Vg,g2]) λt=>?_⟩
  rw [hp]
  by_cases ht:t∈iG ops E
  ·exact .inr ((Rb _ _ _).1 ht)
  ·exact .inl (((Rb _ _ _).2 ht).trans (g3 t ht))
theorem Wh (live:List Nat): ∀(i:Nat) (l:List AV),(Hs live i l).length=l.length
 |_,[]=>rfl
 |i,v::r=>by simp [Hs,Wh live (i+1) r]
theorem al (live:List Nat): ∀(i:Nat) (l:List AV) (t:Nat),(Hs live i l).getD t .undef= .undef\/(Hs live i l).getD t .undef=l.getD t .undef
 |_,[],t=> .inr rfl
 |i,v::r,0=>by
  simp only [Hs,eg]
  split
  ·exact .inr rfl
  ·exact .inl rfl
 |i,v::r,t+1=>by
  simp only [Hs,Mv]
  exact al live (i+1) r t
theorem bM: ∀(l:List Nat) (st:St) (a:Act) (w:World),Rel X st a w->Rel X (Zw l st) a w
 | [],_,_,_,h=>h
 |k::r,_,a,w,⟨_,h⟩=>bM r _ a w ⟨_,h.forget k⟩
theorem LI (dead:List Nat) {st:St} {a:Act} {w:World} (h:Rel X st a w):Rel X (st.Pv dead) a w:=by
 obtain ⟨π,h⟩:=h
 unfold St.Pv
 refine bM _ _ a w ⟨π,h.1,⟨by simp [Wh,h.2.size],h.2.defers,λt=>?_⟩⟩
 show Bf X w π st.heap ((Hs _ 0 st.tmps).getD t .undef) _
 rcases al ((List.range st.tmps.length).filter λt=>!dead.contains t) 0 st.tmps t with e|e
 ·rw [e];trivial
 ·rw [e];exact h.2.tmps t
theorem nW (hT:Du P T) (Of:Ju P Γ) (hm:P.follows .mixedOrders=true) {Q:Exit->Act->World->Prop} {id:Nat} {draw:Bool} {st:St} {K:St->Prop} {a:Act} (h:Rel X st a w)
  (he:iC T Γ ops draw st K) (hQ: ∀st' a' w',K st'->Rel X st' a' w'->Q .normal a' w'):(Code.region id ops draw).wp P Q a w:=by
 rcases he with ⟨st',h1,h2⟩|⟨rfl,az,aW,h1,h2⟩
 ·exact mq hT Of hm h h1 λa' w' h'=>hQ st' a' w' h2 h'
 ·refine wp_mono (Q:= λe a w=>e= .normal/\Q .normal a w) ?_ λe a w h=>h.1▸h.2
  refine wp_region_any hm ?_
  have hrel:Rel X st a {w with drawn:=w.drawn+1} :=by
   obtain ⟨π,h⟩:=h
   exact ⟨π,h.quiet ⟨rfl,rfl,rfl,Ar _,λ_ _=>rfl⟩⟩
  have hlen:(Kb ops).length<=ops.size:=by
   have:=bQ (ops:=ops) (!gS false ops) (List.range ops.size) (Array.replicate ops.size false)
   rw [List.length_range] at this
   exact this
  have l5:(Array.replicate ops.size false).size=ops.size:=by simp
  have hmv:(Ee (Kb ops) (Array.replicate ops.size false)).size=ops.size:=by rw [Vf,l5]
  have:=aU hT (!gS false ops) (X:=X) (P:=P) (T:=T) (Γ:=Γ) (Q:= λe a w=>e= .normal/\Q .normal a w) (n:=ops.size-(Kb ops).length) (st1:=aW) (λc a w hq=>by cases hq.1) az (List.range ops.size) (Array.replicate ops.size false) st a _ h1 hrel λa' w' h'=>by
   rcases h2 with h2|⟨E,st1,hE,hEn,hE1,hE2⟩
   ·exact jm hT Of (λst' a' w' hk hr=>⟨rfl,hQ st' a' w' hk hr⟩) _ _ _ _ _ h2 h'
   ·exact sX hT Of (λc a w hq=>by cases hq.1) (λst' a' w' hk hr=>⟨rfl,hQ st' a' w' hk hr⟩) az hE hEn hE1 hE2 hmv (Zi _ _ _ nz) h'
  have e:(Iu (!gS false ops) ops (List.range ops.size) (Array.replicate ops.size false)).length+(ops.size-(Kb ops).length)=ops.size:=by
   have e2:(Iu (!gS false ops) ops (List.range ops.size) (Array.replicate ops.size false)).length=(Kb ops).length:=rfl
   omega
  rw [e] at this
  exact this
theorem ED (hT:Du P T) (Of:Ju P Γ) (hm:P.follows .mixedOrders=true) {Q:Exit->Act->World->Prop} {id:Nat} {draw:Bool} {st:St} {K:St->Prop} {a:Act} (h:Rel X st a w)
  (he:uQ T Γ ops draw st K) (hQ: ∀st' a' w',K st'->Rel X st' a' w'->Q .normal a' w'):(Code.region id ops draw).wp P Q a w:=by
 rcases he with he|⟨dead,_,he⟩
 ·exact nW hT Of hm h he hQ
 ·exact nW hT Of hm h he λst' a' w' hk hr=>hQ _ a' w' hk (LI dead hr)
end
end Go.Proofs.Ytkkdpknjohcekaa
