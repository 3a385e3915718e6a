/-
  Part 25 of the proof that the statement FnTables holds.
-/
import Derived.Test.YtkkdpknjohcekaaCFTables23
namespace Go.Proofs.Ytkkdpknjohcekaa
open Go.RowKit
section
variable {P:Program} {T:Tab} {Γ:Env} {X:Ctx} {w w':World} {π:Pi} {ops:Array Oper} {hd tl:List Nat}
structure Xh (ops:Array Oper) (tl fl:List Nat) (Af:Array Bool):Prop where
 size:Af.size=ops.size
 done: ∀i,i∈fl->Af.getD i false=true
 closed: ∀j oj,ops[j]?=some oj->Af.getD j false=true-> ∀e∈oj.after,Region.binds .any e=true->Af.getD e.on false=true
 tail: ∀t,t∈tl->Af.getD t true=false
theorem Xh.set {fl:List Nat} {i:Nat} {Af:Array Bool} (inv:Xh ops tl fl Af) (hi:i∈Region.ready .any ops Af) (aL:i∉tl):Xh ops tl fl (Af.setIfInBounds i true):=by
 obtain ⟨_,oi,hoi,Kt⟩:=mem_ready.1 hi
 refine ⟨by simp [inv.size],λk hk=>getD_set_true (inv.done k hk),λj oj hj hl e he hb=>?_,λt ht=>by
  have Jg:i≠t:= λe=>aL (by rw [e];exact ht)
  rw [getD_set_ne true Jg];exact inv.tail t ht⟩
 by_cases il:i=j
 ·subst il
  have:oj=oi:=Ba (hj.symm.trans hoi)
  subst this
  exact getD_set_true (Kt e he hb)
 ·rw [getD_set_ne false il] at hl
  exact getD_set_true (inv.closed j oj hj hl e he hb)
theorem CC (k:Nat) (r:List Nat) (h:(r.all λt=>(k::r).any λk=>Region.waitsFor .any ops t k)=true): ∀t,t∈r-> ∃k',(k'=k\/k'∈r)/\Region.waitsFor .any ops t k'=true:= λt ht=>by
 obtain ⟨k',h1,h2⟩:=Ej.1 (At.1 h t ht)
 exact ⟨k',Bb.1 h1,h2⟩
theorem AN {fl:List Nat} {Af:Array Bool} (hs:rF ops hd tl=true) (inv:Xh ops tl fl Af) (Yp: ∀i,i∈hd->i<ops.size):
  ∀(d i:Nat),ops.size-i=d->i∈hd->Af.getD i true=false-> ∀t,t∈tl->t∉Region.ready .any ops Af:=by
 cases tl with
 |nil=>intro d i _ _ _ t ht;cases ht
 |cons f r=>
  simp only [rF,Ag] at hs
  obtain ⟨fV,pf⟩:=hs
  intro d
  induction d using Nat.strongRecOn with
  |_ d ih=>
   intro i BN hi m5 t ht hr
   obtain ⟨_,ot,hot,Kt⟩:=mem_ready.1 hr
   rcases Bb.1 ht with rfl|eT
   ·have h1:=At.1 fV i hi
    obtain ⟨j,hj,hj2⟩:=Ej.1 h1
    simp only [Ag,Kn] at hj2
    obtain ⟨oj,YA,e,he,hb,hon⟩:=Region.waitsFor_spec hj2.2
    rcases Bb.1 hj with rfl|VB
    ·have:oj=ot:=Ba (YA.symm.trans hot)
     subst this
     have h2:=Kt e he hb
     rw [hon,getD_both m5] at h2
     cases h2
    ·cases hl:Af.getD j false with
     |true=>
      have h2:=inv.closed j oj YA hl e he hb
      rw [hon,getD_both m5] at h2
      cases h2
     |false=>
      have hjs:j<Af.size:=by rw [inv.size];exact Yp j VB
      have:=Yp j VB
      exact ih (ops.size-j) (by omega) j rfl VB (getD_in hjs hl) t (by simp) hr
   ·obtain ⟨k',h1,h2⟩:=CC f r pf t eT
    obtain ⟨o',ho',e,he,hb,hon⟩:=Region.waitsFor_spec h2
    have:o'=ot:=Ba (ho'.symm.trans hot)
    subst this
    have h3:=Kt e he hb
    have hk:k'∈f::r:=by rcases h1 with rfl|h1<;>simp [*]
    rw [hon,getD_both (inv.tail k' hk)] at h3
    cases h3
def NS (T:Tab) (Γ:Env) (ops:Array Oper) (hd:List Nat) (L:Array Bool->St->Prop):Nat->Array Bool->St->Prop
 |0,Af,st=>L Af st
 |f+1,Af,st=>
  Region.ready .any ops Af≠ []/\ ∀i∈Region.ready .any ops Af,i∈hd/\ ∃o v,ops[i]?=some o/\Vn T Γ ops st o=some v/\NS T Γ ops hd L f (Af.setIfInBounds i true) (st.put o.dst v)
theorem xW (hT:Ed P T) (Nt:Kd P Γ) {Q:Exit->Act->World->Prop} {K:Act->World->Prop} {st:St} {a:Act} (h:Rel X st a w) {i:Nat} {o:Oper} {v:AV} (ho:ops[i]?=some o) (hv:Vn T Γ ops st o=some v)
  (hK: ∀a' w',Rel X (st.put o.dst v) a' w'->K a' w'):wpOp P ops Q i K a w:=by
 obtain ⟨π,h⟩:=h
 have run:Vo T Γ st o=some v->o.wp P a w K Q:= λhe=>od (X:=X) (st':=st) (av:=v) (yD hT Nt h o v he) hK
 have skip:v= .at .skip->K (a.put o.dst undef) w:= λe=>by subst e;exact hK _ _ ⟨π,h.put o.dst AA⟩
 unfold wpOp
 simp only [ho]
 unfold Vn at hv
 split at hv
 ·rename_i hg
  rw [Ab (by simp [Region.wanted,hg])]
  exact .inl (run hv)
 ·rename_i j want hg
  split at hv
  ·rename_i b hb
   have hy:=(cW h j).1 b hb
   split at hv
   ·rename_i OZ
    rw [Ab (by simp only [Region.wanted,hg,hy];simpa using OZ)]
    exact .inl (run hv)
   ·rename_i OZ
    rw [Al (by simp only [Region.wanted,hg,hy];simpa using OZ)]
    simp only [Aa] at hv
    exact skip hv.symm
  ·rename_i hb
   have hy:=(cW h j).2 hb
   rw [Al (by simp [Region.wanted,hg,hy])]
   simp only [Aa] at hv
   exact skip hv.symm
  ·cases hv
theorem jz (hT:Ed P T) (Nt:Kd P Γ) {g:Nat} {L:Array Bool->St->Prop} {Q:Exit->Act->World->Prop} (hL: ∀Af st a w,L Af st->Rel X st a w->wpAny P .any ops Q g Af a w):
  ∀(f:Nat) (Af:Array Bool) (st:St) (a:Act) (w:World),NS T Γ ops hd L f Af st->Rel X st a w->wpAny P .any ops Q (f+g) Af a w
 |0,Af,st,a,w,h,hr=>by rw [Cf];exact hL _ _ _ _ h hr
 |f+1,Af,st,a,w,h,hr=>by
  rw [show f+1+g=(f+g)+1 by omega]
  refine ⟨λh0=>absurd h0 h.1,λi hi=>?_⟩
  obtain ⟨_,o,v,ho,hv,er⟩:=h.2 i hi
  exact xW hT Nt hr ho hv λa' w' h'=>jz hT Nt hL f _ _ _ _ er h'
theorem BQ {fl:List Nat} {i:Nat} {oi:Oper} {v:AV} {L:Array Bool->St->Prop} (hi:ops[i]?=some oi) (hs:rF ops hd tl=true) (Yp: ∀i,i∈hd->i<ops.size) (aL:i∈hd)
  (Kt: ∀j,j<ops.size->j∈fl\/j∈hd\/j∈tl) (yR: ∀j,j∈hd->j∉tl) (Ad3: ∀Af st,L Af st-> ∀j∈Region.ready .any ops Af,j∈tl):
  ∀(f:Nat) (Af:Array Bool) (st:St),Xh ops tl fl Af->
   (∀j oj,ops[j]?=some oj->j≠i->Af.getD j true=false->(∀e∈oj.after,Region.binds .any e=true->e.on≠i)->oi.apart ops oj=true)->
   i∈Region.ready .any ops Af->Vn T Γ ops st oi=some v->
   NS T Γ ops hd L f (Af.setIfInBounds i true) (st.put oi.dst v)->NS T Γ ops hd L (f+1) Af st:=by
 intro f
 have Aej: ∀Af,Xh ops tl fl Af->i∈Region.ready .any ops Af-> ∀j,j∈Region.ready .any ops Af->j∈hd:=by
  intro Af inv hr j hj
  obtain ⟨m5,oj,YA,_⟩:=mem_ready.1 hj
  rcases Kt j (Mk.1 YA).1 with h|h|h
  ·have h1:=inv.done j h
   rw [getD_both m5] at h1;cases h1
  ·exact h
  ·exact absurd hj (AN hs inv Yp _ i rfl aL (mem_ready.1 hr).1 j h)
 induction f with
 |zero=>
  intro Af st inv _ hr hv Hh
  refine ⟨λh=>(by rw [h] at hr;cases hr),λj hj=>?_⟩
  have VB:=Aej Af inv hr j hj
  refine ⟨VB,?_⟩
  by_cases pc:j=i
  ·subst pc;exact ⟨oi,v,hi,hv,Hh⟩
  ·exact absurd (Ad3 _ _ Hh j (ready_mono hj pc)) (yR j VB)
 |succ f ih=>
  intro Af st inv lg hr hv Hh
  have m5:=(mem_ready.1 hr).1
  refine ⟨λh=>(by rw [h] at hr;cases hr),λj hj=>?_⟩
  have VB:=Aej Af inv hr j hj
  refine ⟨VB,?_⟩
  by_cases pc:j=i
  ·subst pc;exact ⟨oi,v,hi,hv,Hh⟩
  ·obtain ⟨_,oj,vj,YA,hvj,er⟩:=Hh.2 j (ready_mono hj pc)
   obtain ⟨Ada,oj',Ajb,Acu⟩:=mem_ready.1 hj
   have:oj'=oj:=Ba (Ajb.symm.trans YA)
   subst this
   have qu: ∀e∈oj'.after,Region.binds .any e=true->e.on≠i:= λe he hb heq=>by
    have h1:=Acu e he hb
    rw [heq,getD_both m5] at h1
    cases h1
   obtain ⟨p1,p2,p3⟩:=Oper.apart_spec (lg j oj' YA pc Ada qu)
   rw [AS p1] at hvj
   refine ⟨oj',vj,YA,hvj,?_⟩
   have ZX: ∀k ok,ops[k]?=some ok->k≠i->(Af.setIfInBounds j true).getD k true=false->
     (∀e∈ok.after,Region.binds .any e=true->e.on≠i)->oi.apart ops ok=true:= λk ok hk hki Ae8 XZ=>by
    refine lg k ok hk hki ?_ XZ
    by_cases hjk:j=k
    ·subst hjk;exact Ada
    ·rw [getD_set_ne true hjk] at Ae8;exact Ae8
   refine ih (Af.setIfInBounds j true) (st.put oj'.dst vj) (inv.set hj (yR j VB)) ZX (ready_mono hr (Hi pc)) (by rw [AS p3];exact hv) ?_
   rw [Array.setIfInBounds_comm _ _ pc,<-St.put_comm st v vj p2]
   exact er
theorem o4: ∀(l:List Nat) (Af:Array Bool),lM ops l Af=true-> ∀j∈Region.ready .any ops Af,j∈l
 | [],Af,h,j,hj=>by simp only [lM,List.isEmpty_iff] at h;rw [h] at hj;cases hj
 |k::r,Af,h,j,hj=>by
  simp only [lM,Ag,Jq,Kn] at h
  rcases h.1 with h1|h1
  ·rw [h1] at hj
   simp at hj
   simp [hj]
  ·by_cases e:j=k
   ·simp [e]
   ·exact An _ (o4 r _ h.2 j (ready_mono hj e))
theorem yb {fl:List Nat} (ak:Region.noSelect ops=true) (hs:rF ops hd tl=true) (Yp: ∀i,i∈hd->i<ops.size) (Kt: ∀j,j<ops.size->j∈fl\/j∈hd\/j∈tl) (yR: ∀j,j∈hd->j∉tl) (st':St):
  ∀(l:List Nat) (Af:Array Bool) (st:St),(∀i,i∈l->i∈hd)->Xh ops tl fl Af->mw ops tl l Af=true->Fl T Γ ops l st=some st'->
  NS T Γ ops hd (λwz s=>lM ops tl wz=true/\s=st') l.length Af st
 | [],Af,st,_,_,hB,he=>by
  simp only [Fl,Aa] at he
  exact ⟨by simpa [mw] using hB,he⟩
 |k::l,Af,st,hl,inv,hB,he=>by
  simp only [mw,Ag] at hB
  obtain ⟨⟨hr,hf⟩,hB'⟩:=hB
  have hkh:=hl k (by simp)
  have iK:k∈Region.ready .any ops Af:=by simpa using hr
  simp only [Fl] at he
  split at he
  ·cases he
  ·rename_i o ho
   split at he
   ·rename_i v hv
    exact BQ ho hs Yp hkh Kt yR (λwz s hL=>o4 tl wz hL.1) l.length Af st inv (Region.free_spec ho hf) iK hv
     (yb ak hs Yp Kt yR st' l _ _ (λi hi=>hl i (by simp [hi])) (inv.set iK (yR k hkh)) hB' he)
   ·cases he
theorem vT {Q:Exit->Act->World->Prop} (hQ: ∀e a w,Q e a w->e= .normal) {k i:Nat} {x:Operand} {o:Oper} (ho:ops[k]?=some o) (pe:o.op= .extract x i) (hg:o.guard=none) {K:Act->World->Prop} {a:Act} {w:World}
  (h:wpOp P ops Q k K a w): ∃v,Yields P ops o v a/\K (a.put o.dst v) w:=by
 unfold wpOp at h
 simp only [ho] at h
 have hw:Region.wanted o (yielded ops a.tmps)=true:=by simp [Region.wanted,hg]
 rw [Ab hw] at h
 rcases h with h|⟨_,a',w',h⟩
 ·unfold Oper.wp at h
  have hr: ∀w,(execOp a.eval o).run P w=(do pure (Next.value (<-Instr.extract (a.eval x) i))).run P w:= λw=>by unfold execOp;rw [pe]
  rw [hr] at h
  unfold Instr.extract at h hr
  split at h
  ·rename_i vs hx
   split at h
   ·rename_i v hv
    rw [hx] at hr
    simp only [hv] at hr
    exact ⟨v, .inl ⟨hw,λw=>(hr w).trans rfl⟩,h⟩
   ·exact h.elim
  ·exact h.elim
 ·cases hQ _ _ _ h
theorem bX {Q:Exit->Act->World->Prop} (hQ: ∀e a w,Q e a w->e= .normal) (ak:Region.noSelect ops=true): ∀(l:List Nat) (Af:Array Bool) (a:Act) (w:World),lM ops l Af=true->wpOps P ops Q l a w->wpAny P .any ops Q l.length Af a w
 | [],Af,a,w,hB,h=>⟨by simpa [lM] using hB,h⟩
 |k::r,Af,a,w,hB,h=>by
  simp only [lM,Ag,Jq,Kn] at hB
  rw [wpOps_cons] at h
  rcases hB.1 with h0|⟨h1,h2,h3⟩
  ·refine ⟨λh1=>(by rw [h0] at h1;cases h1),λi hi=>?_⟩
   rw [h0] at hi
   have hik:i=k:=by simpa using hi
   subst hik
   exact wpOp_mono (λa' w' h'=>bX hQ ak r _ a' w' hB.2 h') h
  ·unfold QI at h1
   split at h1
   ·rename_i o ho
    split at h1
    ·rename_i x i pe hg
     obtain ⟨v,hy,hk⟩:=vT hQ ho pe hg h
     exact wpAny_take ho ak h3 h2 (λc a w hq=>by cases hQ _ _ _ hq) hy (bX hQ ak r _ _ w hB.2 hk)
    ·cases h1
   ·cases h1
theorem l9 {P:Program} {o:Oper} {t:Tmp} {a:Act} (h:o.op= .move (.tmp t)) (hg:o.guard=none):Yields P ops o (a.tmps.getD t undef) a:=by
 refine .inl ⟨by simp [Region.wanted,hg],λw=>?_⟩
 unfold execOp
 rw [h]
 rfl
theorem wi {hd tl:List Nat} {i:Nat} (h:lk ops hd tl i=true): ∃o t,ops[i]?=some o/\o.op= .move (.tmp t)/\o.guard=none:=by
 unfold lk at h
 split at h
 ·rename_i o ho
  simp only [Ag] at h
  have h1:=h.1
  split at h1
  ·rename_i t h2 h3
   exact ⟨o,t,ho,h2,h3⟩
  ·cases h1
 ·cases h
theorem eO {q:Bool} {hd:List Nat} {Q:Exit->Act->World->Prop} (hQ: ∀c a w,¬Q (.panic c) a w) (ak:Region.noSelect ops=true) {n:Nat} {st1:St}
  (er: ∀Af st a w,(∀j oj,ops[j]?=some oj->Af.getD j false=true-> ∀e∈oj.after,Region.binds .any e=true->Af.getD e.on false=true)->Af.size=ops.size->mw ops tl hd Af=true->st=st1->Rel X st a w->
   (∀j,Af.getD j false=true↔j∈Ul q Γ ops)->wpAny P .any ops Q n Af a w):
  ∀(l dn:List Nat) (Af:Array Bool) (st:St) (a:Act) (w:World),(∀j,j∈Ul q Γ ops↔j∈dn\/j∈l)->(∀i,i∈l-> ∃o t,ops[i]?=some o/\o.op= .move (.tmp t)/\o.guard=none)->
   (∀j oj,ops[j]?=some oj->Af.getD j false=true-> ∀e∈oj.after,Region.binds .any e=true->Af.getD e.on false=true)->Af.size=ops.size->(∀j,Af.getD j false=true↔j∈dn)->
   l8 ops tl hd l Af=true->Fl T Γ ops l st=some st1->Rel X st a w->wpAny P .any ops Q (l.length+n) Af a w
 | [],dn,Af,st,a,w,hm,_,hc,Yp,hdn,hf,he,hr=>by
  simp only [Fl,Aa] at he
  rw [Iq,Cf]
  exact er Af st a w hc Yp (by simpa [l8] using hf) he hr λj=>by rw [hdn j,hm j];simp
 |k::l,dn,Af,st,a,w,hm,hl,hc,Yp,hdn,hf,he,hr=>by
  simp only [l8,Ag] at hf
  obtain ⟨⟨h1,h2⟩,h3⟩:=hf
  obtain ⟨o,t,ho,pe,hg⟩:=hl k (by simp)
  have sy:k∈Region.ready .any ops Af:=by simpa using h1
  obtain ⟨_,o',ho',Kt⟩:=mem_ready.1 sy
  have ho2:o'=o:=Ba (ho'.symm.trans ho)
  subst ho2
  have hks:k<Af.size:=by rw [Yp];exact (Mk.1 ho).1
  simp only [Fl,ho] at he
  have hv:Vn T Γ ops st o'=some (st.get t):=by simp only [Vn,hg,Vo,Es,pe];rfl
  rw [hv] at he
  rw [Bg,show l.length+1+n=(l.length+n)+1 by omega]
  refine wpAny_take ho ak h2 h1 (λc a w hq=>absurd hq (hQ c _ w)) (l9 pe hg) ?_
  obtain ⟨π,hr⟩:=hr
  refine eO hQ ak er l (k::dn) _ _ _ _ (λj=>by rw [hm j,Bb,Bb];exact ⟨λh=>h.elim (λh=> .inl (.inr h)) (λh=>h.elim (λh=> .inl (.inl h)) .inr),λh=>h.elim (λh=>h.elim (λh=> .inr (.inl h)) .inl) (λh=> .inr (.inr h))⟩) (λi hi=>hl i (by simp [hi])) ?_ (by simp [Yp]) (λj=>?_) h3 he ⟨π,hr.put o'.dst (hr.2.tmps t)⟩
  ·intro j oj hj hlj e hem hb
   by_cases NO:k=j
   ·subst NO
    have:oj=o':=Ba (hj.symm.trans ho)
    subst this
    exact getD_set_true (Kt e hem hb)
   ·rw [getD_set_ne false NO] at hlj
    exact getD_set_true (hc j oj hj hlj e hem hb)
  ·by_cases NO:k=j
   ·subst NO
    refine ⟨λ_=>by simp,λ_=>?_⟩
    simp [hks]
   ·rw [getD_set_ne false NO,hdn j]
    simp [Hi NO]
theorem ek {ops:Array Oper} : ∀(a b:List Nat) (st st':St),Fl T Γ ops (a++b) st=some st'-> ∃s,Fl T Γ ops a st=some s/\Fl T Γ ops b s=some st'
 | [],b,st,st',h=>⟨st,rfl,h⟩
 |i::a,b,st,st',h=>by
  simp only [Rj,Fl] at h⊢
  split at h
  ·cases h
  ·split at h
   ·exact ek a b _ st' h
   ·cases h
theorem mh (hT:Ed P T) (Nt:Kd P Γ) (hm:P.follows .mixedOrders=true) {Q:Exit->Act->World->Prop} {id:Nat} {draw:Bool} {st st':St} {a:Act} (h:Rel X st a w)
  (he:Qn T Γ ops draw st=some st') (hQ: ∀a' w',Rel X st' a' w'->Q .normal a' w'):(Code.region id ops draw).wp P Q a w:=by
 unfold Qn at he
 cases draw with
 |false=>
  rw [Al (by simp)] at he
  exact wp_region_list (iY hT Nt ops.toList st st' a w h he hQ)
 |true=>
  rw [Ab rfl] at he
  have go: ∀(q:Bool),bk q Γ ops=true->(match Fl T Γ ops (ig q Γ ops) st with
    |some st'=>Me T Γ ops (Iy q Γ ops) st'
    |none=>none)=some st'->(Code.region id ops true).wp P Q a w:=by
   intro q df he
   split at he
   ·rename_i st1 h1
    simp only [bk,Ag,bZ] at df
    obtain ⟨⟨⟨ak,hlen⟩,ZV⟩,Ae6⟩:=df
    refine wp_mono (Q:= λe a w=>e= .normal/\Q .normal a w) ?_ λe a w h=>h.1▸h.2
    refine wp_region_any hm ?_
    have hrel:Rel X st a {w with drawn:=w.drawn+1} :=by
     obtain ⟨π,h⟩:=h
     exact ⟨π,h.quiet ⟨rfl,rfl,rfl,Ar _,λ_ _=>rfl⟩⟩
    obtain ⟨s0,h0,h1⟩:=ek _ _ _ _ h1
    have aL: ∀i,i∈ba q Γ ops->i<ops.size:= λi hi=>Hu.1 (Da.1 hi).1
    have Yp: ∀i,i∈Up q Γ ops->i<ops.size:= λi hi=>aL i (Da.1 hi).1
    have Kt: ∀j,j<ops.size->j∈Ul q Γ ops\/j∈Up q Γ ops\/j∈Iy q Γ ops:= λj hj=>by
     by_cases ht:j∈Iy q Γ ops
     ·exact .inr (.inr ht)
     ·have hh:j∈ba q Γ ops:=Da.2 ⟨Hu.2 hj,by simpa using ht⟩
      cases UD:lk ops (ba q Γ ops) (Iy q Γ ops) j with
      |true=>exact .inl (Da.2 ⟨hh,UD⟩)
      |false=>exact .inr (.inl (Da.2 ⟨hh,by rw [UD];rfl⟩))
    have XQ: ∀j,j∈ba q Γ ops->j∉Iy q Γ ops:= λj hj=>by
     have:=(Da.1 hj).2
     simpa using this
    have yR: ∀j,j∈Up q Γ ops->j∉Iy q Γ ops:= λj hj=>XQ j (Da.1 hj).1
    have Ad1: ∀j,j∈Ul q Γ ops->j∉Iy q Γ ops:= λj hj=>XQ j (Da.1 hj).1
    have htl: ∀t,t∈Iy q Γ ops->t<ops.size:=by
     intro t ht
     unfold Iy at ht
     have: ∀(l:List Nat) (acc:List Nat),(∀i,i∈acc->i<ops.size)->(∀i,i∈l->i<ops.size)-> ∀i,i∈l.foldl (init:=acc) (λacc i=>match ops[i]? with
       |some o=>if QQ q Γ o||o.after.any (λe=>Region.binds .any e&&acc.contains e.on) then acc++ [i] else acc
       |none=>acc)->i<ops.size:=by
      intro l
      induction l with
      |nil=>intro acc h1 _ i hi;exact h1 i hi
      |cons x l ih=>
       intro acc h1 h2 i hi
       simp only [My] at hi
       refine ih _ ?_ (λi hi=>h2 i (by simp [hi])) i hi
       intro k hk
       split at hk
       ·split at hk
        ·rcases Aw.1 hk with hk|hk
         ·exact h1 k hk
         ·simp at hk;rw [hk];exact h2 x (by simp)
        ·exact h1 k hk
       ·exact h1 k hk
     exact this (List.range ops.size) [] (by simp) (λi hi=>Hu.1 hi) t ht
    rw [<-hlen]
    refine eO (q:=q) (X:=X) (T:=T) (Γ:=Γ) (tl:=Iy q Γ ops) (hd:=Up q Γ ops) (st1:=s0) (λc a w hq=>by cases hq.1) ak ?_ (Ul q Γ ops) [] _ st a _ (λj=>by simp)
     (λi hi=>wi (Da.1 hi).2) (λj oj _ hl=>(by rw [hlen,getD_replicate_false] at hl;cases hl)) (by simp [hlen]) (λj=>by rw [hlen,getD_replicate_false];simp) (by rw [hlen];exact ZV) h0 hrel
    intro Af s a' w' hc xZ Ad9 hs hr UD
    subst hs
    have Ak7:Xh ops (Iy q Γ ops) (Ul q Γ ops) Af:=
     ⟨xZ,λi hi=>(UD i).2 hi,hc,λt ht=>getD_in (by rw [xZ];exact htl t ht) (by
      cases hg:Af.getD t false with
      |false=>rfl
      |true=>exact absurd ht (Ad1 t ((UD t).1 hg)))⟩
    have HA:=yb (T:=T) (Γ:=Γ) ak Ae6 Yp Kt yR st1 (Up q Γ ops) _ s (λi hi=>hi) Ak7 Ad9 h1
    exact jz (X:=X) (P:=P) (Q:= λe a w=>e= .normal/\Q .normal a w) (g:=(Iy q Γ ops).length) hT Nt (λAf s a' w' hL hr=>by
     obtain ⟨Ajo,rfl⟩:=hL
     exact bX (λe a w h=>h.1) ak (Iy q Γ ops) Af a' w' Ajo (iU hT Nt _ _ st' a' w' hr he λa w h=>⟨rfl,hQ a w h⟩)) _ _ _ _ _ HA hr
   ·cases he
  split at he
  ·rename_i df;exact go false df he
  ·split at he
   ·rename_i df;exact go true df he
   ·cases he
theorem bO (q:Bool): ∀(l:List Nat) (Af:Array Bool),(Iu q ops l Af).length<=l.length
 | [],_=>Ar _
 |i::r,Af=>by
  simp only [Iu]
  split
  ·simp only [Bg];have:=bO q r (Af.setIfInBounds i true);omega
  ·simp only [Bg];have:=bO q r Af;omega
theorem zQ (hT:Ed P T) {st:St} {a:Act} (h:Bd X π st a w) {i:Nat} {o:Oper} (ho:ops[i]?=some o) (hp:im ops i=true) {v:AV} (hv:Vn T Γ ops st o=some v):
  ∃u,Yields P ops o u a/\Bi X w π st.heap v u:=by
 unfold im at hp
 rw [ho] at hp
 simp only at hp
 obtain ⟨dst,op,ty,pos,af,gd⟩:=o
 split at hp
 ·rename_i t h3 h4
  simp only at h3 h4;subst h3;subst h4
  refine ⟨a.tmps.getD t undef,l9 rfl rfl,?_⟩
  simp only [Vn,Vo,Es,Aa] at hv
  subst hv
  exact h.2.tmps t
 ·rename_i x h3 h4
  simp only at h3 h4;subst h3;subst h4
  have e:=Dm h.2 x
  have fin:(∃ad,a.eval x= .pointer (some ad))->Yields P ops ⟨dst, .nilCheck x,ty,pos,af,none⟩ (a.eval x) a:= λ⟨ad,hx⟩=>
   .inl ⟨by simp [Region.wanted],λw=>by simp [execOp,hx]⟩
  simp only [Vn,Vo,Es] at hv
  split at hv
  ·rename_i fr τ y hx
   simp only [Aa] at hv;subst hv
   rw [hx] at e
   have e':=e
   obtain ⟨cs,hc,hv⟩:=e
   simp only [Cells] at hc
   obtain ⟨g,o,rfl,_⟩:=hc
   simp only [Bs,Ty.Am,Cy,Sa,fg] at hv
   exact ⟨_,fin ⟨_,hv⟩,e'⟩
  ·rename_i fr τ y hx
   simp only [Aa] at hv;subst hv
   rw [hx] at e
   obtain ⟨cs,hc,hv⟩:=e
   simp only [Cells] at hc
   rcases hc with ⟨h0,_⟩|⟨y',g,o,h0,rfl,hr⟩
   ·cases h0
   simp only [Aa] at h0;subst h0
   simp only [Bs,Ty.Am,Cy,Sa,fg] at hv
   exact ⟨_,fin ⟨_,hv⟩,[_],⟨g,o,rfl,hr⟩,by rw [hv];simp [Bs,Ty.Am]⟩
  ·rename_i l i hx
   simp only [Aa] at hv;subst hv
   rw [hx] at e
   have e':=e
   obtain ⟨r,tid,vs,_,_,hv⟩:=e
   exact ⟨_,fin ⟨_,hv⟩,e'⟩
  ·rename_i l i hx
   simp only [Aa] at hv;subst hv
   rw [hx] at e
   have e':=e
   obtain ⟨r,b,sz,n,_,_,_,_,hv⟩:=e
   exact ⟨_,fin ⟨_,hv⟩,e'⟩
  ·cases hv
 ·rename_i s x f h3 h4
  simp only at h3 h4;subst h3;subst h4
  simp only [Vn,Vo,Es] at hv
  obtain ⟨u,h1,h2⟩:=aU hT (st:=st) _ _ _ _ v (Dm h.2 x) hv
  refine ⟨u, .inl ⟨by simp [Region.wanted],λw=>?_⟩,h2⟩
  have:=h1 w
  simp only [execOp,Sem.run_bind]
  first
   |(rw [this];rfl)
   |simp [this]
 ·cases hp
theorem wZ {i:Nat} (h:wj ops i=true):im ops i=true:=by
 unfold wj at h
 unfold im
 split at h
 ·rename_i o ho
  split at h
  ·rename_i h1 h2
   simp only [h1,h2]
  ·cases h
 ·cases h
theorem aJ (hT:Ed P T) (q:Bool) {Q:Exit->Act->World->Prop} (hQ: ∀c a w,¬Q (.panic c) a w) (ak:Region.noSelect ops=true) {n:Nat} {st1:St} :
  ∀(l:List Nat) (Af:Array Bool) (st:St) (a:Act) (w:World),Fl T Γ ops (Iu q ops l Af) st=some st1->Rel X st a w->
   (∀a w,Rel X st1 a w->wpAny P .any ops Q n (Ec (Iu q ops l Af) Af) a w)->wpAny P .any ops Q ((Iu q ops l Af).length+n) Af a w
 | [],Af,st,a,w,he,hr,hK=>by
  simp only [Iu,Fl,Aa] at he
  subst he
  simp only [Iu,Iq,Cf]
  exact hK a w hr
 |k::l,Af,st,a,w,he,hr,hK=>by
  simp only [Iu] at he hK⊢
  split
  ·rename_i hc
   rw [Ab hc] at he hK
   simp only [Ag] at hc
   obtain ⟨h0,h1,h2⟩:=hc
   have hp:im ops k=true:=by
    cases q with
    |true=>exact h0
    |false=>exact wZ h0
   simp only [Fl] at he
   split at he
   ·cases he
   rename_i o ho
   split at he
   rotate_left
   ·cases he
   rename_i v hv
   obtain ⟨π,hr⟩:=hr
   obtain ⟨u,hy,hu⟩:=zQ (Γ:=Γ) hT hr ho hp hv
   rw [Bg,show (Iu q ops l (Af.setIfInBounds k true)).length+1+n=((Iu q ops l (Af.setIfInBounds k true)).length+n)+1 by omega]
   refine wpAny_take ho ak h2 h1 (λc a w hq=>absurd hq (hQ c _ w)) hy ?_
   exact aJ hT q hQ ak l _ _ _ _ he ⟨π,hr.put o.dst hu⟩ hK
  ·rename_i hc
   rw [Al hc] at he hK
   exact aJ hT q hQ ak l Af st a w he hr hK
theorem jA (hT:Ed P T) (Nt:Kd P Γ) {Q:Exit->Act->World->Prop} {K:St->Prop} (hK: ∀st a w,K st->Rel X st a w->Q .normal a w):
  ∀(f:Nat) (Af:Array Bool) (st:St) (a:Act) (w:World),anyS T Γ ops K f Af st->Rel X st a w->wpAny P .any ops Q f Af a w
 |0,Af,st,a,w,h,hr=>⟨h.1,hK _ _ _ h.2 hr⟩
 |f+1,Af,st,a,w,h,hr=>by
  refine ⟨λh0=>absurd h0 h.1,λi hi=>?_⟩
  obtain ⟨o,st',ho,he,er⟩:=h.2 i hi
  obtain ⟨π,hr⟩:=hr
  unfold wpOp
  simp only [ho]
  exact Uj hT Nt hr o he λa' w' h'=>jA hT Nt hK f _ _ _ _ er h'
def Sn (ops:Array Oper) (Af:Array Bool):Prop:= ∀k a,Af.getD k false=true->Region.waitsFor .any ops k a=true->Af.getD a false=true
theorem bm {Af:Array Bool} {i a:Nat} (h:i∈Region.ready .any ops Af) (hw:Region.waitsFor .any ops i a=true):Af.getD a false=true:=by
 obtain ⟨_,o,ho,Kt⟩:=mem_ready.1 h
 obtain ⟨o',ho',e,he,hb,rfl⟩:=Region.waitsFor_spec hw
 rw [ho] at ho'
 cases ho'
 exact Kt e he hb
theorem Sn.set {Af:Array Bool} (hc:Sn ops Af) {i:Nat} (hi:i∈Region.ready .any ops Af):Sn ops (Af.setIfInBounds i true):= λk a hk hw=>by
 by_cases hik:i=k
 ·subst hik
  exact getD_set_true (bm hi hw)
 ·rw [getD_set_ne false hik] at hk
  exact getD_set_true (hc k a hk hw)
theorem nz:Sn ops (Array.replicate ops.size false):= λk a hk _=>by
 rw [getD_replicate_false] at hk
 cases hk
theorem Yy (q:Bool): ∀(l:List Nat) (Af:Array Bool),Sn ops Af->Sn ops (Ec (Iu q ops l Af) Af)
 | [],Af,h=>h
 |i::r,Af,h=>by
  simp only [Iu]
  split
  ·rename_i hc
   rw [Ag,Ag] at hc
   have hi:i∈Region.ready .any ops Af:=by simpa using hc.2.1
   exact Yy q r _ (h.set hi)
  ·exact Yy q r Af h
theorem Us: ∀(l:List Nat) (Af:Array Bool),(Ec l Af).size=Af.size
 | [],_=>rfl
 |i::r,Af=>by simp only [Ec];rw [Us r];simp
theorem dq: ∀(l:List Nat) (Af:Array Bool) (k:Nat),k∈l->k<Af.size->(Ec l Af).getD k false=true
 |i::r,Af,k,h,hk=>by
  simp only [Ec]
  by_cases hr:k∈r
  ·exact dq r _ k hr (by simpa using hk)
  ·have:k=i:=(Bb.1 h).resolve_right hr
   subst this
   have hs: ∀(l:List Nat) (A:Array Bool),A.getD k false=true->(Ec l A).getD k false=true:=by
    intro l
    induction l with
    |nil=>exact λA h=>h
    |cons j l ih=>exact λA h=>ih _ (getD_set_true h)
   exact hs r _ (by simp [hk])
theorem bM: ∀(l:List Nat) (Af:Array Bool) (k:Nat),k∉l->(Ec l Af).getD k false=Af.getD k false
 | [],_,_,_=>rfl
 |i::r,Af,k,h=>by
  simp only [Ec]
  rw [bM r _ k λhk=>h (An _ hk),getD_set_ne false (λe=>h (by rw [e];simp))]
def Lh (E:List Nat) (Af:Array Bool):List Nat:=E.filter λr=>!Af.getD r false
def bG (ops:Array Oper) (r:Nat):Option Tmp:=(ops[r]?).bind (·.dst)
def iT (ops:Array Oper) (Q:List Nat):List Nat:=Q.filterMap (bG ops)
def Qp (ops:Array Oper):List Nat->St->St
 | [],st=>st
 |r::Q,st=>(Qp ops Q st).put (bG ops r) .undef
def IY (ops:Array Oper):List Nat->Act->Act->Prop
 | [],a,a'=>a'=a
 |r::Q,a,a'=> ∃u,IY ops Q (a.put (bG ops r) u) a'
theorem TA {H:List (Nat×OB)} {v:Value} :Bi X w π H .undef v:=trivial
theorem fR (s:St) (d:Option Tmp) (v:AV) (t:Nat):(d=some t->(s.put d v).get t=v\/(s.put d v).get t= .undef)/\(d≠some t->(s.put d v).get t=s.get t):=by
 cases d with
 |none=>exact ⟨λh=>(by cases h),λ_=>rfl⟩
 |some e=>
  have key:(s.put (some e) v).get t=if e=t/\t<s.tmps.length then v else s.get t:=Ps _ _ _ _ _
  refine ⟨λh=>?_,λh=>?_⟩
  ·cases h
   rw [key]
   by_cases hl:t<s.tmps.length
   ·rw [Ab ⟨rfl,hl⟩];exact .inl rfl
   ·rw [Al (λh=>hl h.2)]
    exact .inr (by unfold St.get;rw [Ah,Ev (by omega)];rfl)
  ·rw [key,Al]
   rintro ⟨rfl,_⟩
   exact h rfl
theorem iy (s:St) (d:Option Tmp) (v:AV):(s.put d v).heap=s.heap:=by cases d<;>rfl
theorem lG (s:St) (d:Option Tmp) (v:AV):(s.put d v).tmps.length=s.tmps.length:=by
 cases d with
 |none=>rfl
 |some d=>exact Xx _ _ _
theorem Pp: ∀(Q:List Nat) (st:St),(Qp ops Q st).heap=st.heap
 | [],_=>rfl
 |r::Q,st=>by simp only [Qp];rw [iy,Pp Q]
theorem Uv: ∀(Q:List Nat) (st:St),(Qp ops Q st).tmps.length=st.tmps.length
 | [],_=>rfl
 |r::Q,st=>by simp only [Qp];rw [lG,Uv Q]
theorem Kz {Q:List Nat} {t:Nat} :t∈iT ops Q↔ ∃r∈Q,bG ops r=some t:=List.mem_filterMap
theorem Qq: ∀(Q:List Nat) (st:St) (t:Nat),(t∈iT ops Q->(Qp ops Q st).get t= .undef)/\(t∉iT ops Q->(Qp ops Q st).get t=st.get t)
 | [],st,t=>⟨λh=>by simp [iT] at h,λ_=>rfl⟩
 |r::Q,st,t=>by
  obtain ⟨h1,h2⟩:=Qq Q st t
  obtain ⟨g1,g2⟩:=fR (Qp ops Q st) (bG ops r) .undef t
  simp only [Qp]
  by_cases hd:bG ops r=some t
  ·refine ⟨λ_=>(g1 hd).elim id id,λh=>absurd (Kz.2 ⟨r,Lf ..,hd⟩) h⟩
  ·refine ⟨λh=>?_,λh=>?_⟩
   ·rw [g2 hd]
    obtain ⟨q,hq,he⟩:=Kz.1 h
    rcases Bb.1 hq with rfl|hq
    ·exact absurd he hd
    ·exact h1 (Kz.2 ⟨q,hq,he⟩)
   ·rw [g2 hd]
    exact h2 λhm=>by
     obtain ⟨q,hq,he⟩:=Kz.1 hm
     exact h (Kz.2 ⟨q,An _ hq,he⟩)
theorem rk {st s:St} {a:Act} (h:Bd X π st a w) (hh:s.heap=st.heap) (hl:s.tmps.length=st.tmps.length) (hg: ∀t,s.get t=st.get t\/s.get t= .undef):Bd X π s a w:=by
 refine ⟨by rw [hh];exact h.1,⟨by rw [hl];exact h.2.size,h.2.defers,λt=>?_⟩⟩
 rw [hh]
 rcases hg t with e|e
 ·rw [e];exact h.2.tmps t
 ·rw [e];exact TA
theorem AR {st s:St} {o:Oper} (hh:s.heap=st.heap) (hg: ∀t,t∈o.looksAt ops->s.get t=st.get t):Vn T Γ ops s o=Vn T Γ ops st o:=by
 obtain ⟨ts,H⟩:=s
 obtain ⟨ts',H'⟩:=st
 simp only at hh
 subst hh
 exact vf hg
theorem nY (hT:Ed P T) (Nt:Kd P Γ) {st:St} {a:Act} (h:Bd X π st a w) {i:Nat} {o:Oper} (ho:ops[i]?=some o) (hp:iq ops i=true) {v:AV} (hv:Vn T Γ ops st o=some v):
  ∃u,(∀(Q:Exit->Act->World->Prop) (K:Act->World->Prop),K (a.put o.dst u) w->wpOp P ops Q i K a w)/\Bi X w π st.heap v u:=by
 unfold iq at hp
 rw [ho] at hp
 simp only at hp
 have UE:o.guard=none:=by
  obtain ⟨dst,op,ty,pos,af,gd⟩:=o
  cases gd with
  |none=>rfl
  |some g=>split at hp<;>first|rfl|(rename_i h4;cases h4)|cases hp
 have hb:Vo T Γ st o=some v:=by
  unfold Vn at hv
  rw [UE] at hv
  exact hv
 have hw:Region.wanted o (yielded ops a.tmps)=true:=by simp [Region.wanted,UE]
 have fin: ∀s:Sem Value,execOp a.eval o=(do pure (.value (<-s)))->Es T Γ st o=some v-> ∃u,(∀(Q:Exit->Act->World->Prop) (K:Act->World->Prop),K (a.put o.dst u) w->wpOp P ops Q i K a w)/\Bi X w π st.heap v u:=by
  intro s he hq
  have hg:=fI hT Nt h o v hq
  rw [he,Sem.run_bind] at hg
  cases hr:s.run P w with
  |ok u w'=>
   rw [hr] at hg
   obtain ⟨e,hu⟩:=(show w'=w/\Bi X w π st.heap v u from hg)
   subst e
   refine ⟨u,λQ K hK=>?_,hu⟩
   unfold wpOp
   simp only [ho]
   rw [Ab hw]
   refine .inl ?_
   unfold Oper.wp
   rw [he,Sem.run_bind,hr]
   exact hK
  |halt x w'=>rw [hr] at hg;exact hg.elim
 obtain ⟨dst,op,ty,pos,af,gd⟩:=o
 simp only at UE
 subst UE
 split at hp
 ·rename_i x h3 h4
  simp only at h3;subst h3
  exact fin (pure (a.eval x)) (by simp [execOp]) hb
 ·rename_i x h3 h4
  simp only at h3;subst h3
  exact fin _ rfl hb
 ·rename_i x h3 h4
  simp only at h3;subst h3
  exact fin _ rfl hb
 ·rename_i x h3 h4
  simp only at h3;subst h3
  exact fin _ rfl hb
 ·cases hp
theorem NG {j:Nat} {oi oj:Oper} {v:Value} (hj:ops[j]?=some oj) (hap:oi.apart ops oj=true) (hsj: ∀cs b,oj.op≠ .select cs b)
  {Q:Exit->Act->World->Prop} (hQ: ∀c a w,¬Q (.panic c) a w) {K:Act->World->Prop} {a:Act} {w:World} (h:wpOp P ops Q j K (a.put oi.dst v) w):
  wpOp P ops Q j (λa' w'=>K (a'.put oi.dst v) w') a w:=by
 obtain ⟨h1,h2,h3⟩:=Oper.apart_spec hap
 unfold wpOp at*
 simp only [hj] at*
 rw [wanted_put oj a oi.dst v h1] at h
 split
 ·rename_i hw
  simp only [hw,Pw] at h
  rcases h with h|⟨XM,Adc⟩
  case inr=>exact .inr ⟨by unfold Oper.asks at*;rw [execOp_put oj hsj a oi.dst v h1] at XM;exact XM,Adc⟩
  refine .inl ?_
  unfold Oper.wp at*
  rw [execOp_put oj hsj a oi.dst v h1] at h
  generalize (execOp a.eval oj).run P w=r at*
  cases r with
  |ok n w'=>
   cases n<;>simp only [Oper.upon] at h⊢
   case value u=>rw [<-Act.put_comm a v u h2];exact h
   case skip=>rw [<-Act.put_comm a v undef h2];exact h
   case defer d=>
    rw [<-Act.put_comm _ v undef h2,<-Act.put_defers]
    exact h
   case enter f args=>
    refine Calls.mono h λe oc he=>?_
    cases e with
    |returned u=>show K ((a.put oj.dst u).put oi.dst v) oc;rw [<-Act.put_comm a v u h2];exact he
    |panicked c=>exact absurd he (hQ _ _ _)
    |outgrown=>exact he
   case row row args=>exact Rows.mono h λu oc he=>by rw [<-Act.put_comm a v u h2];exact he
  |halt x w'=>
   cases x<;>simp only [Oper.upon] at h⊢
   case panic u=>exact absurd h (hQ _ _ _)
 ·rename_i hw
  simp only [hw] at h
  rw [<-Act.put_comm a v undef h2];exact h
theorem uK: ∀ {Q:List Nat} {a a':Act},IY ops Q a a'->a'.defers=a.defers/\a'.tmps.size=a.tmps.size/\ ∀t,t∉iT ops Q->a'.tmps.getD t undef=a.tmps.getD t undef
 | [],a,a',h=>by cases h;exact ⟨rfl,rfl,λ_ _=>rfl⟩
 |r::Q,a,a',⟨u,h⟩=>by
  obtain ⟨h1,h2,h3⟩:=uK h
  have hp:(a.put (bG ops r) u).defers=a.defers/\(a.put (bG ops r) u).tmps.size=a.tmps.size:=by cases bG ops r<;>simp [Act.put]
  refine ⟨h1.trans hp.1,h2.trans hp.2,λt ht=>?_⟩
  have hn:bG ops r≠some t:= λe=>ht (Kz.2 ⟨r,Lf ..,e⟩)
  rw [h3 t λhm=>ht (by obtain ⟨q,hq,he⟩:=Kz.1 hm;exact Kz.2 ⟨q,An _ hq,he⟩)]
  cases hd:bG ops r with
  |none=>rfl
  |some d=>
   have Jg:d≠t:= λe=>hn (by rw [hd,e])
   simp [Act.put,Array.getElem?_setIfInBounds_ne Jg]
theorem SA {Q:List Nat} {st:St} {a a':Act} (hp:IY ops Q a a') (h:Bd X π st a' w):Bd X π (Qp ops Q st) a w:=by
 obtain ⟨h1,h2,h3⟩:=uK hp
 refine ⟨by rw [Pp];exact h.1,⟨by rw [Uv,<-h2];exact h.2.size,by rw [<-h1];exact h.2.defers,λt=>?_⟩⟩
 rw [Pp]
 by_cases ht:t∈iT ops Q
 ·rw [(Qq Q st t).1 ht];exact TA
 ·rw [(Qq Q st t).2 ht,<-h3 t ht];exact h.2.tmps t
theorem vn {j:Nat} {oj:Oper} (hj:ops[j]?=some oj) (hsj: ∀cs b,oj.op≠ .select cs b) {Q:Exit->Act->World->Prop} (hQ: ∀c a w,¬Q (.panic c) a w) {K:Act->World->Prop} :
  ∀(L:List Nat) (a a':Act) (w:World),(∀r∈L,∃o,ops[r]?=some o/\o.apart ops oj=true)->IY ops L a a'->wpOp P ops Q j K a' w->wpOp P ops Q j (λa2 w2=> ∃a3,IY ops L a2 a3/\K a3 w2) a w
 | [],a,a',w,_,hp,h=>by cases hp;exact wpOp_mono (λa2 w2 hk=>⟨a2,rfl,hk⟩) h
 |r::L,a,a',w,hap,⟨u,hp⟩,h=>by
  obtain ⟨o,ho,ha⟩:=hap r (Lf ..)
  have hd:bG ops r=o.dst:=by unfold bG;rw [ho];rfl
  rw [hd] at hp
  have ih:=vn hj hsj hQ L _ a' w (λq hq=>hap q (An _ hq)) hp h
  exact wpOp_mono (λa2 w2 ⟨a3,h1,h2⟩=>⟨a3,⟨u,by rw [hd];exact h1⟩,h2⟩) (NG hj ha hsj hQ ih)
def BR (ops:Array Oper):List Nat->Prop
 | []=>True
 |r::L=>(∀q∈r::L,∀o d,ops[r]?=some o->bG ops q=some d->d∉o.looksAt ops)/\(∀q∈L,∀d,bG ops r=some d->bG ops q≠some d)/\BR ops L
def tN (ops:Array Oper):List Nat->Prop
 | []=>True
 |r::L=>(∀q∈L,Region.waitsFor .any ops q r=true\/ ∀o d,ops[q]?=some o->bG ops r=some d->d∉o.looksAt ops)/\tN ops L
theorem BR.filter {p:Nat->Bool} : ∀ {L:List Nat},BR ops L->BR ops (L.filter p)
 | [],_=>trivial
 |r::L,⟨h1,h2,h3⟩=>by
  rw [List.filter_cons]
  split
  ·exact ⟨λq hq=>h1 q (by rcases Bb.1 hq with rfl|hq;exact Lf ..;exact An _ (Da.1 hq).1),λq hq=>h2 q (Da.1 hq).1,h3.filter⟩
  ·exact h3.filter
theorem tN.filter {p:Nat->Bool} : ∀ {L:List Nat},tN ops L->tN ops (L.filter p)
 | [],_=>trivial
 |r::L,⟨h1,h3⟩=>by
  rw [List.filter_cons]
  split
  ·exact ⟨λq hq=>h1 q (Da.1 hq).1,h3.filter⟩
  ·exact h3.filter
theorem Ya {i j:Nat} {p:Oper->Oper->Bool} (h:ni ops i j p=true): ∃x y,ops[i]?=some x/\ops[j]?=some y/\p x y=true:=by
 unfold ni at h
 split at h
 ·rename_i x y h1 h2;exact ⟨x,y,h1,h2,h⟩
 ·cases h
theorem dV {x y:Oper} (h:lW ops x y=true): ∀d,x.dst=some d->d∉y.looksAt ops:= λd hd=>by
 unfold lW at h
 rw [hd] at h
 simpa using h
theorem yC {x y:Oper} (h:CJ x y=true): ∀d,x.dst=some d->y.dst≠some d:= λd hd=>by
 unfold CJ at h
 rw [hd] at h
 simpa using h
theorem aT {r:Nat} {o:Oper} (h:ops[r]?=some o):bG ops r=o.dst:=by unfold bG;rw [h];rfl
theorem nS: ∀ {E:List Nat},wT ops E=true->BR ops E/\tN ops E
 | [],_=>⟨trivial,trivial⟩
 |r::E,h=>by
  simp only [wT,Ag,At] at h
  obtain ⟨⟨h1,h2⟩,h3⟩:=h
  obtain ⟨g1,g2⟩:=nS h3
  refine ⟨⟨λq hq o d ho hd=>?_,λq hq d hd=>?_,g1⟩,λq hq=>?_,g2⟩
  ·rcases Bb.1 hq with rfl|hq
   ·obtain ⟨x,y,hx,hy,hp⟩:=Ya h1
    rw [ho] at hx hy;cases hx;cases hy
    rw [aT ho] at hd
    exact dV hp d hd
   ·obtain ⟨x,y,hx,hy,hp⟩:=Ya (h2 q hq).1
    rw [ho] at hx;cases hx
    rw [aT hy] at hd
    exact dV (Bj.1 hp).2 d hd
  ·obtain ⟨x,y,hx,hy,hp⟩:=Ya (h2 q hq).1
   rw [aT hx] at hd
   rw [aT hy]
   exact yC (Bj.1 hp).1 d hd
  ·have h4:=(h2 q hq).2
   rw [Jq] at h4
   rcases h4 with h4|h4
   ·exact .inl h4
   ·refine .inr λo d ho hd=>?_
    obtain ⟨x,y,hx,hy,hp⟩:=Ya h4
    rw [ho] at hy;cases hy
    rw [aT hx] at hd
    exact dV hp d hd
theorem XD (hT:Ed P T) (Nt:Kd P Γ) {st:St} : ∀(L:List Nat) (a:Act),(∀r∈L,iq ops r=true/\ ∃o v,ops[r]?=some o/\Vn T Γ ops st o=some v/\ ∀d,o.dst=some d->st.get d=v)->BR ops L->
  Bd X π (Qp ops L st) a w-> ∃a',IY ops L a a'/\Bd X π st a' w
 | [],a,_,_,h=>⟨a,rfl,h⟩
 |r::L,a,hs,⟨f1,f2,f3⟩,h=>by
  obtain ⟨hr,o,v,ho,hv,hd⟩:=hs r (Lf ..)
  have hdo:=aT ho
  have yX:Vn T Γ ops (Qp ops (r::L) st) o=some v:=by
   rw [AR (st:=st) (Pp _ _) λt ht=>(Qq _ _ _).2 λhm=>by
    obtain ⟨q,hq,he⟩:=Kz.1 hm
    exact f1 q hq o t ho he ht]
   exact hv
  obtain ⟨u,_,hu⟩:=nY hT Nt h ho hr yX
  have h2:=h.put o.dst hu
  have h3:Bd X π (Qp ops L st) (a.put o.dst u) w:=by
   refine rk h2 ?_ ?_ λt=>?_
   ·rw [iy,Pp,Pp]
   ·rw [lG,Uv,Uv]
   ·obtain ⟨g1,g2⟩:=fR (Qp ops (r::L) st) o.dst v t
    by_cases he:o.dst=some t
    ·have sl:t∉iT ops L:= λhm=>by
      obtain ⟨q,hq,hqe⟩:=Kz.1 hm
      exact f2 q hq t (by rw [hdo];exact he) hqe
     rw [(Qq L st t).2 sl,hd t he]
     rcases g1 he with g|g
     ·exact .inl g.symm
     ·by_cases hl:t<st.tmps.length
      ·refine .inl ?_
       rw [he]
       show v=((Rg (Qp ops (r::L) st).tmps t v).getD t .undef)
       rw [Ps,Ab ⟨rfl,by rw [Uv];exact hl⟩]
      ·refine .inr ?_
       rw [<-hd t he]
       unfold St.get
       rw [Ah,Ev (by omega)]
       rfl
    ·rw [g2 he]
     have:(Qp ops (r::L) st).get t=(Qp ops L st).get t:=(fR (Qp ops L st) (bG ops r) .undef t).2 (by rw [hdo];exact he)
     exact .inl this.symm
  obtain ⟨a',hp,eS⟩:=XD hT Nt L _ (λq hq=>hs q (An _ hq)) f3 h3
  exact ⟨a',⟨u,by rw [hdo];exact hp⟩,eS⟩
theorem OU: ∀ {L:List Nat},BR ops L->tN ops L-> ∀ {i:Nat} {o:Oper},i∈L->ops[i]?=some o->(∀q∈L,Region.waitsFor .any ops i q=true->False)-> ∀q∈L,∀d,bG ops q=some d->d∉o.looksAt ops
 | [],_,_,i,_,hi,_,_=>by cases hi
 |r::L,⟨f1,f2,f3⟩,⟨b1,b2⟩,i,o,hi,ho,hw=> λq hq d hd=>by
  by_cases hir:i=r
  ·subst hir
   exact f1 q hq o d ho hd
  ·have pb:=(Bb.1 hi).resolve_left hir
   rcases Bb.1 hq with rfl|ud
   ·rcases b1 i pb with h|h
    ·exact (hw q hq h).elim
    ·exact h o d ho hd
   ·exact OU f3 b2 pb ho (λq hq=>hw q (An _ hq)) q ud d hd
theorem nD {Af:Array Bool} (Yp:Af.size=ops.size): ∀ {E:List Nat} {L:Array Bool} {r:Nat} {Q:List Nat},gF ops E L=true->(∀j,L.getD j false=true->Af.getD j false=true)->Lh E Af=r::Q->r∈Region.ready .any ops Af
 | [],_,_,_,_,_,h=>by simp [Lh] at h
 |e::E,L,r,Q,hr,hl,hp=>by
  simp only [gF,Ag,Jb] at hr
  unfold Lh at hp
  rw [List.filter_cons] at hp
  by_cases he:Af.getD e false=true
  ·rw [Al (by rw [he];simp)] at hp
   refine nD Yp hr.2 (λj hj=>?_) hp
   by_cases hej:e=j
   ·subst hej;exact he
   ·rw [getD_set_ne false hej] at hj;exact hl j hj
  ·have he:Af.getD e false=false:=by simpa using he
   rw [Ab (by rw [he];rfl)] at hp
   injection hp with uc HR
   subst uc
   obtain ⟨_,o,ho,Kt⟩:=mem_ready.1 hr.1
   have Js:e<Af.size:=by rw [Yp];exact (Mk.1 ho).1
   exact mem_ready.2 ⟨getD_in Js he,o,ho,λx hx hb=>hl _ (Kt x hx hb)⟩
theorem cD {Af:Array Bool} {j:Nat} (h:Af.getD j true=false):j<Af.size:=by
 rcases Nat.lt_or_ge j Af.size with h'|h'
 ·exact h'
 ·simp [Array.getElem?_eq_none h'] at h
theorem tM (hT:Ed P T) (Nt:Kd P Γ) {Q:Exit->Act->World->Prop} (hQ: ∀c a w,¬Q (.panic c) a w) {K:St->Prop} (hK: ∀st a w,K st->Rel X st a w->Q .normal a w) (ak:Region.noSelect ops=true)
  {E:List Nat} {L0:Array Bool} (hE:bl ops E L0=true): ∀(n f:Nat) (Af LA:Array Bool) (st:St) (a:Act) (w:World),n=f+(Lh E Af).length->Af.size=ops.size->LA.size=ops.size->
   (∀j,LA.getD j false=(Af.getD j false||E.contains j))->Sn ops Af->(∀j,L0.getD j false=true->Af.getD j false=true)->om T Γ ops E K f LA st->Rel X (Qp ops (Lh E Af) st) a w->wpAny P .any ops Q n Af a w:=by
 simp only [bl,Ag,At] at hE
 obtain ⟨⟨hre,hry⟩,hpr,hap⟩:=hE
 obtain ⟨Ad5,eo⟩:=nS hpr
 have key: ∀(n f:Nat) (Af LA:Array Bool) (st:St) (a:Act) (w:World),n=f+(Lh E Af).length->Af.size=ops.size->LA.size=ops.size->
   (∀j,LA.getD j false=(Af.getD j false||E.contains j))->Sn ops Af->(∀j,L0.getD j false=true->Af.getD j false=true)->om T Γ ops E K f LA st->Rel X (Qp ops (Lh E Af) st) a w->
   (∀j,j∈Region.ready .any ops Af->j∉E->j∈Region.ready .any ops LA)/\(Region.ready .any ops Af= []->Q .normal a w/\f=0/\Lh E Af= []):=by
  intro n f Af LA st a w hn fV pf UA Qh TZ qk hrel
  have h1: ∀j,j∈Region.ready .any ops Af->j∉E->j∈Region.ready .any ops LA:= λj hj hjE=>by
   obtain ⟨m5,o,ho,Kt⟩:=mem_ready.1 hj
   have Js:=cD m5
   refine mem_ready.2 ⟨getD_in (by omega) ?_,o,ho,λe he hb=>by rw [UA,Kt e he hb];rfl⟩
   rw [UA,getD_both m5]
   simpa using hjE
  refine ⟨h1,λh0=>?_⟩
  cases YB:Lh E Af with
  |cons r L=>
   have:=nD fV hry TZ YB
   rw [h0] at this
   cases this
  |nil=>
   have Kt: ∀r,r∈E->Af.getD r false=true:= λr hr=>by
    have:r∉Lh E Af:=by rw [YB];simp
    unfold Lh at this
    rw [Da] at this
    by_cases hl:Af.getD r false=true
    ·exact hl
    ·exact absurd ⟨hr,by simpa using hl⟩ this
   have hb: ∀j,j∈Region.ready .any ops LA->j∈Region.ready .any ops Af:= λj hj=>by
    obtain ⟨m5,o,ho,hw⟩:=mem_ready.1 hj
    have Js:=cD m5
    have he: ∀k,LA.getD k false=Af.getD k false:= λk=>by
     rw [UA]
     by_cases hk:k∈E
     ·rw [Kt k hk];rfl
     ·rw [show E.contains k=false by simpa using hk,eY]
    exact mem_ready.2 ⟨getD_in (by omega) (by rw [<-he];exact getD_both m5),o,ho,λe hx hbd=>by rw [<-he];exact hw e hx hbd⟩
   cases f with
   |zero=>
    obtain ⟨_,_,hk⟩:=qk
    rw [YB] at hrel
    exact ⟨hK _ _ _ hk hrel,rfl,rfl⟩
   |succ f=>
    obtain ⟨_,Jg,_⟩:=qk
    obtain ⟨j,hj⟩:=List.exists_mem_of_ne_nil _ Jg
    have:=hb j hj
    rw [h0] at this
    cases this
 intro n
 induction n with
 |zero=>
  intro f Af LA st a w hn fV pf UA Qh TZ qk hrel
  obtain ⟨k1,k2⟩:=key 0 f Af LA st a w hn fV pf UA Qh TZ qk hrel
  have hf:f=0:=by omega
  have hp:Lh E Af= []:=List.length_eq_zero_iff.1 (by omega)
  subst hf
  obtain ⟨_,hr,_⟩:=qk
  have h0:Region.ready .any ops Af= []:=List.eq_nil_iff_forall_not_mem.2 λj hj=>by
   by_cases hjE:j∈E
   ·have m5:=getD_both (mem_ready.1 hj).1
    have:j∈Lh E Af:=Da.2 ⟨hjE,by rw [m5];rfl⟩
    rw [hp] at this
    cases this
   ·have:=k1 j hj hjE
    rw [hr] at this
    cases this
  exact ⟨h0,(k2 h0).1⟩
 |succ n ih=>
  intro f Af LA st a w hn fV pf UA Qh TZ qk hrel
  obtain ⟨k1,k2⟩:=key (n+1) f Af LA st a w hn fV pf UA Qh TZ qk hrel
  have Yo:SK T Γ ops E LA st:=by cases f<;>exact qk.1
  have PM: ∀r∈Lh E Af,r∈E/\Af.getD r false=false:= λr hr=>by
   obtain ⟨h1,h2⟩:=Da.1 hr
   exact ⟨h1,by simpa using h2⟩
  have YF: ∀r∈Lh E Af,iq ops r=true/\ ∃o v,ops[r]?=some o/\Vn T Γ ops st o=some v/\ ∀d,o.dst=some d->st.get d=v:= λr hr=>by
   obtain ⟨h1,h2⟩:=PM r hr
   refine ⟨hre r h1,(Yo r h1).resolve_left λhw=>?_⟩
   unfold pq at hw
   obtain ⟨j,_,hj⟩:=Ej.1 hw
   simp only [Ag,Dn] at hj
   obtain ⟨hj1,hj2,hj3⟩:=hj
   rw [UA,hj1,eY] at hj2
   have:=Qh j r hj2 hj3
   rw [h2] at this
   cases this
  refine ⟨λh0=>(k2 h0).1,λi hi=>?_⟩
  obtain ⟨π,hrel⟩:=hrel
  have hiw: ∀q∈Lh E Af,Region.waitsFor .any ops i q=true->False:= λq hq hw=>by
   have:=bm hi hw
   rw [(PM q hq).2] at this
   cases this
  obtain ⟨m5,oi,hoi,_⟩:=mem_ready.1 hi
  have Js:=cD m5
  by_cases hiE:i∈E
  ·have NN:i∈Lh E Af:=Da.2 ⟨hiE,by rw [getD_both m5];rfl⟩
   obtain ⟨hrd,o,v,ho,hv,hd⟩:=YF i NN
   have hnl:=OU (Ad5.filter (p:= λr=>!Af.getD r false)) (eo.filter (p:= λr=>!Af.getD r false)) NN ho hiw
   have yX:Vn T Γ ops (Qp ops (Lh E Af) st) o=some v:=by
    rw [AR (st:=st) (Pp _ _) λt ht=>(Qq _ _ _).2 λhm=>by
     obtain ⟨q,hq,he⟩:=Kz.1 hm
     exact hnl q hq t he ht]
    exact hv
   obtain ⟨u,hy,hu⟩:=nY hT Nt hrel ho hrd yX
   refine hy Q _ ?_
   have YB: ∀q,q∈Lh E (Af.setIfInBounds i true)↔q∈Lh E Af/\q≠i:= λq=>by
    unfold Lh
    rw [Da,Da]
    by_cases hqi:q=i
    ·subst hqi
     simp [Js]
    ·rw [getD_set_ne false (Hi hqi)]
     exact ⟨λh=>⟨h,hqi⟩,λh=>h.1⟩
   have hlen:(Lh E Af).length=(Lh E (Af.setIfInBounds i true)).length+1:=by
    have sl: ∀(E:List Nat) (L:Array Bool),gF ops E L=true->E.Nodup/\ ∀r∈E,L.getD r true=false:=by
     intro E
     induction E with
     |nil=>exact λL _=>⟨Kw,λr hr=>by cases hr⟩
     |cons e E ihE=>
      intro L h
      simp only [gF,Ag,Jb] at h
      obtain ⟨g1,g2⟩:=ihE _ h.2
      have he:=(mem_ready.1 h.1).1
      have j8:=cD he
      refine ⟨Ca.2 ⟨λhm=>?_,g1⟩,λr hr=>?_⟩
      ·have:=g2 e hm
       simp [j8] at this
      ·rcases Bb.1 hr with rfl|hr
       ·exact he
       ·have Jg:e≠r:= λe'=>by subst e';have:=g2 e hr;simp [j8] at this
        have:=g2 r hr
        rw [getD_set_ne true Jg] at this
        exact this
    have hEn:=(sl E L0 hry).1
    have Ak8: ∀L:List Nat,L.Nodup->i∈L->(L.filter λr=>!Af.getD r false).length=(L.filter λr=>!(Af.setIfInBounds i true).getD r false).length+1:=by
     intro L
     induction L with
     |nil=>exact λ_ h=>by cases h
     |cons x L ihL=>
      intro hn hm
      obtain ⟨hx,hn⟩:=Ca.1 hn
      rw [List.filter_cons,List.filter_cons]
      by_cases hxi:x=i
      ·subst hxi
       rw [Ab (by rw [getD_both m5];rfl),Al (by simp [Js])]
       have:L.filter (λr=>!Af.getD r false)=L.filter (λr=>!(Af.setIfInBounds x true).getD r false):=List.filter_congr λq hq=>by
        rw [getD_set_ne false (λe=>hx (by rw [e];exact hq))]
       rw [Bg,this]
      ·have hm:=(Bb.1 hm).resolve_left (Hi hxi)
       rw [getD_set_ne false (Hi hxi)]
       split
       ·rw [Bg,Bg,ihL hn hm]
       ·exact ihL hn hm
    exact Ak8 E hEn hiE
   refine ih f (Af.setIfInBounds i true) LA st _ w (by omega) (by simp [fV]) pf (λj=>?_) (Qh.set hi) (λj hj=>getD_set_true (TZ j hj)) qk ⟨π,?_⟩
   ·rw [UA]
    by_cases il:i=j
    ·subst il
     rw [show E.contains i=true by simpa using hiE,Bool.or_true,Bool.or_true]
    ·rw [getD_set_ne false il]
   ·have h2:=hrel.put o.dst hu
    refine rk h2 ?_ ?_ λt=>?_
    ·rw [iy,Pp,Pp]
    ·rw [lG,Uv,Uv]
    ·have hdo:=aT ho
     by_cases hm:t∈iT ops (Lh E (Af.setIfInBounds i true))
     ·exact .inr ((Qq _ _ _).1 hm)
     ·rw [(Qq _ _ _).2 hm]
      obtain ⟨g1,g2⟩:=fR (Qp ops (Lh E Af) st) o.dst v t
      by_cases he:o.dst=some t
      ·rw [hd t he]
       rcases g1 he with g|g
       ·exact .inl g.symm
       ·by_cases hl:t<st.tmps.length
        ·refine .inl ?_
         rw [he]
         show v=((Rg (Qp ops (Lh E Af) st).tmps t v).getD t .undef)
         rw [Ps,Ab ⟨rfl,by rw [Uv];exact hl⟩]
        ·refine .inr ?_
         rw [<-hd t he]
         unfold St.get
         rw [Ah,Ev (by omega)]
         rfl
      ·rw [g2 he]
       refine .inl ((Qq _ _ _).2 λhm2=>?_).symm
       obtain ⟨q,hq,hqe⟩:=Kz.1 hm2
       by_cases hqi:q=i
       ·subst hqi
        rw [hdo] at hqe
        exact he hqe
       ·exact hm (Kz.2 ⟨q,(YB q).2 ⟨hq,hqi⟩,hqe⟩)
  ·cases f with
   |zero=>
    obtain ⟨_,hr,_⟩:=qk
    have:=k1 i hi hiE
    rw [hr] at this
    cases this
   |succ f=>
    obtain ⟨_,_,Adk⟩:=qk
    obtain ⟨o,st',ho,he,er⟩:=Adk i (k1 i hi hiE)
    obtain ⟨a',PS,Xn⟩:=XD hT Nt (Lh E Af) a YF Ad5.filter hrel
    have PW:wpOp P ops Q i (λa2 w2=>Rel X st' a2 w2) a' w:=by
     unfold wpOp
     simp only [ho]
     exact Uj hT Nt Xn o he λa2 w2 h2=>h2
    have yS:=vn (Q:=Q) ho (λcs b=>Region.noSelect_spec ak i o cs b ho) hQ (Lh E Af) a a' w (λr hr=>?_) PS PW
    ·refine wpOp_mono (λa2 w2 hk=>?_) yS
     obtain ⟨a3,hp3,π3,hr3⟩:=hk
     have YB:Lh E (Af.setIfInBounds i true)=Lh E Af:=by
      unfold Lh
      refine List.filter_congr λq hq=>?_
      rw [getD_set_ne false (λe=>hiE (by rw [e];exact hq))]
     refine ih f (Af.setIfInBounds i true) (LA.setIfInBounds i true) st' a2 w2 (by rw [YB];omega) (by simp [fV]) (by simp [pf]) (λj=>?_) (Qh.set hi) (λj hj=>getD_set_true (TZ j hj)) er ⟨π3,by rw [YB];exact SA hp3 hr3⟩
     by_cases il:i=j
     ·subst il
      simp [Js,fV▸Js,pf]
     ·rw [getD_set_ne false il,getD_set_ne false il,UA]
    ·obtain ⟨hrE,hrl⟩:=PM r hr
     have h3:=At.1 (At.1 hap r hrE) i (Hu.2 (by omega))
     simp only [Jq] at h3
     rcases h3 with ((h3|h3)|h3)|h3
     ·exact absurd (by simpa using h3) hiE
     ·have:=TZ i h3
      rw [getD_both m5] at this
      cases this
     ·exact (hiw r hr h3).elim
     ·obtain ⟨x,y,hx,hy,hp⟩:=Ya h3
      rw [ho] at hy;cases hy
      exact ⟨x,hx,hp⟩
theorem l4: ∀(E:List Nat) (s0 s1:St),Fl T Γ ops E s0=some s1->s1.heap=s0.heap/\s1.tmps.length=s0.tmps.length/\ ∀t,t∉iT ops E->s1.get t=s0.get t
 | [],s0,s1,h=>by
  simp only [Fl,Aa] at h
  subst h
  exact ⟨rfl,rfl,λ_ _=>rfl⟩
 |r::E,s0,s1,h=>by
  simp only [Fl] at h
  split at h
  ·cases h
  rename_i o ho
  split at h
  rotate_left
  ·cases h
  rename_i v hv
  obtain ⟨h1,h2,h3⟩:=l4 E _ _ h
  refine ⟨by rw [h1,iy],by rw [h2,lG],λt ht=>?_⟩
  rw [h3 t λhm=>ht (by obtain ⟨q,hq,he⟩:=Kz.1 hm;exact Kz.2 ⟨q,An _ hq,he⟩)]
  exact (fR s0 o.dst v t).2 λe=>ht (Kz.2 ⟨r,Lf ..,by rw [aT ho];exact e⟩)
theorem uG: ∀ {E:List Nat} {L0:Array Bool},gF ops E L0=true-> ∀r∈E,L0.getD r true=false
 | [],_,_,_,hr=>by cases hr
 |e::E,L0,h,r,hr=>by
  simp only [gF,Ag,Jb] at h
  have he:=(mem_ready.1 h.1).1
  rcases Bb.1 hr with rfl|hr
  ·exact he
  ·have h2:=uG h.2 r hr
   have Jg:e≠r:= λe'=>by subst e';simp [cD he] at h2
   rw [getD_set_ne true Jg] at h2
   exact h2
theorem tK (hT:Ed P T) (Nt:Kd P Γ) {Q:Exit->Act->World->Prop} (hQ: ∀c a w,¬Q (.panic c) a w) {K:St->Prop} (hK: ∀st a w,K st->Rel X st a w->Q .normal a w) (ak:Region.noSelect ops=true)
  {E:List Nat} {L0:Array Bool} (hE:bl ops E L0=true) {n:Nat} (hn:E.length<=n) {aM st1:St} (h1:Fl T Γ ops E aM=some st1) (h2:om T Γ ops E K (n-E.length) (Ec E L0) st1)
  (Yp:L0.size=ops.size) (Qh:Sn ops L0) {a:Act} {w:World} (hr:Rel X aM a w):wpAny P .any ops Q n L0 a w:=by
 have hE':=hE
 simp only [bl,Ag] at hE'
 have m5:=uG hE'.1.2
 have hp:Lh E L0=E:=List.filter_eq_self.2 λr hr=>by rw [getD_both (m5 r hr)];rfl
 refine tM hT Nt hQ hK ak hE n (n-E.length) L0 (Ec E L0) st1 a w (by rw [hp];omega) Yp (by rw [Us];exact Yp) (λj=>?_) Qh (λj hj=>hj) h2 ?_
 ·by_cases hj:j∈E
  ·rw [dq E L0 j hj (cD (m5 j hj)),show E.contains j=true by simpa using hj,Bool.or_true]
  ·rw [bM E L0 j hj,show E.contains j=false by simpa using hj,eY]
 ·obtain ⟨π,hr⟩:=hr
  obtain ⟨g1,g2,g3⟩:=l4 E _ _ h1
  refine ⟨π,rk hr (by rw [Pp,g1]) (by rw [Uv,g2]) λt=>?_⟩
  rw [hp]
  by_cases ht:t∈iT ops E
  ·exact .inr ((Qq _ _ _).1 ht)
  ·exact .inl (((Qq _ _ _).2 ht).trans (g3 t ht))
theorem Vv (live:List Nat): ∀(i:Nat) (l:List AV),(Hr live i l).length=l.length
 |_,[]=>rfl
 |i,v::r=>by simp [Hr,Vv live (i+1) r]
theorem a9 (live:List Nat): ∀(i:Nat) (l:List AV) (t:Nat),(Hr live i l).getD t .undef= .undef\/(Hr live i l).getD t .undef=l.getD t .undef
 |_,[],t=> .inr rfl
 |i,v::r,0=>by
  simp only [Hr,eb]
  split
  ·exact .inr rfl
  ·exact .inl rfl
 |i,v::r,t+1=>by
  simp only [Hr,Mp]
  exact a9 live (i+1) r t
theorem bH: ∀(l:List Nat) (st:St) (a:Act) (w:World),Rel X st a w->Rel X (Zl l st) a w
 | [],_,_,_,h=>h
 |k::r,_,a,w,⟨_,h⟩=>bH r _ a w ⟨_,h.forget k⟩
theorem MK (dead:List Nat) {st:St} {a:Act} {w:World} (h:Rel X st a w):Rel X (st.Pk dead) a w:=by
 obtain ⟨π,h⟩:=h
 unfold St.Pk
 refine bH _ _ a w ⟨π,h.1,⟨by simp [Vv,h.2.size],h.2.defers,λt=>?_⟩⟩
 show Bi X w π st.heap ((Hr _ 0 st.tmps).getD t .undef) _
 rcases a9 ((List.range st.tmps.length).filter λt=>!dead.contains t) 0 st.tmps t with e|e
 ·rw [e];trivial
 ·rw [e];exact h.2.tmps t
theorem nZ (hT:Ed P T) (Nt:Kd P Γ) (hm:P.follows .mixedOrders=true) {Q:Exit->Act->World->Prop} {id:Nat} {draw:Bool} {st:St} {K:St->Prop} {a:Act} (h:Rel X st a w)
  (he:iP T Γ ops draw st K) (hQ: ∀st' a' w',K st'->Rel X st' a' w'->Q .normal a' w'):(Code.region id ops draw).wp P Q a w:=by
 rcases he with ⟨st',h1,h2⟩|⟨rfl,ak,aM,h1,h2⟩
 ·exact mh hT Nt hm h h1 λa' w' h'=>hQ st' a' w' h2 h'
 ·refine wp_mono (Q:= λe a w=>e= .normal/\Q .normal a w) ?_ λe a w h=>h.1▸h.2
  refine wp_region_any hm ?_
  have hrel:Rel X st a {w with drawn:=w.drawn+1} :=by
   obtain ⟨π,h⟩:=h
   exact ⟨π,h.quiet ⟨rfl,rfl,rfl,Ar _,λ_ _=>rfl⟩⟩
  have hlen:(Jx ops).length<=ops.size:=by
   have:=bO (ops:=ops) (!ie false ops) (List.range ops.size) (Array.replicate ops.size false)
   rw [List.length_range] at this
   exact this
  have PJ:(Array.replicate ops.size false).size=ops.size:=by simp
  have hmv:(Ec (Jx ops) (Array.replicate ops.size false)).size=ops.size:=by rw [Us,PJ]
  have:=aJ hT (!ie false ops) (X:=X) (P:=P) (T:=T) (Γ:=Γ) (Q:= λe a w=>e= .normal/\Q .normal a w) (n:=ops.size-(Jx ops).length) (st1:=aM) (λc a w hq=>by cases hq.1) ak (List.range ops.size) (Array.replicate ops.size false) st a _ h1 hrel λa' w' h'=>by
   rcases h2 with h2|⟨E,st1,hE,hEn,hE1,hE2⟩
   ·exact jA hT Nt (λst' a' w' hk hr=>⟨rfl,hQ st' a' w' hk hr⟩) _ _ _ _ _ h2 h'
   ·exact tK hT Nt (λc a w hq=>by cases hq.1) (λst' a' w' hk hr=>⟨rfl,hQ st' a' w' hk hr⟩) ak hE hEn hE1 hE2 hmv (Yy _ _ _ nz) h'
  have e:(Iu (!ie false ops) ops (List.range ops.size) (Array.replicate ops.size false)).length+(ops.size-(Jx ops).length)=ops.size:=by
   have e2:(Iu (!ie false ops) ops (List.range ops.size) (Array.replicate ops.size false)).length=(Jx ops).length:=rfl
   omega
  rw [e] at this
  exact this
theorem ES (hT:Ed P T) (Nt:Kd P Γ) (hm:P.follows .mixedOrders=true) {Q:Exit->Act->World->Prop} {id:Nat} {draw:Bool} {st:St} {K:St->Prop} {a:Act} (h:Rel X st a w)
  (he:vu T Γ ops draw st K) (hQ: ∀st' a' w',K st'->Rel X st' a' w'->Q .normal a' w'):(Code.region id ops draw).wp P Q a w:=by
 rcases he with he|⟨dead,_,he⟩
 ·exact nZ hT Nt hm h he hQ
 ·exact nZ hT Nt hm h he λst' a' w' hk hr=>hQ _ a' w' hk (MK dead hr)
end
end Go.Proofs.Ytkkdpknjohcekaa
