/-
  Part 25 of the proof that the statement FnIterativeDeepening holds.
-/
import Derived.Test.YtkkdpknjohcekaaGreatCFIterativeDeepening23
namespace Go.Proofs.YtkkdpknjohcekaaGreat
open Go.RowKit
section
variable {P:Program} {T:Tab} {Γ:Env} {X:Ctx} {w w':World} {π:Pi} {ops:Array Oper} {hd tl:List Nat}
structure Zp (ops:Array Oper) (tl fl:List Nat) (Ah:Array Bool):Prop where
 size:Ah.size=ops.size
 done: ∀i,i∈fl->Ah.getD i false=true
 closed: ∀j oj,ops[j]?=some oj->Ah.getD j false=true-> ∀e∈oj.after,Region.binds .any e=true->Ah.getD e.on false=true
 tail: ∀t,t∈tl->Ah.getD t true=false
theorem Zp.set {fl:List Nat} {i:Nat} {Ah:Array Bool} (inv:Zp ops tl fl Ah) (hi:i∈Region.ready .any ops Ah) (gR:i∉tl):Zp ops tl fl (Ah.setIfInBounds i true):=by
 obtain ⟨_,oi,hoi,Jh⟩:=mem_ready.1 hi
 refine ⟨by simp [inv.size],λk hk=>getD_set_true (inv.done k hk),λj oj hj hl e he hb=>?_,λt ht=>by
  have Jl:i≠t:= λe=>gR (by rw [e];exact ht)
  rw [getD_set_ne true Jl];exact inv.tail t ht⟩
 by_cases jT:i=j
 ·subst jT
  have:oj=oi:=Az (hj.symm.trans hoi)
  subst this
  exact getD_set_true (Jh e he hb)
 ·rw [getD_set_ne false jT] at hl
  exact getD_set_true (inv.closed j oj hj hl e he hb)
theorem IY (k:Nat) (r:List Nat) (h:(r.all λt=>(k::r).any λk=>Region.waitsFor .any ops t k)=true): ∀t,t∈r-> ∃k',(k'=k\/k'∈r)/\Region.waitsFor .any ops t k'=true:= λt ht=>by
 obtain ⟨k',h1,h2⟩:=Gd.1 (Bb.1 h t ht)
 exact ⟨k',Bg.1 h1,h2⟩
theorem GY {fl:List Nat} {Ah:Array Bool} (hs:uw ops hd tl=true) (inv:Zp ops tl fl Ah) (aE: ∀i,i∈hd->i<ops.size):
  ∀(d i:Nat),ops.size-i=d->i∈hd->Ah.getD i true=false-> ∀t,t∈tl->t∉Region.ready .any ops Ah:=by
 cases tl with
 |nil=>intro d i _ _ _ t ht;cases ht
 |cons f r=>
  simp only [uw,Ag] at hs
  obtain ⟨iR,rj⟩:=hs
  intro d
  induction d using Nat.strongRecOn with
  |_ d ih=>
   intro i xc hi oF t ht hr
   obtain ⟨_,ot,hot,Jh⟩:=mem_ready.1 hr
   rcases Bg.1 ht with rfl|nz
   ·have h1:=Bb.1 iR i hi
    obtain ⟨j,hj,hj2⟩:=Gd.1 h1
    simp only [Ag,Ri] at hj2
    obtain ⟨oj,hoj,e,he,hb,hon⟩:=Region.waitsFor_spec hj2.2
    rcases Bg.1 hj with rfl|hjh
    ·have:oj=ot:=Az (hoj.symm.trans hot)
     subst this
     have h2:=Jh e he hb
     rw [hon,getD_both oF] at h2
     cases h2
    ·cases hl:Ah.getD j false with
     |true=>
      have h2:=inv.closed j oj hoj hl e he hb
      rw [hon,getD_both oF] at h2
      cases h2
     |false=>
      have hjs:j<Ah.size:=by rw [inv.size];exact aE j hjh
      have:=aE j hjh
      exact ih (ops.size-j) (by omega) j rfl hjh (getD_in hjs hl) t (by simp) hr
   ·obtain ⟨k',h1,h2⟩:=IY f r rj t nz
    obtain ⟨o',ho',e,he,hb,hon⟩:=Region.waitsFor_spec h2
    have:o'=ot:=Az (ho'.symm.trans hot)
    subst this
    have h3:=Jh e he hb
    have hk:k'∈f::r:=by rcases h1 with rfl|h1<;>simp [*]
    rw [hon,getD_both (inv.tail k' hk)] at h3
    cases h3
def WH (T:Tab) (Γ:Env) (ops:Array Oper) (hd:List Nat) (L:Array Bool->St->Prop):Nat->Array Bool->St->Prop
 |0,Ah,st=>L Ah st
 |f+1,Ah,st=>
  Region.ready .any ops Ah≠ []/\ ∀i∈Region.ready .any ops Ah,i∈hd/\ ∃o v,ops[i]?=some o/\Xh T Γ ops st o=some v/\WH T Γ ops hd L f (Ah.setIfInBounds i true) (st.put o.dst v)
theorem BG (hT:Eb P T) (Pk:Lj P Γ) {Q:Exit->Act->World->Prop} {K:Act->World->Prop} {st:St} {a:Act} (h:Rel X st a w) {i:Nat} {o:Oper} {v:AV} (ho:ops[i]?=some o) (hv:Xh T Γ ops st o=some v)
  (hK: ∀a' w',Rel X (st.put o.dst v) a' w'->K a' w'):wpOp P ops Q i K a w:=by
 obtain ⟨π,h⟩:=h
 have run:Xk T Γ st o=some v->o.wp P a w K Q:= λhe=>qR (X:=X) (st':=st) (av:=v) (CX hT Pk h o v he) hK
 have skip:v= .at .skip->K (a.put o.dst undef) w:= λe=>by subst e;exact hK _ _ ⟨π,h.put o.dst GN⟩
 unfold wpOp
 simp only [ho]
 unfold Xh at hv
 split at hv
 ·rename_i hg
  rw [Ab (by simp [Region.wanted,hg])]
  exact .inl (run hv)
 ·rename_i j want hg
  split at hv
  ·rename_i b hb
   have hy:=(eZ h j).1 b hb
   split at hv
   ·rename_i XS
    rw [Ab (by simp only [Region.wanted,hg,hy];simpa using XS)]
    exact .inl (run hv)
   ·rename_i XS
    rw [Ai (by simp only [Region.wanted,hg,hy];simpa using XS)]
    simp only [Aa] at hv
    exact skip hv.symm
  ·rename_i hb
   have hy:=(eZ h j).2 hb
   rw [Ai (by simp [Region.wanted,hg,hy])]
   simp only [Aa] at hv
   exact skip hv.symm
  ·cases hv
theorem lz (hT:Eb P T) (Pk:Lj P Γ) {g:Nat} {L:Array Bool->St->Prop} {Q:Exit->Act->World->Prop} (hL: ∀Ah st a w,L Ah st->Rel X st a w->wpAny P .any ops Q g Ah a w):
  ∀(f:Nat) (Ah:Array Bool) (st:St) (a:Act) (w:World),WH T Γ ops hd L f Ah st->Rel X st a w->wpAny P .any ops Q (f+g) Ah a w
 |0,Ah,st,a,w,h,hr=>by rw [Cb];exact hL _ _ _ _ h hr
 |f+1,Ah,st,a,w,h,hr=>by
  rw [show f+1+g=(f+g)+1 by omega]
  refine ⟨λh0=>absurd h0 h.1,λi hi=>?_⟩
  obtain ⟨_,o,v,ho,hv,gy⟩:=h.2 i hi
  exact BG hT Pk hr ho hv λa' w' h'=>lz hT Pk hL f _ _ _ _ gy h'
theorem ID {fl:List Nat} {i:Nat} {oi:Oper} {v:AV} {L:Array Bool->St->Prop} (hi:ops[i]?=some oi) (hs:uw ops hd tl=true) (aE: ∀i,i∈hd->i<ops.size) (gR:i∈hd)
  (Jh: ∀j,j<ops.size->j∈fl\/j∈hd\/j∈tl) (DO: ∀j,j∈hd->j∉tl) (Al9: ∀Ah st,L Ah st-> ∀j∈Region.ready .any ops Ah,j∈tl):
  ∀(f:Nat) (Ah:Array Bool) (st:St),Zp ops tl fl Ah->
   (∀j oj,ops[j]?=some oj->j≠i->Ah.getD j true=false->(∀e∈oj.after,Region.binds .any e=true->e.on≠i)->oi.apart ops oj=true)->
   i∈Region.ready .any ops Ah->Xh T Γ ops st oi=some v->
   WH T Γ ops hd L f (Ah.setIfInBounds i true) (st.put oi.dst v)->WH T Γ ops hd L (f+1) Ah st:=by
 intro f
 have Amw: ∀Ah,Zp ops tl fl Ah->i∈Region.ready .any ops Ah-> ∀j,j∈Region.ready .any ops Ah->j∈hd:=by
  intro Ah inv hr j hj
  obtain ⟨oF,oj,hoj,_⟩:=mem_ready.1 hj
  rcases Jh j (Np.1 hoj).1 with h|h|h
  ·have h1:=inv.done j h
   rw [getD_both oF] at h1;cases h1
  ·exact h
  ·exact absurd hj (GY hs inv aE _ i rfl gR (mem_ready.1 hr).1 j h)
 induction f with
 |zero=>
  intro Ah st inv _ hr hv Hh
  refine ⟨λh=>(by rw [h] at hr;cases hr),λj hj=>?_⟩
  have hjh:=Amw Ah inv hr j hj
  refine ⟨hjh,?_⟩
  by_cases rV:j=i
  ·subst rV;exact ⟨oi,v,hi,hv,Hh⟩
  ·exact absurd (Al9 _ _ Hh j (ready_mono hj rV)) (DO j hjh)
 |succ f ih=>
  intro Ah st inv nv hr hv Hh
  have oF:=(mem_ready.1 hr).1
  refine ⟨λh=>(by rw [h] at hr;cases hr),λj hj=>?_⟩
  have hjh:=Amw Ah inv hr j hj
  refine ⟨hjh,?_⟩
  by_cases rV:j=i
  ·subst rV;exact ⟨oi,v,hi,hv,Hh⟩
  ·obtain ⟨_,oj,vj,hoj,hvj,gy⟩:=Hh.2 j (ready_mono hj rV)
   obtain ⟨Ali,oj',Arx,Al1⟩:=mem_ready.1 hj
   have:oj'=oj:=Az (Arx.symm.trans hoj)
   subst this
   have th: ∀e∈oj'.after,Region.binds .any e=true->e.on≠i:= λe he hb heq=>by
    have h1:=Al1 e he hb
    rw [heq,getD_both oF] at h1
    cases h1
   obtain ⟨p1,p2,p3⟩:=Oper.apart_spec (nv j oj' hoj rV Ali th)
   rw [HF p1] at hvj
   refine ⟨oj',vj,hoj,hvj,?_⟩
   have Ahd: ∀k ok,ops[k]?=some ok->k≠i->(Ah.setIfInBounds j true).getD k true=false->
     (∀e∈ok.after,Region.binds .any e=true->e.on≠i)->oi.apart ops ok=true:= λk ok hk hki Amj hno=>by
    refine nv k ok hk hki ?_ hno
    by_cases hjk:j=k
    ·subst hjk;exact Ali
    ·rw [getD_set_ne true hjk] at Amj;exact Amj
   refine ih (Ah.setIfInBounds j true) (st.put oj'.dst vj) (inv.set hj (DO j hjh)) Ahd (ready_mono hr (Hr rV)) (by rw [HF p3];exact hv) ?_
   rw [Array.setIfInBounds_comm _ _ rV,<-St.put_comm st v vj p2]
   exact gy
theorem qG: ∀(l:List Nat) (Ah:Array Bool),o0 ops l Ah=true-> ∀j∈Region.ready .any ops Ah,j∈l
 | [],Ah,h,j,hj=>by simp only [o0,List.isEmpty_iff] at h;rw [h] at hj;cases hj
 |k::r,Ah,h,j,hj=>by
  simp only [o0,Ag,Mi,Ri] at h
  rcases h.1 with h1|h1
  ·rw [h1] at hj
   simp at hj
   simp [hj]
  ·by_cases e:j=k
   ·simp [e]
   ·exact Ao _ (qG r _ h.2 j (ready_mono hj e))
theorem BO {fl:List Nat} (bO:Region.noSelect ops=true) (hs:uw ops hd tl=true) (aE: ∀i,i∈hd->i<ops.size) (Jh: ∀j,j<ops.size->j∈fl\/j∈hd\/j∈tl) (DO: ∀j,j∈hd->j∉tl) (st':St):
  ∀(l:List Nat) (Ah:Array Bool) (st:St),(∀i,i∈l->i∈hd)->Zp ops tl fl Ah->p8 ops tl l Ah=true->Gg T Γ ops l st=some st'->
  WH T Γ ops hd (λze s=>o0 ops tl ze=true/\s=st') l.length Ah st
 | [],Ah,st,_,_,hB,he=>by
  simp only [Gg,Aa] at he
  exact ⟨by simpa [p8] using hB,he⟩
 |k::l,Ah,st,hl,inv,hB,he=>by
  simp only [p8,Ag] at hB
  obtain ⟨⟨hr,hf⟩,hB'⟩:=hB
  have hkh:=hl k (by simp)
  have kx:k∈Region.ready .any ops Ah:=by simpa using hr
  simp only [Gg] at he
  split at he
  ·cases he
  ·rename_i o ho
   split at he
   ·rename_i v hv
    exact ID ho hs aE hkh Jh DO (λze s hL=>qG tl ze hL.1) l.length Ah st inv (Region.free_spec ho hf) kx hv
     (BO bO hs aE Jh DO st' l _ _ (λi hi=>hl i (by simp [hi])) (inv.set kx (DO k hkh)) hB' he)
   ·cases he
theorem yF {Q:Exit->Act->World->Prop} (hQ: ∀e a w,Q e a w->e= .normal) {k i:Nat} {x:Operand} {o:Oper} (ho:ops[k]?=some o) (rW:o.op= .extract x i) (hg:o.guard=none) {K:Act->World->Prop} {a:Act} {w:World}
  (h:wpOp P ops Q k K a w): ∃v,Yields P ops o v a/\K (a.put o.dst v) w:=by
 unfold wpOp at h
 simp only [ho] at h
 have hw:Region.wanted o (yielded ops a.tmps)=true:=by simp [Region.wanted,hg]
 rw [Ab hw] at h
 rcases h with h|⟨_,a',w',h⟩
 ·unfold Oper.wp at h
  have hr: ∀w,(execOp a.eval o).run P w=(do pure (Next.value (<-Instr.extract (a.eval x) i))).run P w:= λw=>by unfold execOp;rw [rW]
  rw [hr] at h
  unfold Instr.extract at h hr
  split at h
  ·rename_i vs hx
   split at h
   ·rename_i v hv
    rw [hx] at hr
    simp only [hv] at hr
    exact ⟨v, .inl ⟨hw,λw=>(hr w).trans rfl⟩,h⟩
   ·exact h.elim
  ·exact h.elim
 ·cases hQ _ _ _ h
theorem dG {Q:Exit->Act->World->Prop} (hQ: ∀e a w,Q e a w->e= .normal) (bO:Region.noSelect ops=true): ∀(l:List Nat) (Ah:Array Bool) (a:Act) (w:World),o0 ops l Ah=true->wpOps P ops Q l a w->wpAny P .any ops Q l.length Ah a w
 | [],Ah,a,w,hB,h=>⟨by simpa [o0] using hB,h⟩
 |k::r,Ah,a,w,hB,h=>by
  simp only [o0,Ag,Mi,Ri] at hB
  rw [wpOps_cons] at h
  rcases hB.1 with h0|⟨h1,h2,h3⟩
  ·refine ⟨λh1=>(by rw [h0] at h1;cases h1),λi hi=>?_⟩
   rw [h0] at hi
   have hik:i=k:=by simpa using hi
   subst hik
   exact wpOp_mono (λa' w' h'=>dG hQ bO r _ a' w' hB.2 h') h
  ·unfold ZF at h1
   split at h1
   ·rename_i o ho
    split at h1
    ·rename_i x i rW hg
     obtain ⟨v,hy,hk⟩:=yF hQ ho rW hg h
     exact wpAny_take ho bO h3 h2 (λc a w hq=>by cases hQ _ _ _ hq) hy (dG hQ bO r _ _ w hB.2 hk)
    ·cases h1
   ·cases h1
theorem nm {P:Program} {o:Oper} {t:Tmp} {a:Act} (h:o.op= .move (.tmp t)) (hg:o.guard=none):Yields P ops o (a.tmps.getD t undef) a:=by
 refine .inl ⟨by simp [Region.wanted,hg],λw=>?_⟩
 unfold execOp
 rw [h]
 rfl
theorem yZ {hd tl:List Nat} {i:Nat} (h:nA ops hd tl i=true): ∃o t,ops[i]?=some o/\o.op= .move (.tmp t)/\o.guard=none:=by
 unfold nA at h
 split at h
 ·rename_i o ho
  simp only [Ag] at h
  have h1:=h.1
  split at h1
  ·rename_i t h2 h3
   exact ⟨o,t,ho,h2,h3⟩
  ·cases h1
 ·cases h
theorem gN {q:Bool} {hd:List Nat} {Q:Exit->Act->World->Prop} (hQ: ∀c a w,¬Q (.panic c) a w) (bO:Region.noSelect ops=true) {n:Nat} {st1:St}
  (gy: ∀Ah st a w,(∀j oj,ops[j]?=some oj->Ah.getD j false=true-> ∀e∈oj.after,Region.binds .any e=true->Ah.getD e.on false=true)->Ah.size=ops.size->p8 ops tl hd Ah=true->st=st1->Rel X st a w->
   (∀j,Ah.getD j false=true↔j∈Wg q Γ ops)->wpAny P .any ops Q n Ah a w):
  ∀(l dn:List Nat) (Ah:Array Bool) (st:St) (a:Act) (w:World),(∀j,j∈Wg q Γ ops↔j∈dn\/j∈l)->(∀i,i∈l-> ∃o t,ops[i]?=some o/\o.op= .move (.tmp t)/\o.guard=none)->
   (∀j oj,ops[j]?=some oj->Ah.getD j false=true-> ∀e∈oj.after,Region.binds .any e=true->Ah.getD e.on false=true)->Ah.size=ops.size->(∀j,Ah.getD j false=true↔j∈dn)->
   nk ops tl hd l Ah=true->Gg T Γ ops l st=some st1->Rel X st a w->wpAny P .any ops Q (l.length+n) Ah a w
 | [],dn,Ah,st,a,w,hm,_,hc,aE,hdn,hf,he,hr=>by
  simp only [Gg,Aa] at he
  rw [Eo,Cb]
  exact gy Ah st a w hc aE (by simpa [nk] using hf) he hr λj=>by rw [hdn j,hm j];simp
 |k::l,dn,Ah,st,a,w,hm,hl,hc,aE,hdn,hf,he,hr=>by
  simp only [nk,Ag] at hf
  obtain ⟨⟨h1,h2⟩,h3⟩:=hf
  obtain ⟨o,t,ho,rW,hg⟩:=hl k (by simp)
  have vK:k∈Region.ready .any ops Ah:=by simpa using h1
  obtain ⟨_,o',ho',Jh⟩:=mem_ready.1 vK
  have ho2:o'=o:=Az (ho'.symm.trans ho)
  subst ho2
  have hks:k<Ah.size:=by rw [aE];exact (Np.1 ho).1
  simp only [Gg,ho] at he
  have hv:Xh T Γ ops st o'=some (st.get t):=by simp only [Xh,hg,Xk,Fh,rW];rfl
  rw [hv] at he
  rw [Aw,show l.length+1+n=(l.length+n)+1 by omega]
  refine wpAny_take ho bO h2 h1 (λc a w hq=>absurd hq (hQ c _ w)) (nm rW hg) ?_
  obtain ⟨π,hr⟩:=hr
  refine gN hQ bO gy l (k::dn) _ _ _ _ (λj=>by rw [hm j,Bg,Bg];exact ⟨λh=>h.elim (λh=> .inl (.inr h)) (λh=>h.elim (λh=> .inl (.inl h)) .inr),λh=>h.elim (λh=>h.elim (λh=> .inr (.inl h)) .inl) (λh=> .inr (.inr h))⟩) (λi hi=>hl i (by simp [hi])) ?_ (by simp [aE]) (λj=>?_) h3 he ⟨π,hr.put o'.dst (hr.2.tmps t)⟩
  ·intro j oj hj hlj e hem hb
   by_cases WC:k=j
   ·subst WC
    have:oj=o':=Az (hj.symm.trans ho)
    subst this
    exact getD_set_true (Jh e hem hb)
   ·rw [getD_set_ne false WC] at hlj
    exact getD_set_true (hc j oj hj hlj e hem hb)
  ·by_cases WC:k=j
   ·subst WC
    refine ⟨λ_=>by simp,λ_=>?_⟩
    simp [hks]
   ·rw [getD_set_ne false WC,hdn j]
    simp [Hr WC]
theorem gr {ops:Array Oper} : ∀(a b:List Nat) (st st':St),Gg T Γ ops (a++b) st=some st'-> ∃s,Gg T Γ ops a st=some s/\Gg T Γ ops b s=some st'
 | [],b,st,st',h=>⟨st,rfl,h⟩
 |i::a,b,st,st',h=>by
  simp only [Ti,Gg] at h⊢
  split at h
  ·cases h
  ·split at h
   ·exact gr a b _ st' h
   ·cases h
theorem oT (hT:Eb P T) (Pk:Lj P Γ) (hm:P.follows .mixedOrders=true) {Q:Exit->Act->World->Prop} {id:Nat} {draw:Bool} {st st':St} {a:Act} (h:Rel X st a w)
  (he:Si T Γ ops draw st=some st') (hQ: ∀a' w',Rel X st' a' w'->Q .normal a' w'):(Code.region id ops draw).wp P Q a w:=by
 unfold Si at he
 cases draw with
 |false=>
  rw [Ai (by simp)] at he
  exact wp_region_list (kL hT Pk ops.toList st st' a w h he hQ)
 |true=>
  rw [Ab rfl] at he
  have go: ∀(q:Bool),cP q Γ ops=true->(match Gg T Γ ops (jQ q Γ ops) st with
    |some st'=>Nh T Γ ops (Kd q Γ ops) st'
    |none=>none)=some st'->(Code.region id ops true).wp P Q a w:=by
   intro q bM he
   split at he
   ·rename_i st1 h1
    simp only [cP,Ag,beq_iff_eq] at bM
    obtain ⟨⟨⟨bO,hlen⟩,Ahb⟩,Amf⟩:=bM
    refine wp_mono (Q:= λe a w=>e= .normal/\Q .normal a w) ?_ λe a w h=>h.1▸h.2
    refine wp_region_any hm ?_
    have hrel:Rel X st a {w with drawn:=w.drawn+1} :=by
     obtain ⟨π,h⟩:=h
     exact ⟨π,h.quiet ⟨rfl,rfl,rfl,Ap _,λ_ _=>rfl⟩⟩
    obtain ⟨s0,h0,h1⟩:=gr _ _ _ _ h1
    have gR: ∀i,i∈cK q Γ ops->i<ops.size:= λi hi=>Es.1 (Bs.1 hi).1
    have aE: ∀i,i∈Wk q Γ ops->i<ops.size:= λi hi=>gR i (Bs.1 hi).1
    have Jh: ∀j,j<ops.size->j∈Wg q Γ ops\/j∈Wk q Γ ops\/j∈Kd q Γ ops:= λj hj=>by
     by_cases ht:j∈Kd q Γ ops
     ·exact .inr (.inr ht)
     ·have hh:j∈cK q Γ ops:=Bs.2 ⟨Es.2 hj,by simpa using ht⟩
      cases hfl:nA ops (cK q Γ ops) (Kd q Γ ops) j with
      |true=>exact .inl (Bs.2 ⟨hh,hfl⟩)
      |false=>exact .inr (.inl (Bs.2 ⟨hh,by rw [hfl];rfl⟩))
    have Afj: ∀j,j∈cK q Γ ops->j∉Kd q Γ ops:= λj hj=>by
     have:=(Bs.1 hj).2
     simpa using this
    have DO: ∀j,j∈Wk q Γ ops->j∉Kd q Γ ops:= λj hj=>Afj j (Bs.1 hj).1
    have Al8: ∀j,j∈Wg q Γ ops->j∉Kd q Γ ops:= λj hj=>Afj j (Bs.1 hj).1
    have htl: ∀t,t∈Kd q Γ ops->t<ops.size:=by
     intro t ht
     unfold Kd at ht
     have: ∀(l:List Nat) (acc:List Nat),(∀i,i∈acc->i<ops.size)->(∀i,i∈l->i<ops.size)-> ∀i,i∈l.foldl (init:=acc) (λacc i=>match ops[i]? with
       |some o=>if ZN q Γ o||o.after.any (λe=>Region.binds .any e&&acc.contains e.on) then acc++ [i] else acc
       |none=>acc)->i<ops.size:=by
      intro l
      induction l with
      |nil=>intro acc h1 _ i hi;exact h1 i hi
      |cons x l ih=>
       intro acc h1 h2 i hi
       simp only [Df] at hi
       refine ih _ ?_ (λi hi=>h2 i (by simp [hi])) i hi
       intro k hk
       split at hk
       ·split at hk
        ·rcases Ay.1 hk with hk|hk
         ·exact h1 k hk
         ·simp at hk;rw [hk];exact h2 x (by simp)
        ·exact h1 k hk
       ·exact h1 k hk
     exact this (List.range ops.size) [] (by simp) (λi hi=>Es.1 hi) t ht
    rw [<-hlen]
    refine gN (q:=q) (X:=X) (T:=T) (Γ:=Γ) (tl:=Kd q Γ ops) (hd:=Wk q Γ ops) (st1:=s0) (λc a w hq=>by cases hq.1) bO ?_ (Wg q Γ ops) [] _ st a _ (λj=>by simp)
     (λi hi=>yZ (Bs.1 hi).2) (λj oj _ hl=>(by rw [hlen,getD_replicate_false] at hl;cases hl)) (by simp [hlen]) (λj=>by rw [hlen,getD_replicate_false];simp) (by rw [hlen];exact Ahb) h0 hrel
    intro Ah s a' w' hc pa Alh hs hr hfl
    subst hs
    have At1:Zp ops (Kd q Γ ops) (Wg q Γ ops) Ah:=
     ⟨pa,λi hi=>(hfl i).2 hi,hc,λt ht=>getD_in (by rw [pa];exact htl t ht) (by
      cases hg:Ah.getD t false with
      |false=>rfl
      |true=>exact absurd ht (Al8 t ((hfl t).1 hg)))⟩
    have HA:=BO (T:=T) (Γ:=Γ) bO Amf aE Jh DO st1 (Wk q Γ ops) _ s (λi hi=>hi) At1 Alh h1
    exact lz (X:=X) (P:=P) (Q:= λe a w=>e= .normal/\Q .normal a w) (g:=(Kd q Γ ops).length) hT Pk (λAh s a' w' hL hr=>by
     obtain ⟨As9,rfl⟩:=hL
     exact dG (λe a w h=>h.1) bO (Kd q Γ ops) Ah a' w' As9 (kH hT Pk _ _ st' a' w' hr he λa w h=>⟨rfl,hQ a w h⟩)) _ _ _ _ _ HA hr
   ·cases he
  split at he
  ·rename_i bM;exact go false bM he
  ·split at he
   ·rename_i bM;exact go true bM he
   ·cases he
theorem dx (q:Bool): ∀(l:List Nat) (Ah:Array Bool),(Kc q ops l Ah).length<=l.length
 | [],_=>Ap _
 |i::r,Ah=>by
  simp only [Kc]
  split
  ·simp only [Aw];have:=dx q r (Ah.setIfInBounds i true);omega
  ·simp only [Aw];have:=dx q r Ah;omega
theorem GD (hT:Eb P T) {st:St} {a:Act} (h:Bh X π st a w) {i:Nat} {o:Oper} (ho:ops[i]?=some o) (hp:jU ops i=true) {v:AV} (hv:Xh T Γ ops st o=some v):
  ∃u,Yields P ops o u a/\Bm X w π st.heap v u:=by
 unfold jU at hp
 rw [ho] at hp
 simp only at hp
 obtain ⟨dst,op,ty,pos,af,gd⟩:=o
 split at hp
 ·rename_i t h3 h4
  simp only at h3 h4;subst h3;subst h4
  refine ⟨a.tmps.getD t undef,nm rfl rfl,?_⟩
  simp only [Xh,Xk,Fh,Aa] at hv
  subst hv
  exact h.2.tmps t
 ·rename_i x h3 h4
  simp only at h3 h4;subst h3;subst h4
  have e:=Dq h.2 x
  have fin:(∃ad,a.eval x= .pointer (some ad))->Yields P ops ⟨dst, .nilCheck x,ty,pos,af,none⟩ (a.eval x) a:= λ⟨ad,hx⟩=>
   .inl ⟨by simp [Region.wanted],λw=>by simp [execOp,hx]⟩
  simp only [Xh,Xk,Fh] at hv
  split at hv
  ·rename_i fr τ y hx
   simp only [Aa] at hv;subst hv
   rw [hx] at e
   have e':=e
   obtain ⟨cs,hc,hv⟩:=e
   simp only [Cells] at hc
   obtain ⟨g,o,rfl,_⟩:=hc
   simp only [By,Ty.Aq,Cz,Ry,ib] at hv
   exact ⟨_,fin ⟨_,hv⟩,e'⟩
  ·rename_i fr τ y hx
   simp only [Aa] at hv;subst hv
   rw [hx] at e
   obtain ⟨cs,hc,hv⟩:=e
   simp only [Cells] at hc
   rcases hc with ⟨h0,_⟩|⟨y',g,o,h0,rfl,hr⟩
   ·cases h0
   simp only [Aa] at h0;subst h0
   simp only [By,Ty.Aq,Cz,Ry,ib] at hv
   exact ⟨_,fin ⟨_,hv⟩,[_],⟨g,o,rfl,hr⟩,by rw [hv];simp [By,Ty.Aq]⟩
  ·rename_i l i hx
   simp only [Aa] at hv;subst hv
   rw [hx] at e
   have e':=e
   obtain ⟨r,tid,vs,_,_,hv⟩:=e
   exact ⟨_,fin ⟨_,hv⟩,e'⟩
  ·rename_i l i hx
   simp only [Aa] at hv;subst hv
   rw [hx] at e
   have e':=e
   obtain ⟨r,b,sz,n,_,_,_,_,hv⟩:=e
   exact ⟨_,fin ⟨_,hv⟩,e'⟩
  ·cases hv
 ·rename_i s x f h3 h4
  simp only at h3 h4;subst h3;subst h4
  simp only [Xh,Xk,Fh] at hv
  obtain ⟨u,h1,h2⟩:=cF hT (st:=st) _ _ _ _ v (Dq h.2 x) hv
  refine ⟨u, .inl ⟨by simp [Region.wanted],λw=>?_⟩,h2⟩
  have:=h1 w
  simp only [execOp,Sem.run_bind]
  first
   |(rw [this];rfl)
   |simp [this]
 ·cases hp
theorem zD {i:Nat} (h:z0 ops i=true):jU ops i=true:=by
 unfold z0 at h
 unfold jU
 split at h
 ·rename_i o ho
  split at h
  ·rename_i h1 h2
   simp only [h1,h2]
  ·cases h
 ·cases h
theorem cm (hT:Eb P T) (q:Bool) {Q:Exit->Act->World->Prop} (hQ: ∀c a w,¬Q (.panic c) a w) (bO:Region.noSelect ops=true) {n:Nat} {st1:St} :
  ∀(l:List Nat) (Ah:Array Bool) (st:St) (a:Act) (w:World),Gg T Γ ops (Kc q ops l Ah) st=some st1->Rel X st a w->
   (∀a w,Rel X st1 a w->wpAny P .any ops Q n (Ek (Kc q ops l Ah) Ah) a w)->wpAny P .any ops Q ((Kc q ops l Ah).length+n) Ah a w
 | [],Ah,st,a,w,he,hr,hK=>by
  simp only [Kc,Gg,Aa] at he
  subst he
  simp only [Kc,Eo,Cb]
  exact hK a w hr
 |k::l,Ah,st,a,w,he,hr,hK=>by
  simp only [Kc] at he hK⊢
  split
  ·rename_i hc
   rw [Ab hc] at he hK
   simp only [Ag] at hc
   obtain ⟨h0,h1,h2⟩:=hc
   have hp:jU ops k=true:=by
    cases q with
    |true=>exact h0
    |false=>exact zD h0
   simp only [Gg] at he
   split at he
   ·cases he
   rename_i o ho
   split at he
   rotate_left
   ·cases he
   rename_i v hv
   obtain ⟨π,hr⟩:=hr
   obtain ⟨u,hy,hu⟩:=GD (Γ:=Γ) hT hr ho hp hv
   rw [Aw,show (Kc q ops l (Ah.setIfInBounds k true)).length+1+n=((Kc q ops l (Ah.setIfInBounds k true)).length+n)+1 by omega]
   refine wpAny_take ho bO h2 h1 (λc a w hq=>absurd hq (hQ c _ w)) hy ?_
   exact cm hT q hQ bO l _ _ _ _ he ⟨π,hr.put o.dst hu⟩ hK
  ·rename_i hc
   rw [Ai hc] at he hK
   exact cm hT q hQ bO l Ah st a w he hr hK
theorem lA (hT:Eb P T) (Pk:Lj P Γ) {Q:Exit->Act->World->Prop} {K:St->Prop} (hK: ∀st a w,K st->Rel X st a w->Q .normal a w):
  ∀(f:Nat) (Ah:Array Bool) (st:St) (a:Act) (w:World),anyS T Γ ops K f Ah st->Rel X st a w->wpAny P .any ops Q f Ah a w
 |0,Ah,st,a,w,h,hr=>⟨h.1,hK _ _ _ h.2 hr⟩
 |f+1,Ah,st,a,w,h,hr=>by
  refine ⟨λh0=>absurd h0 h.1,λi hi=>?_⟩
  obtain ⟨o,st',ho,he,gy⟩:=h.2 i hi
  obtain ⟨π,hr⟩:=hr
  unfold wpOp
  simp only [ho]
  exact Wf hT Pk hr o he λa' w' h'=>lA hT Pk hK f _ _ _ _ gy h'
def Ul (ops:Array Oper) (Ah:Array Bool):Prop:= ∀k a,Ah.getD k false=true->Region.waitsFor .any ops k a=true->Ah.getD a false=true
theorem cR {Ah:Array Bool} {i a:Nat} (h:i∈Region.ready .any ops Ah) (hw:Region.waitsFor .any ops i a=true):Ah.getD a false=true:=by
 obtain ⟨_,o,ho,Jh⟩:=mem_ready.1 h
 obtain ⟨o',ho',e,he,hb,rfl⟩:=Region.waitsFor_spec hw
 rw [ho] at ho'
 cases ho'
 exact Jh e he hb
theorem Ul.set {Ah:Array Bool} (hc:Ul ops Ah) {i:Nat} (hi:i∈Region.ready .any ops Ah):Ul ops (Ah.setIfInBounds i true):= λk a hk hw=>by
 by_cases hik:i=k
 ·subst hik
  exact getD_set_true (cR hi hw)
 ·rw [getD_set_ne false hik] at hk
  exact getD_set_true (hc k a hk hw)
theorem pW:Ul ops (Array.replicate ops.size false):= λk a hk _=>by
 rw [getD_replicate_false] at hk
 cases hk
theorem aN (q:Bool): ∀(l:List Nat) (Ah:Array Bool),Ul ops Ah->Ul ops (Ek (Kc q ops l Ah) Ah)
 | [],Ah,h=>h
 |i::r,Ah,h=>by
  simp only [Kc]
  split
  ·rename_i hc
   rw [Ag,Ag] at hc
   have hi:i∈Region.ready .any ops Ah:=by simpa using hc.2.1
   exact aN q r _ (h.set hi)
  ·exact aN q r Ah h
theorem Wn: ∀(l:List Nat) (Ah:Array Bool),(Ek l Ah).size=Ah.size
 | [],_=>rfl
 |i::r,Ah=>by simp only [Ek];rw [Wn r];simp
theorem fu: ∀(l:List Nat) (Ah:Array Bool) (k:Nat),k∈l->k<Ah.size->(Ek l Ah).getD k false=true
 |i::r,Ah,k,h,hk=>by
  simp only [Ek]
  by_cases hr:k∈r
  ·exact fu r _ k hr (by simpa using hk)
  ·have:k=i:=(Bg.1 h).resolve_right hr
   subst this
   have hs: ∀(l:List Nat) (A:Array Bool),A.getD k false=true->(Ek l A).getD k false=true:=by
    intro l
    induction l with
    |nil=>exact λA h=>h
    |cons j l ih=>exact λA h=>ih _ (getD_set_true h)
   exact hs r _ (by simp [hk])
theorem dv: ∀(l:List Nat) (Ah:Array Bool) (k:Nat),k∉l->(Ek l Ah).getD k false=Ah.getD k false
 | [],_,_,_=>rfl
 |i::r,Ah,k,h=>by
  simp only [Ek]
  rw [dv r _ k λhk=>h (Ao _ hk),getD_set_ne false (λe=>h (by rw [e];simp))]
def Mq (E:List Nat) (Ah:Array Bool):List Nat:=E.filter λr=>!Ah.getD r false
def dj (ops:Array Oper) (r:Nat):Option Tmp:=(ops[r]?).bind (·.dst)
def kG (ops:Array Oper) (Q:List Nat):List Nat:=Q.filterMap (dj ops)
def Sl (ops:Array Oper):List Nat->St->St
 | [],st=>st
 |r::Q,st=>(Sl ops Q st).put (dj ops r) .undef
def RD (ops:Array Oper):List Nat->Act->Act->Prop
 | [],a,a'=>a'=a
 |r::Q,a,a'=> ∃u,RD ops Q (a.put (dj ops r) u) a'
theorem Abi {H:List (Nat×OB)} {v:Value} :Bm X w π H .undef v:=trivial
theorem iO (s:St) (d:Option Tmp) (v:AV) (t:Nat):(d=some t->(s.put d v).get t=v\/(s.put d v).get t= .undef)/\(d≠some t->(s.put d v).get t=s.get t):=by
 cases d with
 |none=>exact ⟨λh=>(by cases h),λ_=>rfl⟩
 |some e=>
  have key:(s.put (some e) v).get t=if e=t/\t<s.tmps.length then v else s.get t:=Rg _ _ _ _ _
  refine ⟨λh=>?_,λh=>?_⟩
  ·cases h
   rw [key]
   by_cases hl:t<s.tmps.length
   ·rw [Ab ⟨rfl,hl⟩];exact .inl rfl
   ·rw [Ai (λh=>hl h.2)]
    exact .inr (by unfold St.get;rw [Aj,Dw (by omega)];rfl)
  ·rw [key,Ai]
   rintro ⟨rfl,_⟩
   exact h rfl
theorem kb (s:St) (d:Option Tmp) (v:AV):(s.put d v).heap=s.heap:=by cases d<;>rfl
theorem nR (s:St) (d:Option Tmp) (v:AV):(s.put d v).tmps.length=s.tmps.length:=by
 cases d with
 |none=>rfl
 |some d=>exact a9 _ _ _
theorem Rc: ∀(Q:List Nat) (st:St),(Sl ops Q st).heap=st.heap
 | [],_=>rfl
 |r::Q,st=>by simp only [Sl];rw [kb,Rc Q]
theorem Wp: ∀(Q:List Nat) (st:St),(Sl ops Q st).tmps.length=st.tmps.length
 | [],_=>rfl
 |r::Q,st=>by simp only [Sl];rw [nR,Wp Q]
theorem Me {Q:List Nat} {t:Nat} :t∈kG ops Q↔ ∃r∈Q,dj ops r=some t:=List.mem_filterMap
theorem Sm: ∀(Q:List Nat) (st:St) (t:Nat),(t∈kG ops Q->(Sl ops Q st).get t= .undef)/\(t∉kG ops Q->(Sl ops Q st).get t=st.get t)
 | [],st,t=>⟨λh=>by simp [kG] at h,λ_=>rfl⟩
 |r::Q,st,t=>by
  obtain ⟨h1,h2⟩:=Sm Q st t
  obtain ⟨g1,g2⟩:=iO (Sl ops Q st) (dj ops r) .undef t
  simp only [Sl]
  by_cases hd:dj ops r=some t
  ·refine ⟨λ_=>(g1 hd).elim id id,λh=>absurd (Me.2 ⟨r,Fm ..,hd⟩) h⟩
  ·refine ⟨λh=>?_,λh=>?_⟩
   ·rw [g2 hd]
    obtain ⟨q,hq,he⟩:=Me.1 h
    rcases Bg.1 hq with rfl|hq
    ·exact absurd he hd
    ·exact h1 (Me.2 ⟨q,hq,he⟩)
   ·rw [g2 hd]
    exact h2 λhm=>by
     obtain ⟨q,hq,he⟩:=Me.1 hm
     exact h (Me.2 ⟨q,Ao _ hq,he⟩)
theorem uh {st s:St} {a:Act} (h:Bh X π st a w) (hh:s.heap=st.heap) (hl:s.tmps.length=st.tmps.length) (hg: ∀t,s.get t=st.get t\/s.get t= .undef):Bh X π s a w:=by
 refine ⟨by rw [hh];exact h.1,⟨by rw [hl];exact h.2.size,h.2.defers,λt=>?_⟩⟩
 rw [hh]
 rcases hg t with e|e
 ·rw [e];exact h.2.tmps t
 ·rw [e];exact Abi
theorem HE {st s:St} {o:Oper} (hh:s.heap=st.heap) (hg: ∀t,t∈o.looksAt ops->s.get t=st.get t):Xh T Γ ops s o=Xh T Γ ops st o:=by
 obtain ⟨ts,H⟩:=s
 obtain ⟨ts',H'⟩:=st
 simp only at hh
 subst hh
 exact ya hg
theorem qB (hT:Eb P T) (Pk:Lj P Γ) {st:St} {a:Act} (h:Bh X π st a w) {i:Nat} {o:Oper} (ho:ops[i]?=some o) (hp:jV ops i=true) {v:AV} (hv:Xh T Γ ops st o=some v):
  ∃u,(∀(Q:Exit->Act->World->Prop) (K:Act->World->Prop),K (a.put o.dst u) w->wpOp P ops Q i K a w)/\Bm X w π st.heap v u:=by
 unfold jV at hp
 rw [ho] at hp
 simp only at hp
 have hgd:o.guard=none:=by
  obtain ⟨dst,op,ty,pos,af,gd⟩:=o
  cases gd with
  |none=>rfl
  |some g=>split at hp<;>first|rfl|(rename_i h4;cases h4)|cases hp
 have hb:Xk T Γ st o=some v:=by
  unfold Xh at hv
  rw [hgd] at hv
  exact hv
 have hw:Region.wanted o (yielded ops a.tmps)=true:=by simp [Region.wanted,hgd]
 have fin: ∀s:Sem Value,execOp a.eval o=(do pure (.value (<-s)))->Fh T Γ st o=some v-> ∃u,(∀(Q:Exit->Act->World->Prop) (K:Act->World->Prop),K (a.put o.dst u) w->wpOp P ops Q i K a w)/\Bm X w π st.heap v u:=by
  intro s he hq
  have hg:=iF hT Pk h o v hq
  rw [he,Sem.run_bind] at hg
  cases hr:s.run P w with
  |ok u w'=>
   rw [hr] at hg
   obtain ⟨e,hu⟩:=(show w'=w/\Bm X w π st.heap v u from hg)
   subst e
   refine ⟨u,λQ K hK=>?_,hu⟩
   unfold wpOp
   simp only [ho]
   rw [Ab hw]
   refine .inl ?_
   unfold Oper.wp
   rw [he,Sem.run_bind,hr]
   exact hK
  |halt x w'=>rw [hr] at hg;exact hg.elim
 obtain ⟨dst,op,ty,pos,af,gd⟩:=o
 simp only at hgd
 subst hgd
 split at hp
 ·rename_i x h3 h4
  simp only at h3;subst h3
  exact fin (pure (a.eval x)) (by simp [execOp]) hb
 ·rename_i x h3 h4
  simp only at h3;subst h3
  exact fin _ rfl hb
 ·rename_i x h3 h4
  simp only at h3;subst h3
  exact fin _ rfl hb
 ·rename_i x h3 h4
  simp only at h3;subst h3
  exact fin _ rfl hb
 ·cases hp
theorem VT {j:Nat} {oi oj:Oper} {v:Value} (hj:ops[j]?=some oj) (hap:oi.apart ops oj=true) (hsj: ∀cs b,oj.op≠ .select cs b)
  {Q:Exit->Act->World->Prop} (hQ: ∀c a w,¬Q (.panic c) a w) {K:Act->World->Prop} {a:Act} {w:World} (h:wpOp P ops Q j K (a.put oi.dst v) w):
  wpOp P ops Q j (λa' w'=>K (a'.put oi.dst v) w') a w:=by
 obtain ⟨h1,h2,h3⟩:=Oper.apart_spec hap
 unfold wpOp at*
 simp only [hj] at*
 rw [wanted_put oj a oi.dst v h1] at h
 split
 ·rename_i hw
  simp only [hw,Py] at h
  rcases h with h|⟨Afc,Alk⟩
  case inr=>exact .inr ⟨by unfold Oper.asks at*;rw [execOp_put oj hsj a oi.dst v h1] at Afc;exact Afc,Alk⟩
  refine .inl ?_
  unfold Oper.wp at*
  rw [execOp_put oj hsj a oi.dst v h1] at h
  generalize (execOp a.eval oj).run P w=r at*
  cases r with
  |ok n w'=>
   cases n<;>simp only [Oper.upon] at h⊢
   case value u=>rw [<-Act.put_comm a v u h2];exact h
   case skip=>rw [<-Act.put_comm a v undef h2];exact h
   case defer d=>
    rw [<-Act.put_comm _ v undef h2,<-Act.put_defers]
    exact h
   case enter f args=>
    refine Calls.mono h λe qQ he=>?_
    cases e with
    |returned u=>show K ((a.put oj.dst u).put oi.dst v) qQ;rw [<-Act.put_comm a v u h2];exact he
    |panicked c=>exact absurd he (hQ _ _ _)
    |outgrown=>exact he
   case row row args=>exact Rows.mono h λu qQ he=>by rw [<-Act.put_comm a v u h2];exact he
  |halt x w'=>
   cases x<;>simp only [Oper.upon] at h⊢
   case panic u=>exact absurd h (hQ _ _ _)
 ·rename_i hw
  simp only [hw] at h
  rw [<-Act.put_comm a v undef h2];exact h
theorem xH: ∀ {Q:List Nat} {a a':Act},RD ops Q a a'->a'.defers=a.defers/\a'.tmps.size=a.tmps.size/\ ∀t,t∉kG ops Q->a'.tmps.getD t undef=a.tmps.getD t undef
 | [],a,a',h=>by cases h;exact ⟨rfl,rfl,λ_ _=>rfl⟩
 |r::Q,a,a',⟨u,h⟩=>by
  obtain ⟨h1,h2,h3⟩:=xH h
  have hp:(a.put (dj ops r) u).defers=a.defers/\(a.put (dj ops r) u).tmps.size=a.tmps.size:=by cases dj ops r<;>simp [Act.put]
  refine ⟨h1.trans hp.1,h2.trans hp.2,λt ht=>?_⟩
  have hn:dj ops r≠some t:= λe=>ht (Me.2 ⟨r,Fm ..,e⟩)
  rw [h3 t λhm=>ht (by obtain ⟨q,hq,he⟩:=Me.1 hm;exact Me.2 ⟨q,Ao _ hq,he⟩)]
  cases hd:dj ops r with
  |none=>rfl
  |some d=>
   have Jl:d≠t:= λe=>hn (by rw [hd,e])
   simp [Act.put,Array.getElem?_setIfInBounds_ne Jl]
theorem Aaj {Q:List Nat} {st:St} {a a':Act} (hp:RD ops Q a a') (h:Bh X π st a' w):Bh X π (Sl ops Q st) a w:=by
 obtain ⟨h1,h2,h3⟩:=xH hp
 refine ⟨by rw [Rc];exact h.1,⟨by rw [Wp,<-h2];exact h.2.size,by rw [<-h1];exact h.2.defers,λt=>?_⟩⟩
 rw [Rc]
 by_cases ht:t∈kG ops Q
 ·rw [(Sm Q st t).1 ht];exact Abi
 ·rw [(Sm Q st t).2 ht,<-h3 t ht];exact h.2.tmps t
theorem yc {j:Nat} {oj:Oper} (hj:ops[j]?=some oj) (hsj: ∀cs b,oj.op≠ .select cs b) {Q:Exit->Act->World->Prop} (hQ: ∀c a w,¬Q (.panic c) a w) {K:Act->World->Prop} :
  ∀(L:List Nat) (a a':Act) (w:World),(∀r∈L,∃o,ops[r]?=some o/\o.apart ops oj=true)->RD ops L a a'->wpOp P ops Q j K a' w->wpOp P ops Q j (λa2 w2=> ∃a3,RD ops L a2 a3/\K a3 w2) a w
 | [],a,a',w,_,hp,h=>by cases hp;exact wpOp_mono (λa2 w2 hk=>⟨a2,rfl,hk⟩) h
 |r::L,a,a',w,hap,⟨u,hp⟩,h=>by
  obtain ⟨o,ho,ha⟩:=hap r (Fm ..)
  have hd:dj ops r=o.dst:=by unfold dj;rw [ho];rfl
  rw [hd] at hp
  have ih:=yc hj hsj hQ L _ a' w (λq hq=>hap q (Ao _ hq)) hp h
  exact wpOp_mono (λa2 w2 ⟨a3,h1,h2⟩=>⟨a3,⟨u,by rw [hd];exact h1⟩,h2⟩) (VT hj ha hsj hQ ih)
def IF (ops:Array Oper):List Nat->Prop
 | []=>True
 |r::L=>(∀q∈r::L,∀o d,ops[r]?=some o->dj ops q=some d->d∉o.looksAt ops)/\(∀q∈L,∀d,dj ops r=some d->dj ops q≠some d)/\IF ops L
def wS (ops:Array Oper):List Nat->Prop
 | []=>True
 |r::L=>(∀q∈L,Region.waitsFor .any ops q r=true\/ ∀o d,ops[q]?=some o->dj ops r=some d->d∉o.looksAt ops)/\wS ops L
theorem IF.filter {p:Nat->Bool} : ∀ {L:List Nat},IF ops L->IF ops (L.filter p)
 | [],_=>trivial
 |r::L,⟨h1,h2,h3⟩=>by
  rw [List.filter_cons]
  split
  ·exact ⟨λq hq=>h1 q (by rcases Bg.1 hq with rfl|hq;exact Fm ..;exact Ao _ (Bs.1 hq).1),λq hq=>h2 q (Bs.1 hq).1,h3.filter⟩
  ·exact h3.filter
theorem wS.filter {p:Nat->Bool} : ∀ {L:List Nat},wS ops L->wS ops (L.filter p)
 | [],_=>trivial
 |r::L,⟨h1,h3⟩=>by
  rw [List.filter_cons]
  split
  ·exact ⟨λq hq=>h1 q (Bs.1 hq).1,h3.filter⟩
  ·exact h3.filter
theorem ag {i j:Nat} {p:Oper->Oper->Bool} (h:pN ops i j p=true): ∃x y,ops[i]?=some x/\ops[j]?=some y/\p x y=true:=by
 unfold pN at h
 split at h
 ·rename_i x y h1 h2;exact ⟨x,y,h1,h2,h⟩
 ·cases h
theorem ga {x y:Oper} (h:oz ops x y=true): ∀d,x.dst=some d->d∉y.looksAt ops:= λd hd=>by
 unfold oz at h
 rw [hd] at h
 simpa using h
theorem CW {x y:Oper} (h:JF x y=true): ∀d,x.dst=some d->y.dst≠some d:= λd hd=>by
 unfold JF at h
 rw [hd] at h
 simpa using h
theorem cE {r:Nat} {o:Oper} (h:ops[r]?=some o):dj ops r=o.dst:=by unfold dj;rw [h];rfl
theorem qw: ∀ {E:List Nat},zz ops E=true->IF ops E/\wS ops E
 | [],_=>⟨trivial,trivial⟩
 |r::E,h=>by
  simp only [zz,Ag,Bb] at h
  obtain ⟨⟨h1,h2⟩,h3⟩:=h
  obtain ⟨g1,g2⟩:=qw h3
  refine ⟨⟨λq hq o d ho hd=>?_,λq hq d hd=>?_,g1⟩,λq hq=>?_,g2⟩
  ·rcases Bg.1 hq with rfl|hq
   ·obtain ⟨x,y,hx,hy,hp⟩:=ag h1
    rw [ho] at hx hy;cases hx;cases hy
    rw [cE ho] at hd
    exact ga hp d hd
   ·obtain ⟨x,y,hx,hy,hp⟩:=ag (h2 q hq).1
    rw [ho] at hx;cases hx
    rw [cE hy] at hd
    exact ga (Bi.1 hp).2 d hd
  ·obtain ⟨x,y,hx,hy,hp⟩:=ag (h2 q hq).1
   rw [cE hx] at hd
   rw [cE hy]
   exact CW (Bi.1 hp).1 d hd
  ·have h4:=(h2 q hq).2
   rw [Mi] at h4
   rcases h4 with h4|h4
   ·exact .inl h4
   ·refine .inr λo d ho hd=>?_
    obtain ⟨x,y,hx,hy,hp⟩:=ag h4
    rw [ho] at hy;cases hy
    rw [cE hx] at hd
    exact ga hp d hd
theorem Aez (hT:Eb P T) (Pk:Lj P Γ) {st:St} : ∀(L:List Nat) (a:Act),(∀r∈L,jV ops r=true/\ ∃o v,ops[r]?=some o/\Xh T Γ ops st o=some v/\ ∀d,o.dst=some d->st.get d=v)->IF ops L->
  Bh X π (Sl ops L st) a w-> ∃a',RD ops L a a'/\Bh X π st a' w
 | [],a,_,_,h=>⟨a,rfl,h⟩
 |r::L,a,hs,⟨f1,f2,f3⟩,h=>by
  obtain ⟨hr,o,v,ho,hv,hd⟩:=hs r (Fm ..)
  have hdo:=cE ho
  have yU:Xh T Γ ops (Sl ops (r::L) st) o=some v:=by
   rw [HE (st:=st) (Rc _ _) λt ht=>(Sm _ _ _).2 λhm=>by
    obtain ⟨q,hq,he⟩:=Me.1 hm
    exact f1 q hq o t ho he ht]
   exact hv
  obtain ⟨u,_,hu⟩:=qB hT Pk h ho hr yU
  have h2:=h.put o.dst hu
  have h3:Bh X π (Sl ops L st) (a.put o.dst u) w:=by
   refine uh h2 ?_ ?_ λt=>?_
   ·rw [kb,Rc,Rc]
   ·rw [nR,Wp,Wp]
   ·obtain ⟨g1,g2⟩:=iO (Sl ops (r::L) st) o.dst v t
    by_cases he:o.dst=some t
    ·have BI:t∉kG ops L:= λhm=>by
      obtain ⟨q,hq,YL⟩:=Me.1 hm
      exact f2 q hq t (by rw [hdo];exact he) YL
     rw [(Sm L st t).2 BI,hd t he]
     rcases g1 he with g|g
     ·exact .inl g.symm
     ·by_cases hl:t<st.tmps.length
      ·refine .inl ?_
       rw [he]
       show v=((Tg (Sl ops (r::L) st).tmps t v).getD t .undef)
       rw [Rg,Ab ⟨rfl,by rw [Wp];exact hl⟩]
      ·refine .inr ?_
       rw [<-hd t he]
       unfold St.get
       rw [Aj,Dw (by omega)]
       rfl
    ·rw [g2 he]
     have:(Sl ops (r::L) st).get t=(Sl ops L st).get t:=(iO (Sl ops L st) (dj ops r) .undef t).2 (by rw [hdo];exact he)
     exact .inl this.symm
  obtain ⟨a',hp,gS⟩:=Aez hT Pk L _ (λq hq=>hs q (Ao _ hq)) f3 h3
  exact ⟨a',⟨u,by rw [hdo];exact hp⟩,gS⟩
theorem XH: ∀ {L:List Nat},IF ops L->wS ops L-> ∀ {i:Nat} {o:Oper},i∈L->ops[i]?=some o->(∀q∈L,Region.waitsFor .any ops i q=true->False)-> ∀q∈L,∀d,dj ops q=some d->d∉o.looksAt ops
 | [],_,_,i,_,hi,_,_=>by cases hi
 |r::L,⟨f1,f2,f3⟩,⟨b1,b2⟩,i,o,hi,ho,hw=> λq hq d hd=>by
  by_cases hir:i=r
  ·subst hir
   exact f1 q hq o d ho hd
  ·have mG:=(Bg.1 hi).resolve_left hir
   rcases Bg.1 hq with rfl|kW
   ·rcases b1 i mG with h|h
    ·exact (hw q hq h).elim
    ·exact h o d ho hd
   ·exact XH f3 b2 mG ho (λq hq=>hw q (Ao _ hq)) q kW d hd
theorem q6 {Ah:Array Bool} (aE:Ah.size=ops.size): ∀ {E:List Nat} {L:Array Bool} {r:Nat} {Q:List Nat},je ops E L=true->(∀j,L.getD j false=true->Ah.getD j false=true)->Mq E Ah=r::Q->r∈Region.ready .any ops Ah
 | [],_,_,_,_,_,h=>by simp [Mq] at h
 |e::E,L,r,Q,hr,hl,hp=>by
  simp only [je,Ag,Ke] at hr
  unfold Mq at hp
  rw [List.filter_cons] at hp
  by_cases he:Ah.getD e false=true
  ·rw [Ai (by rw [he];simp)] at hp
   refine q6 aE hr.2 (λj hj=>?_) hp
   by_cases hej:e=j
   ·subst hej;exact he
   ·rw [getD_set_ne false hej] at hj;exact hl j hj
  ·have he:Ah.getD e false=false:=by simpa using he
   rw [Ab (by rw [he];rfl)] at hp
   injection hp with tj PH
   subst tj
   obtain ⟨_,o,ho,Jh⟩:=mem_ready.1 hr.1
   have Lr:e<Ah.size:=by rw [aE];exact (Np.1 ho).1
   exact mem_ready.2 ⟨getD_in Lr he,o,ho,λx hx hb=>hl _ (Jh x hx hb)⟩
theorem ey {Ah:Array Bool} {j:Nat} (h:Ah.getD j true=false):j<Ah.size:=by
 rcases Nat.lt_or_ge j Ah.size with h'|h'
 ·exact h'
 ·simp [Array.getElem?_eq_none h'] at h
theorem wR (hT:Eb P T) (Pk:Lj P Γ) {Q:Exit->Act->World->Prop} (hQ: ∀c a w,¬Q (.panic c) a w) {K:St->Prop} (hK: ∀st a w,K st->Rel X st a w->Q .normal a w) (bO:Region.noSelect ops=true)
  {E:List Nat} {L0:Array Bool} (hE:cQ ops E L0=true): ∀(n f:Nat) (Ah LA:Array Bool) (st:St) (a:Act) (w:World),n=f+(Mq E Ah).length->Ah.size=ops.size->LA.size=ops.size->
   (∀j,LA.getD j false=(Ah.getD j false||E.contains j))->Ul ops Ah->(∀j,L0.getD j false=true->Ah.getD j false=true)->qX T Γ ops E K f LA st->Rel X (Sl ops (Mq E Ah) st) a w->wpAny P .any ops Q n Ah a w:=by
 simp only [cQ,Ag,Bb] at hE
 obtain ⟨⟨hre,hry⟩,hpr,hap⟩:=hE
 obtain ⟨Ald,qc⟩:=qw hpr
 have key: ∀(n f:Nat) (Ah LA:Array Bool) (st:St) (a:Act) (w:World),n=f+(Mq E Ah).length->Ah.size=ops.size->LA.size=ops.size->
   (∀j,LA.getD j false=(Ah.getD j false||E.contains j))->Ul ops Ah->(∀j,L0.getD j false=true->Ah.getD j false=true)->qX T Γ ops E K f LA st->Rel X (Sl ops (Mq E Ah) st) a w->
   (∀j,j∈Region.ready .any ops Ah->j∉E->j∈Region.ready .any ops LA)/\(Region.ready .any ops Ah= []->Q .normal a w/\f=0/\Mq E Ah= []):=by
  intro n f Ah LA st a w hn iR rj hLA Qo hL0 sW hrel
  have h1: ∀j,j∈Region.ready .any ops Ah->j∉E->j∈Region.ready .any ops LA:= λj hj hjE=>by
   obtain ⟨oF,o,ho,Jh⟩:=mem_ready.1 hj
   have Lr:=ey oF
   refine mem_ready.2 ⟨getD_in (by omega) ?_,o,ho,λe he hb=>by rw [hLA,Jh e he hb];rfl⟩
   rw [hLA,getD_both oF]
   simpa using hjE
  refine ⟨h1,λh0=>?_⟩
  cases JT:Mq E Ah with
  |cons r L=>
   have:=q6 iR hry hL0 JT
   rw [h0] at this
   cases this
  |nil=>
   have Jh: ∀r,r∈E->Ah.getD r false=true:= λr hr=>by
    have:r∉Mq E Ah:=by rw [JT];simp
    unfold Mq at this
    rw [Bs] at this
    by_cases hl:Ah.getD r false=true
    ·exact hl
    ·exact absurd ⟨hr,by simpa using hl⟩ this
   have hb: ∀j,j∈Region.ready .any ops LA->j∈Region.ready .any ops Ah:= λj hj=>by
    obtain ⟨oF,o,ho,hw⟩:=mem_ready.1 hj
    have Lr:=ey oF
    have he: ∀k,LA.getD k false=Ah.getD k false:= λk=>by
     rw [hLA]
     by_cases hk:k∈E
     ·rw [Jh k hk];rfl
     ·rw [show E.contains k=false by simpa using hk,gV]
    exact mem_ready.2 ⟨getD_in (by omega) (by rw [<-he];exact getD_both oF),o,ho,λe hx hbd=>by rw [<-he];exact hw e hx hbd⟩
   cases f with
   |zero=>
    obtain ⟨_,_,hk⟩:=sW
    rw [JT] at hrel
    exact ⟨hK _ _ _ hk hrel,rfl,rfl⟩
   |succ f=>
    obtain ⟨_,Jl,_⟩:=sW
    obtain ⟨j,hj⟩:=List.exists_mem_of_ne_nil _ Jl
    have:=hb j hj
    rw [h0] at this
    cases this
 intro n
 induction n with
 |zero=>
  intro f Ah LA st a w hn iR rj hLA Qo hL0 sW hrel
  obtain ⟨k1,k2⟩:=key 0 f Ah LA st a w hn iR rj hLA Qo hL0 sW hrel
  have hf:f=0:=by omega
  have hp:Mq E Ah= []:=List.length_eq_zero_iff.1 (by omega)
  subst hf
  obtain ⟨_,hr,_⟩:=sW
  have h0:Region.ready .any ops Ah= []:=List.eq_nil_iff_forall_not_mem.2 λj hj=>by
   by_cases hjE:j∈E
   ·have oF:=getD_both (mem_ready.1 hj).1
    have:j∈Mq E Ah:=Bs.2 ⟨hjE,by rw [oF];rfl⟩
    rw [hp] at this
    cases this
   ·have:=k1 j hj hjE
    rw [hr] at this
    cases this
  exact ⟨h0,(k2 h0).1⟩
 |succ n ih=>
  intro f Ah LA st a w hn iR rj hLA Qo hL0 sW hrel
  obtain ⟨k1,k2⟩:=key (n+1) f Ah LA st a w hn iR rj hLA Qo hL0 sW hrel
  have Pj:Aas T Γ ops E LA st:=by cases f<;>exact sW.1
  have YG: ∀r∈Mq E Ah,r∈E/\Ah.getD r false=false:= λr hr=>by
   obtain ⟨h1,h2⟩:=Bs.1 hr
   exact ⟨h1,by simpa using h2⟩
  have Ag1: ∀r∈Mq E Ah,jV ops r=true/\ ∃o v,ops[r]?=some o/\Xh T Γ ops st o=some v/\ ∀d,o.dst=some d->st.get d=v:= λr hr=>by
   obtain ⟨h1,h2⟩:=YG r hr
   refine ⟨hre r h1,(Pj r h1).resolve_left λhw=>?_⟩
   unfold sd at hw
   obtain ⟨j,_,hj⟩:=Gd.1 hw
   simp only [Ag,Er] at hj
   obtain ⟨hj1,hj2,hj3⟩:=hj
   rw [hLA,hj1,gV] at hj2
   have:=Qo j r hj2 hj3
   rw [h2] at this
   cases this
  refine ⟨λh0=>(k2 h0).1,λi hi=>?_⟩
  obtain ⟨π,hrel⟩:=hrel
  have hiw: ∀q∈Mq E Ah,Region.waitsFor .any ops i q=true->False:= λq hq hw=>by
   have:=cR hi hw
   rw [(YG q hq).2] at this
   cases this
  obtain ⟨oF,oi,hoi,_⟩:=mem_ready.1 hi
  have Lr:=ey oF
  by_cases hiE:i∈E
  ·have WB:i∈Mq E Ah:=Bs.2 ⟨hiE,by rw [getD_both oF];rfl⟩
   obtain ⟨hrd,o,v,ho,hv,hd⟩:=Ag1 i WB
   have hnl:=XH (Ald.filter (p:= λr=>!Ah.getD r false)) (qc.filter (p:= λr=>!Ah.getD r false)) WB ho hiw
   have yU:Xh T Γ ops (Sl ops (Mq E Ah) st) o=some v:=by
    rw [HE (st:=st) (Rc _ _) λt ht=>(Sm _ _ _).2 λhm=>by
     obtain ⟨q,hq,he⟩:=Me.1 hm
     exact hnl q hq t he ht]
    exact hv
   obtain ⟨u,hy,hu⟩:=qB hT Pk hrel ho hrd yU
   refine hy Q _ ?_
   have JT: ∀q,q∈Mq E (Ah.setIfInBounds i true)↔q∈Mq E Ah/\q≠i:= λq=>by
    unfold Mq
    rw [Bs,Bs]
    by_cases hqi:q=i
    ·subst hqi
     simp [Lr]
    ·rw [getD_set_ne false (Hr hqi)]
     exact ⟨λh=>⟨h,hqi⟩,λh=>h.1⟩
   have hlen:(Mq E Ah).length=(Mq E (Ah.setIfInBounds i true)).length+1:=by
    have BI: ∀(E:List Nat) (L:Array Bool),je ops E L=true->E.Nodup/\ ∀r∈E,L.getD r true=false:=by
     intro E
     induction E with
     |nil=>exact λL _=>⟨Nr,λr hr=>by cases hr⟩
     |cons e E ihE=>
      intro L h
      simp only [je,Ag,Ke] at h
      obtain ⟨g1,g2⟩:=ihE _ h.2
      have he:=(mem_ready.1 h.1).1
      have kV:=ey he
      refine ⟨Ce.2 ⟨λhm=>?_,g1⟩,λr hr=>?_⟩
      ·have:=g2 e hm
       simp [kV] at this
      ·rcases Bg.1 hr with rfl|hr
       ·exact he
       ·have Jl:e≠r:= λe'=>by subst e';have:=g2 e hr;simp [kV] at this
        have:=g2 r hr
        rw [getD_set_ne true Jl] at this
        exact this
    have hEn:=(BI E L0 hry).1
    have At4: ∀L:List Nat,L.Nodup->i∈L->(L.filter λr=>!Ah.getD r false).length=(L.filter λr=>!(Ah.setIfInBounds i true).getD r false).length+1:=by
     intro L
     induction L with
     |nil=>exact λ_ h=>by cases h
     |cons x L ihL=>
      intro hn hm
      obtain ⟨hx,hn⟩:=Ce.1 hn
      rw [List.filter_cons,List.filter_cons]
      by_cases hxi:x=i
      ·subst hxi
       rw [Ab (by rw [getD_both oF];rfl),Ai (by simp [Lr])]
       have:L.filter (λr=>!Ah.getD r false)=L.filter (λr=>!(Ah.setIfInBounds x true).getD r false):=List.filter_congr λq hq=>by
        rw [getD_set_ne false (λe=>hx (by rw [e];exact hq))]
       rw [Aw,this]
      ·have hm:=(Bg.1 hm).resolve_left (Hr hxi)
       rw [getD_set_ne false (Hr hxi)]
       split
       ·rw [Aw,Aw,ihL hn hm]
       ·exact ihL hn hm
    exact At4 E hEn hiE
   refine ih f (Ah.setIfInBounds i true) LA st _ w (by omega) (by simp [iR]) rj (λj=>?_) (Qo.set hi) (λj hj=>getD_set_true (hL0 j hj)) sW ⟨π,?_⟩
   ·rw [hLA]
    by_cases jT:i=j
    ·subst jT
     rw [show E.contains i=true by simpa using hiE,Bool.or_true,Bool.or_true]
    ·rw [getD_set_ne false jT]
   ·have h2:=hrel.put o.dst hu
    refine uh h2 ?_ ?_ λt=>?_
    ·rw [kb,Rc,Rc]
    ·rw [nR,Wp,Wp]
    ·have hdo:=cE ho
     by_cases hm:t∈kG ops (Mq E (Ah.setIfInBounds i true))
     ·exact .inr ((Sm _ _ _).1 hm)
     ·rw [(Sm _ _ _).2 hm]
      obtain ⟨g1,g2⟩:=iO (Sl ops (Mq E Ah) st) o.dst v t
      by_cases he:o.dst=some t
      ·rw [hd t he]
       rcases g1 he with g|g
       ·exact .inl g.symm
       ·by_cases hl:t<st.tmps.length
        ·refine .inl ?_
         rw [he]
         show v=((Tg (Sl ops (Mq E Ah) st).tmps t v).getD t .undef)
         rw [Rg,Ab ⟨rfl,by rw [Wp];exact hl⟩]
        ·refine .inr ?_
         rw [<-hd t he]
         unfold St.get
         rw [Aj,Dw (by omega)]
         rfl
      ·rw [g2 he]
       refine .inl ((Sm _ _ _).2 λhm2=>?_).symm
       obtain ⟨q,hq,YL⟩:=Me.1 hm2
       by_cases hqi:q=i
       ·subst hqi
        rw [hdo] at YL
        exact he YL
       ·exact hm (Me.2 ⟨q,(JT q).2 ⟨hq,hqi⟩,YL⟩)
  ·cases f with
   |zero=>
    obtain ⟨_,hr,_⟩:=sW
    have:=k1 i hi hiE
    rw [hr] at this
    cases this
   |succ f=>
    obtain ⟨_,_,Als⟩:=sW
    obtain ⟨o,st',ho,he,gy⟩:=Als i (k1 i hi hiE)
    obtain ⟨a',YJ,Zu⟩:=Aez hT Pk (Mq E Ah) a Ag1 Ald.filter hrel
    have YQ:wpOp P ops Q i (λa2 w2=>Rel X st' a2 w2) a' w:=by
     unfold wpOp
     simp only [ho]
     exact Wf hT Pk Zu o he λa2 w2 h2=>h2
    have yM:=yc (Q:=Q) ho (λcs b=>Region.noSelect_spec bO i o cs b ho) hQ (Mq E Ah) a a' w (λr hr=>?_) YJ YQ
    ·refine wpOp_mono (λa2 w2 hk=>?_) yM
     obtain ⟨a3,hp3,π3,hr3⟩:=hk
     have JT:Mq E (Ah.setIfInBounds i true)=Mq E Ah:=by
      unfold Mq
      refine List.filter_congr λq hq=>?_
      rw [getD_set_ne false (λe=>hiE (by rw [e];exact hq))]
     refine ih f (Ah.setIfInBounds i true) (LA.setIfInBounds i true) st' a2 w2 (by rw [JT];omega) (by simp [iR]) (by simp [rj]) (λj=>?_) (Qo.set hi) (λj hj=>getD_set_true (hL0 j hj)) gy ⟨π3,by rw [JT];exact Aaj hp3 hr3⟩
     by_cases jT:i=j
     ·subst jT
      simp [Lr,iR▸Lr,rj]
     ·rw [getD_set_ne false jT,getD_set_ne false jT,hLA]
    ·obtain ⟨hrE,hrl⟩:=YG r hr
     have h3:=Bb.1 (Bb.1 hap r hrE) i (Es.2 (by omega))
     simp only [Mi] at h3
     rcases h3 with ((h3|h3)|h3)|h3
     ·exact absurd (by simpa using h3) hiE
     ·have:=hL0 i h3
      rw [getD_both oF] at this
      cases this
     ·exact (hiw r hr h3).elim
     ·obtain ⟨x,y,hx,hy,hp⟩:=ag h3
      rw [ho] at hy;cases hy
      exact ⟨x,hx,hp⟩
theorem ng: ∀(E:List Nat) (s0 s1:St),Gg T Γ ops E s0=some s1->s1.heap=s0.heap/\s1.tmps.length=s0.tmps.length/\ ∀t,t∉kG ops E->s1.get t=s0.get t
 | [],s0,s1,h=>by
  simp only [Gg,Aa] at h
  subst h
  exact ⟨rfl,rfl,λ_ _=>rfl⟩
 |r::E,s0,s1,h=>by
  simp only [Gg] at h
  split at h
  ·cases h
  rename_i o ho
  split at h
  rotate_left
  ·cases h
  rename_i v hv
  obtain ⟨h1,h2,h3⟩:=ng E _ _ h
  refine ⟨by rw [h1,kb],by rw [h2,nR],λt ht=>?_⟩
  rw [h3 t λhm=>ht (by obtain ⟨q,hq,he⟩:=Me.1 hm;exact Me.2 ⟨q,Ao _ hq,he⟩)]
  exact (iO s0 o.dst v t).2 λe=>ht (Me.2 ⟨r,Fm ..,by rw [cE ho];exact e⟩)
theorem xC: ∀ {E:List Nat} {L0:Array Bool},je ops E L0=true-> ∀r∈E,L0.getD r true=false
 | [],_,_,_,hr=>by cases hr
 |e::E,L0,h,r,hr=>by
  simp only [je,Ag,Ke] at h
  have he:=(mem_ready.1 h.1).1
  rcases Bg.1 hr with rfl|hr
  ·exact he
  ·have h2:=xC h.2 r hr
   have Jl:e≠r:= λe'=>by subst e';simp [ey he] at h2
   rw [getD_set_ne true Jl] at h2
   exact h2
theorem wQ (hT:Eb P T) (Pk:Lj P Γ) {Q:Exit->Act->World->Prop} (hQ: ∀c a w,¬Q (.panic c) a w) {K:St->Prop} (hK: ∀st a w,K st->Rel X st a w->Q .normal a w) (bO:Region.noSelect ops=true)
  {E:List Nat} {L0:Array Bool} (hE:cQ ops E L0=true) {n:Nat} (hn:E.length<=n) {cp st1:St} (h1:Gg T Γ ops E cp=some st1) (h2:qX T Γ ops E K (n-E.length) (Ek E L0) st1)
  (aE:L0.size=ops.size) (Qo:Ul ops L0) {a:Act} {w:World} (hr:Rel X cp a w):wpAny P .any ops Q n L0 a w:=by
 have hE':=hE
 simp only [cQ,Ag] at hE'
 have oF:=xC hE'.1.2
 have hp:Mq E L0=E:=List.filter_eq_self.2 λr hr=>by rw [getD_both (oF r hr)];rfl
 refine wR hT Pk hQ hK bO hE n (n-E.length) L0 (Ek E L0) st1 a w (by rw [hp];omega) aE (by rw [Wn];exact aE) (λj=>?_) Qo (λj hj=>hj) h2 ?_
 ·by_cases hj:j∈E
  ·rw [fu E L0 j hj (ey (oF j hj)),show E.contains j=true by simpa using hj,Bool.or_true]
  ·rw [dv E L0 j hj,show E.contains j=false by simpa using hj,gV]
 ·obtain ⟨π,hr⟩:=hr
  obtain ⟨g1,g2,g3⟩:=ng E _ _ h1
  refine ⟨π,uh hr (by rw [Rc,g1]) (by rw [Wp,g2]) λt=>?_⟩
  rw [hp]
  by_cases ht:t∈kG ops E
  ·exact .inr ((Sm _ _ _).1 ht)
  ·exact .inl (((Sm _ _ _).2 ht).trans (g3 t ht))
theorem Xv (live:List Nat): ∀(i:Nat) (l:List AV),(Jb live i l).length=l.length
 |_,[]=>rfl
 |i,v::r=>by simp [Jb,Xv live (i+1) r]
theorem bF (live:List Nat): ∀(i:Nat) (l:List AV) (t:Nat),(Jb live i l).getD t .undef= .undef\/(Jb live i l).getD t .undef=l.getD t .undef
 |_,[],t=> .inr rfl
 |i,v::r,0=>by
  simp only [Jb,Xq]
  split
  ·exact .inr rfl
  ·exact .inl rfl
 |i,v::r,t+1=>by
  simp only [Jb,Nv]
  exact bF live (i+1) r t
theorem dm: ∀(l:List Nat) (st:St) (a:Act) (w:World),Rel X st a w->Rel X (bj l st) a w
 | [],_,_,_,h=>h
 |k::r,_,a,w,⟨_,h⟩=>dm r _ a w ⟨_,h.forget k⟩
theorem UU (dead:List Nat) {st:St} {a:Act} {w:World} (h:Rel X st a w):Rel X (st.Qw dead) a w:=by
 obtain ⟨π,h⟩:=h
 unfold St.Qw
 refine dm _ _ a w ⟨π,h.1,⟨by simp [Xv,h.2.size],h.2.defers,λt=>?_⟩⟩
 show Bm X w π st.heap ((Jb _ 0 st.tmps).getD t .undef) _
 rcases bF ((List.range st.tmps.length).filter λt=>!dead.contains t) 0 st.tmps t with e|e
 ·rw [e];trivial
 ·rw [e];exact h.2.tmps t
theorem qC (hT:Eb P T) (Pk:Lj P Γ) (hm:P.follows .mixedOrders=true) {Q:Exit->Act->World->Prop} {id:Nat} {draw:Bool} {st:St} {K:St->Prop} {a:Act} (h:Rel X st a w)
  (he:kC T Γ ops draw st K) (hQ: ∀st' a' w',K st'->Rel X st' a' w'->Q .normal a' w'):(Code.region id ops draw).wp P Q a w:=by
 rcases he with ⟨st',h1,h2⟩|⟨rfl,bO,cp,h1,h2⟩
 ·exact oT hT Pk hm h h1 λa' w' h'=>hQ st' a' w' h2 h'
 ·refine wp_mono (Q:= λe a w=>e= .normal/\Q .normal a w) ?_ λe a w h=>h.1▸h.2
  refine wp_region_any hm ?_
  have hrel:Rel X st a {w with drawn:=w.drawn+1} :=by
   obtain ⟨π,h⟩:=h
   exact ⟨π,h.quiet ⟨rfl,rfl,rfl,Ap _,λ_ _=>rfl⟩⟩
  have hlen:(Lc ops).length<=ops.size:=by
   have:=dx (ops:=ops) (!jN false ops) (List.range ops.size) (Array.replicate ops.size false)
   rw [List.length_range] at this
   exact this
  have YE:(Array.replicate ops.size false).size=ops.size:=by simp
  have hmv:(Ek (Lc ops) (Array.replicate ops.size false)).size=ops.size:=by rw [Wn,YE]
  have:=cm hT (!jN false ops) (X:=X) (P:=P) (T:=T) (Γ:=Γ) (Q:= λe a w=>e= .normal/\Q .normal a w) (n:=ops.size-(Lc ops).length) (st1:=cp) (λc a w hq=>by cases hq.1) bO (List.range ops.size) (Array.replicate ops.size false) st a _ h1 hrel λa' w' h'=>by
   rcases h2 with h2|⟨E,st1,hE,hEn,hE1,hE2⟩
   ·exact lA hT Pk (λst' a' w' hk hr=>⟨rfl,hQ st' a' w' hk hr⟩) _ _ _ _ _ h2 h'
   ·exact wQ hT Pk (λc a w hq=>by cases hq.1) (λst' a' w' hk hr=>⟨rfl,hQ st' a' w' hk hr⟩) bO hE hEn hE1 hE2 hmv (aN _ _ _ pW) h'
  have e:(Kc (!jN false ops) ops (List.range ops.size) (Array.replicate ops.size false)).length+(ops.size-(Lc ops).length)=ops.size:=by
   have e2:(Kc (!jN false ops) ops (List.range ops.size) (Array.replicate ops.size false)).length=(Lc ops).length:=rfl
   omega
  rw [e] at this
  exact this
theorem LY (hT:Eb P T) (Pk:Lj P Γ) (hm:P.follows .mixedOrders=true) {Q:Exit->Act->World->Prop} {id:Nat} {draw:Bool} {st:St} {K:St->Prop} {a:Act} (h:Rel X st a w)
  (he:yg T Γ ops draw st K) (hQ: ∀st' a' w',K st'->Rel X st' a' w'->Q .normal a' w'):(Code.region id ops draw).wp P Q a w:=by
 rcases he with he|⟨dead,_,he⟩
 ·exact qC hT Pk hm h he hQ
 ·exact qC hT Pk hm h he λst' a' w' hk hr=>hQ _ a' w' hk (UU dead hr)
end
end Go.Proofs.YtkkdpknjohcekaaGreat
