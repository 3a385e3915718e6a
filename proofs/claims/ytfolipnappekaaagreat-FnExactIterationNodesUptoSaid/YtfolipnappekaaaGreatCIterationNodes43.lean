/-
  Part 44 of the proof that the statement FnExactIterationNodes holds.
-/
import Derived.Test.YtfolipnappekaaaGreatCIterationNodes42
import Derived.Shelf.RegionOpenPlain
import Derived.WalkKit
import Derived.Lib.Walk
namespace Go.Proofs.YtfolipnappekaaaGreat
open Go.RowKit
def ap (p:List Int) (i:Nat):Nat:=(Nq p (i:Int)).toNat
def Pm (n:Nat) (p:List Int):Prop:=p.length=n/\bN p
theorem Pm.n1 {n:Nat} {p:List Int} (h:Pm n p):1<=n:=h.1▸h.2.pos
theorem Pm.n2 {n:Nat} {p:List Int} (h:Pm n p):n<=20:=h.1▸h.2.len
theorem Pm.aT {n:Nat} {p:List Int} (h:Pm n p) {i:Nat} (hi:i<n):Nq p (i:Int)=(ap p i:Int)/\ap p i<n:=by
 have nK:i<p.length:=by rw [h.1];exact hi
 have:=h.2.row _ (Aj nK)
 unfold ap
 rw [Mk nK]
 have h1:=h.1
 omega
theorem Pm.lt {n:Nat} {p:List Int} (h:Pm n p) {i:Nat} (hi:i<n):ap p i<n:=(h.aT hi).2
theorem Pm.ext {n:Nat} {p q:List Int} (h:Pm n p) (k:Pm n q) (e: ∀i,i<n->ap p i=ap q i):p=q:=by
 refine List.ext_getElem (by rw [h.1,k.1]) λi h1 h2=>?_
 have hi:i<n:=by rw [<-h.1];exact h1
 have a:=(h.aT hi).1
 have b:=(k.aT hi).1
 rw [Mk h1] at a
 rw [Mk h2] at b
 rw [a,b,e i hi]
theorem Pm.inj {n:Nat} {p:List Int} (h:Pm n p) {i j:Nat} (hi:i<n) (hj:j<n) (e:ap p i=ap p j):i=j:=
 h.2.inj i j (by rw [h.1];exact hi) (by rw [h.1];exact hj) e
theorem Pm.Abq {n:Nat} {p:List Int} (h:Pm n p) {k:Nat} (hk:k<n): ∃i,i<n/\ap p i=k:=by
 obtain ⟨i,h1,h2⟩:=h.2.Abq k (by rw [h.1];exact hk)
 exact ⟨i,by rw [<-h.1];exact h1,h2⟩
theorem Pm.of {n:Nat} {p:List Int} (hl:p.length=n) (h1:1<=n) (h2:n<=20) (f:Nat->Nat) (hf: ∀i,i<n->p[i]?=some (f i:Int)/\f i<n) (hi: ∀i j,i<n->j<n->f i=f j->i=j):Pm n p:=by
 refine ⟨hl,by omega,by omega,λy hy=>?_,?_⟩
 ·obtain ⟨i,hi,rfl⟩:=Cl.1 hy
  obtain ⟨h3,h4⟩:=hf i (by omega)
  rw [Ac hi] at h3
  rw [Ba h3]
  omega
 ·refine Ey.2 λi j h3 h4 h5 h6=>?_
  have a:=(hf i (by omega)).1
  have b:=(hf j (by omega)).1
  rw [Ac h3] at a
  rw [Ac h4] at b
  rw [Ba a,Ba b] at h6
  have:=hi i j (by omega) (by omega) (by omega)
  omega
theorem FG {n:Nat} {p q:List Int} (hp:Pm n p) (hq:Pm n q) {i:Nat} (hi:i<n):(Al p q)[i]?=some (ap q (ap p i):Int):=by
 have h1:i<p.length:=by rw [hp.1];exact hi
 unfold Al
 rw [Fc,Ac h1]
 have a:=(hp.aT hi).1
 rw [Mk h1] at a
 simp only [Am,a]
 rw [(hq.aT (hp.aT hi).2).1]
theorem Pm.comp {n:Nat} {p q:List Int} (hp:Pm n p) (hq:Pm n q):Pm n (Al p q):=
 Pm.of (by rw [Pj,hp.1]) hp.n1 hp.n2 (λi=>ap q (ap p i)) (λi hi=>⟨FG hp hq hi,hq.lt (hp.lt hi)⟩) λi j hi hj e=>hp.inj hi hj (hq.inj (hp.lt hi) (hp.lt hj) e)
theorem ZL {p:List Int} {i k:Nat} (h:p[i]?=some (k:Int)):ap p i=k:=by
 unfold ap Nq
 rw [Ai,Ak,h]
 simp
theorem Lp {n:Nat} {p q:List Int} (hp:Pm n p) (hq:Pm n q) {i:Nat} (hi:i<n):ap (Al p q) i=ap q (ap p i):=ZL (FG hp hq hi)
theorem jN {n i:Nat} (hi:i<n):(upto n)[i]?=some (i:Int):=by simp [upto,hi]
theorem l5 {n i:Nat} (hi:i<n):ap (upto n) i=i:=ZL (jN hi)
theorem Pm.id {n:Nat} (h1:1<=n) (h2:n<=20):Pm n (upto n):=Pm.of (by simp [upto]) h1 h2 (λi=>i) (λi hi=>⟨jN hi,hi⟩) λ_ _ _ _ e=>e
theorem SY {n:Nat} {p:List Int} (hp:Pm n p) {i:Nat} (hi:i<n):(Bk p)[ap p i]?=some (i:Int):=Ab1 hp.2 (by rw [hp.1];exact hi)
theorem jX {n:Nat} {p:List Int} (hp:Pm n p) {i:Nat} (hi:i<n):ap (Bk p) (ap p i)=i:=ZL (SY hp hi)
theorem zH {n:Nat} {p:List Int} (hp:Pm n p) {k:Nat} (hk:k<n):ap p (ap (Bk p) k)=k:=by
 obtain ⟨i,hi,rfl⟩:=hp.Abq hk
 rw [jX hp hi]
theorem Pm.inv {n:Nat} {p:List Int} (hp:Pm n p):Pm n (Bk p):=by
 refine Pm.of (by rw [nO,hp.1]) hp.n1 hp.n2 (λk=>ap (Bk p) k) (λk hk=>?_) λi j hi hj e=>?_
 ·obtain ⟨i,hi,rfl⟩:=hp.Abq hk
  rw [jX hp hi]
  exact ⟨SY hp hi,hi⟩
 ·rw [<-zH hp hi,<-zH hp hj,e]
theorem Ke {n:Nat} {p q r:List Int} (hp:Pm n p) (hq:Pm n q) (hr:Pm n r):Al (Al p q) r=Al p (Al q r):=
 ((hp.comp hq).comp hr).ext (hp.comp (hq.comp hr)) λi hi=>by rw [Lp (hp.comp hq) hr hi,Lp hp hq hi,Lp hp (hq.comp hr) hi,Lp hq hr (hp.lt hi)]
theorem comp_id {n:Nat} {p:List Int} (hp:Pm n p):Al p (upto n)=p:=
 (hp.comp (Pm.id hp.n1 hp.n2)).ext hp λi hi=>by rw [Lp hp (Pm.id hp.n1 hp.n2) hi,l5 (hp.lt hi)]
theorem id_comp {n:Nat} {p:List Int} (hp:Pm n p):Al (upto n) p=p:=
 ((Pm.id hp.n1 hp.n2).comp hp).ext hp λi hi=>by rw [Lp (Pm.id hp.n1 hp.n2) hp hi,l5 hi]
theorem nj {n:Nat} {p:List Int} (hp:Pm n p):Al p (Bk p)=upto n:=
 (hp.comp hp.inv).ext (Pm.id hp.n1 hp.n2) λi hi=>by rw [Lp hp hp.inv hi,jX hp hi,l5 hi]
theorem eh {n:Nat} {p:List Int} (hp:Pm n p):Al (Bk p) p=upto n:=
 (hp.inv.comp hp).ext (Pm.id hp.n1 hp.n2) λi hi=>by rw [Lp hp.inv hp hi,zH hp hi,l5 hi]
theorem uz {n:Nat} {p q:List Int} (hp:Pm n p) (hq:Pm n q) (h:Al p q=upto n):Bk p=q:=by
 rw [<-comp_id hp.inv,<-h,<-Ke hp.inv hp hq,eh hp,id_comp hq]
theorem inv_mul {n:Nat} {p q:List Int} (hp:Pm n p) (hq:Pm n q):Bk (Al p q)=Al (Bk q) (Bk p):=
 uz (hp.comp hq) (hq.inv.comp hp.inv) (by
  rw [Ke hp hq (hq.inv.comp hp.inv),<-Ke hq hq.inv hp.inv,nj hq,id_comp hp.inv,nj hp])
theorem inv_inv {n:Nat} {p:List Int} (hp:Pm n p):Bk (Bk p)=p:=uz hp.inv hp (eh hp)
theorem Ab2 {n:Nat} (h1:1<=n) (h2:n<=20):Bk (upto n)=upto n:=uz (Pm.id h1 h2) (Pm.id h1 h2) (comp_id (Pm.id h1 h2))
inductive cC (n:Nat) (S:List Int->Prop):List Int->Prop where
 |id:cC n S (upto n)
 |mul {p g:List Int} :cC n S p->S g->cC n S (Al p g)
 |inv {p g:List Int} :cC n S p->S g->cC n S (Al p (Bk g))
def EI (n:Nat) (S:List Int->Prop):Prop:=(1<=n/\n<=20)/\ ∀g,S g->Pm n g
theorem cC.pm {n:Nat} {S:List Int->Prop} (hS:EI n S) {p:List Int} (h:cC n S p):Pm n p:=by
 induction h with
 |id=>exact Pm.id hS.1.1 hS.1.2
 |mul _ hg ih=>exact ih.comp (hS.2 _ hg)
 |inv _ hg ih=>exact ih.comp (hS.2 _ hg).inv
theorem cC.comp {n:Nat} {S:List Int->Prop} (hS:EI n S) {p q:List Int} (hp:cC n S p) (hq:cC n S q):cC n S (Al p q):=by
 induction hq with
 |id=>rw [comp_id (hp.pm hS)];exact hp
 |mul hq hg ih=>rw [<-Ke (hp.pm hS) (hq.pm hS) (hS.2 _ hg)];exact .mul ih hg
 |inv hq hg ih=>rw [<-Ke (hp.pm hS) (hq.pm hS) (hS.2 _ hg).inv];exact .inv ih hg
theorem cC.one {n:Nat} {S:List Int->Prop} (hS:EI n S) {g:List Int} (hg:S g):cC n S g:=by
 have:=cC.mul (n:=n) (S:=S) .id hg
 rwa [id_comp (hS.2 g hg)] at this
theorem cC.Akn {n:Nat} {S:List Int->Prop} (hS:EI n S) {g:List Int} (hg:S g):cC n S (Bk g):=by
 have:=cC.inv (n:=n) (S:=S) .id hg
 rwa [id_comp (hS.2 g hg).inv] at this
theorem cC.sR {n:Nat} {S:List Int->Prop} (hS:EI n S) {p:List Int} (hp:cC n S p):cC n S (Bk p):=by
 induction hp with
 |id=>rw [Ab2 hS.1.1 hS.1.2];exact .id
 |mul hq hg ih=>rw [inv_mul (hq.pm hS) (hS.2 _ hg)];exact (cC.Akn hS hg).comp hS ih
 |inv hq hg ih=>rw [inv_mul (hq.pm hS) (hS.2 _ hg).inv,inv_inv (hS.2 _ hg)];exact (cC.one hS hg).comp hS ih
theorem cC.trans {n:Nat} {S S':List Int->Prop} (hS':EI n S') (h: ∀g,S g->cC n S' g) {p:List Int} (hp:cC n S p):cC n S' p:=by
 induction hp with
 |id=>exact .id
 |mul _ hg ih=>exact ih.comp hS' (h _ hg)
 |inv _ hg ih=>exact ih.comp hS' ((h _ hg).sR hS')
abbrev PO:=Option (List Int)
abbrev Row:=List PO
abbrev Co:=List Row
def Vj (row:Row):List Int:=(upto row.length).filter λy=>(row.getD y.toNat none).isSome
def Hy (T:Co):Nat->Nat->List Int->Bool
 |0,_,_=>true
 |k+1,i,p=>match (T.getD i []).getD (Nq p (i:Int)).toNat none with
  |none=>false
  |some t=>Hy T k (i+1) (Al p (Bk t))
def Lu (row:Row):Nat:=row.countP (·.isNone)
def aV (x:Int) (s:Row×List Int) (o:PO):Row×List Int:=
 match s.1.getD (Nq (o.getD []) x).toNat none with
 |some _=>s
 |none=>(s.1.set (Nq (o.getD []) x).toNat (some (Al ((s.1.getD x.toNat none).getD []) (o.getD []))),s.2++ [Nq (o.getD []) x])
def aM (x:Int) (gs:List PO) (s:Row×List Int):Row×List Int:=gs.foldl (aV x) s
def az (gs:List PO):Nat->List Int->Row->Row
 |0,_,row=>row
 |_+1,[],row=>row
 |f+1,x::q,row=>az gs f (aM x gs (row,q)).2 (aM x gs (row,q)).1
def Zn (gs:List PO) (row:Row):Row:=az gs 100 (Vj row) row
def Ub (row:Row) (y:Int) (g:PO):List Int:=
 Al (Al ((row.getD y.toNat none).getD []) (g.getD [])) (Bk ((row.getD (Nq (g.getD []) y).toNat none).getD []))
def gE (row:Row) (gs:List PO):List (List Int):=(Vj row).flatMap λy=>gs.map λg=>Ub row y g
def Hp:Nat->Nat->List Int->Co×Co->Co×Co
 |0,_,_,s=>s
 |k+1,l,p,s=>
  if Hy s.2 (k+1) l p=true then s else
   (gE (Zn (s.1.getD l []++ [some p]) (s.2.getD l [])) (s.1.getD l []++ [some p])).foldl (λs q=>Hp k (l+1) q s)
    (s.1.set l (s.1.getD l []++ [some p]),s.2.set l (Zn (s.1.getD l []++ [some p]) (s.2.getD l [])))
def Fx (l:Nat) (p:List Int):Prop:= ∀i,i<l->ap p i=i
def Gn (n:Nat) (gs:List PO):List Int->Prop:=cC n λg=>some g∈gs
structure Lvl (n l:Nat) (gs:List PO) (row:Row) (H:List Int->Prop):Prop where
 pg: ∀o∈gs,∃g,o=some g/\Pm n g/\Fx l g
 rl:row.length=n
 r0:row.getD l none=some (upto n)
 rt: ∀y t,row.getD y none=some t->Pm n t/\Fx l t/\ap t l=y/\Gn n gs t
 cl: ∀y t g,row.getD y none=some t->some g∈gs->row.getD (ap g y) none≠none
 sg: ∀y t g t',row.getD y none=some t->some g∈gs->row.getD (ap g y) none=some t'->H (Al (Al t g) (Bk t'))
def kO (n:Nat):Nat->Nat->Co×Co->Prop
 |0,l,s=>s.1.getD l []= []
 |k+1,l,s=>kO n k (l+1) s/\Lvl n l (s.1.getD l []) (s.2.getD l []) (λq=>Hy s.2 k (l+1) q=true)/\ ∀g,some g∈s.1.getD (l+1) []->Gn n (s.1.getD l []) g
theorem Afy {l1 l2:List Nat} (hn:l1.Nodup) (hs: ∀x∈l1,x∈l2) (hl:l2.length<=l1.length): ∀x∈l2,x∈l1:=by
 induction l1 generalizing l2 with
 |nil=>
  intro x hx
  have:l2= []:=Ck (by simpa using hl)
  rw [this] at hx;cases hx
 |cons a l ih=>
  intro x hx
  obtain ⟨h1,h2⟩:=Cd.1 hn
  have ha:=hs a (by simp)
  by_cases e:x=a
  ·subst e;simp
  ·refine At _ (ih (l2:=l2.erase a) h2 (λy hy=>?_) ?_ x ((List.mem_erase_of_ne e).2 hx))
   ·have hya:y≠a:= λe'=>h1 (by rw [<-e'];exact hy)
    exact (List.mem_erase_of_ne hya).2 (hs y (by simp [hy]))
   ·rw [List.length_erase_of_mem ha]
    simp only [Az] at hl
    omega
theorem OM {n:Nat} {g:List Int} (hg:Pm n g) (D:Nat->Bool) (h: ∀y,y<n->D y=true->D (ap g y)=true) {y:Nat} (hy:y<n) (hD:D y=true): ∃x,x<n/\D x=true/\ap g x=y:=by
 have:=Afy (l1:=((List.range n).filter D).map (ap g)) (l2:=(List.range n).filter D) ?_ ?_ (by simp) y (Cm.2 ⟨Gh.2 hy,hD⟩)
 ·obtain ⟨x,hx,e⟩:=Bj.1 this
  obtain ⟨h1,h2⟩:=Cm.1 hx
  exact ⟨x,Gh.1 h1,h2,e⟩
 ·refine List.pairwise_map.2 (List.Pairwise.imp_of_mem ?_ (List.nodup_range.filter D))
  intro a b ha hb Ik e
  exact Ik (hg.inj (Gh.1 (Cm.1 ha).1) (Gh.1 (Cm.1 hb).1) e)
 ·intro x hx
  obtain ⟨z,hz,rfl⟩:=Bj.1 hx
  obtain ⟨h1,h2⟩:=Cm.1 hz
  exact Cm.2 ⟨Gh.2 (hg.lt (Gh.1 h1)),h z (Gh.1 h1) h2⟩
theorem nG {row:Row} {y:Nat} {t:List Int} (h:row.getD y none=some t):y<row.length:=by
 rw [Ak] at h
 refine Ce λhn=>?_
 rw [Fy (by omega)] at h
 cases h
theorem Lvl.pms {n l:Nat} {gs:List PO} {row:Row} {H:List Int->Prop} (h:Lvl n l gs row H):EI n λg=>some g∈gs:=by
 refine ⟨?_,λg hg=>?_⟩
 ·have:=(h.rt l _ h.r0).1
  exact ⟨this.n1,this.n2⟩
 ·obtain ⟨g',e,h1,_⟩:=h.pg _ hg
  cases e;exact h1
theorem Fx.inv {n l:Nat} {p:List Int} (hp:Pm n p) (h:Fx l p) (hl:l<=n):Fx l (Bk p):= λi hi=>by
 have:=jX hp (i:=i) (by omega)
 rwa [h i hi] at this
theorem Fx.comp {n l:Nat} {p q:List Int} (hp:Pm n p) (hq:Pm n q) (h1:Fx l p) (h2:Fx l q) (hl:l<=n):Fx l (Al p q):= λi hi=>by
 rw [Lp hp hq (by omega),h1 i hi,h2 i hi]
theorem Fx.all {n:Nat} {p:List Int} (hp:Pm n p) (h:Fx n p):p=upto n:=hp.ext (Pm.id hp.n1 hp.n2) λi hi=>by rw [h i hi,l5 hi]
theorem Fx.div {n l:Nat} {p t:List Int} (hp:Pm n p) (ht:Pm n t) (h1:Fx l p) (h2:Fx l t) (hl:l<n) (e:ap t l=ap p l):Fx (l+1) (Al p (Bk t)):= λi hi=>by
 rw [Lp hp ht.inv (by omega)]
 by_cases hil:i<l
 ·rw [h1 i hil];exact h2.inv ht (by omega) i hil
 ·have:i=l:=by omega
  subst this
  rw [<-e,jX ht hl]
theorem Ug {n:Nat} (h1:1<=n) (h2:n<=20): ∀(k l:Nat) (s:Co×Co),l+k=n->kO n k l s-> ∀p,Pm n p->Fx l p->(Hy s.2 k l p=true↔Gn n (s.1.getD l []) p)
 |0,l,s,hk,hc,p,hp,hf=>by
  have hl:l=n:=by omega
  subst hl
  rw [hf.all hp]
  exact ⟨λ_=> .id,λ_=>rfl⟩
 |k+1,l,s,hk,hc,p,hp,hf=>by
  obtain ⟨c1,c2,c3⟩:=hc
  have hS:=c2.pms
  have ih:=Ug h1 h2 k (l+1) s (by omega) c1
  have hS1:EI n λg=>some g∈s.1.getD (l+1) []:=⟨⟨h1,h2⟩,λg hg=>(c3 g hg).pm hS⟩
  have lr:l<n:=by omega
  constructor
  ·intro h
   simp only [Hy] at h
   rw [show (Nq p (l:Int)).toNat=ap p l from rfl] at h
   split at h
   ·cases h
   ·rename_i t ht
    obtain ⟨t1,t2,t3,t4⟩:=c2.rt _ _ ht
    have LJ:=Fx.div hp t1 hf t2 lr t3
    have hg:=((ih _ (hp.comp t1.inv) LJ).1 h).trans hS c3
    have:=cC.comp hS hg t4
    rwa [Ke hp t1.inv t1,eh t1,comp_id hp] at this
  ·intro h
   have key: ∀q,Gn n (s.1.getD l []) q-> ∃t,(s.2.getD l []).getD (ap q l) none=some t/\Gn n (s.1.getD (l+1) []) (Al q (Bk t)):=by
    intro q hq
    induction hq with
    |id=>
     refine ⟨upto n,by rw [l5 lr];exact c2.r0,?_⟩
     rw [Ab2 h1 h2,comp_id (Pm.id h1 h2)]
     exact .id
    | @mul q g hq hg ihq=>
     obtain ⟨t,e1,e2⟩:=ihq
     have hqp:=cC.pm hS hq
     have Tr:=hS.2 _ hg
     obtain ⟨t1,t2,t3,t4⟩:=c2.rt _ _ e1
     cases e3:(s.2.getD l []).getD (ap g (ap q l)) none with
     |none=>exact absurd e3 (c2.cl _ _ _ e1 hg)
     |some t'=>
      obtain ⟨u1,u2,u3,u4⟩:=c2.rt _ _ e3
      have hsg:=c2.sg _ _ _ _ e1 hg e3
      have hfg:Fx (l+1) (Al (Al t g) (Bk t')):=Fx.div (t1.comp Tr) u1 (Fx.comp t1 Tr t2 (by obtain ⟨g',e,_,h⟩:=c2.pg _ hg;cases e;exact h) (by omega)) u2 lr (by rw [u3,Lp t1 Tr lr,t3])
      have LK:=(ih _ ((t1.comp Tr).comp u1.inv) hfg).1 hsg
      refine ⟨t',by rw [Lp hqp Tr lr];exact e3,?_⟩
      have:=cC.comp hS1 e2 LK
      rwa [show Al (Al q (Bk t)) (Al (Al t g) (Bk t'))=Al (Al q g) (Bk t') by
       rw [Ke hqp t1.inv ((t1.comp Tr).comp u1.inv),Ke t1 Tr u1.inv,<-Ke t1.inv t1 (Tr.comp u1.inv),eh t1,id_comp (Tr.comp u1.inv),Ke hqp Tr u1.inv]] at this
    | @inv q g hq hg ihq=>
     obtain ⟨t,e1,e2⟩:=ihq
     have hqp:=cC.pm hS hq
     have Tr:=hS.2 _ hg
     obtain ⟨t1,t2,t3,t4⟩:=c2.rt _ _ e1
     have hy:ap q l<n:=hqp.lt lr
     obtain ⟨x,hx,hD,he⟩:=OM Tr (λy=>((s.2.getD l []).getD y none).isSome) (λy hy hd=>by
      obtain ⟨t0,ht0⟩:=hJ.1 hd
      exact Option.ne_none_iff_isSome.1 (c2.cl _ _ _ ht0 hg)) hy (by rw [e1];rfl)
     obtain ⟨t',e3⟩:=hJ.1 hD
     obtain ⟨u1,u2,u3,u4⟩:=c2.rt _ _ e3
     have hsg:=c2.sg _ _ _ _ e3 hg (by rw [he];exact e1)
     have hfg:Fx (l+1) (Al (Al t' g) (Bk t)):=Fx.div (u1.comp Tr) t1 (Fx.comp u1 Tr u2 (by obtain ⟨g',e,_,h⟩:=c2.pg _ hg;cases e;exact h) (by omega)) t2 lr (by rw [t3,Lp u1 Tr lr,u3,he])
     have LK:=cC.sR hS1 ((ih _ ((u1.comp Tr).comp t1.inv) hfg).1 hsg)
     have hax:ap (Bk g) (ap q l)=x:=by rw [<-he,jX Tr hx]
     refine ⟨t',by rw [Lp hqp Tr.inv lr,hax];exact e3,?_⟩
     have:=cC.comp hS1 e2 LK
     rwa [show Al (Al q (Bk t)) (Bk (Al (Al t' g) (Bk t)))=Al (Al q (Bk g)) (Bk t') by
      rw [inv_mul (u1.comp Tr) t1.inv,inv_inv t1,inv_mul u1 Tr,Ke hqp t1.inv (t1.comp (Tr.inv.comp u1.inv)),<-Ke t1.inv t1 (Tr.inv.comp u1.inv),eh t1,id_comp (Tr.inv.comp u1.inv),Ke hqp Tr.inv u1.inv]] at this
   obtain ⟨t,e1,e2⟩:=key p h
   obtain ⟨t1,t2,t3,t4⟩:=c2.rt _ _ e1
   simp only [Hy]
   rw [show (Nq p (l:Int)).toNat=ap p l from rfl,e1]
   exact (ih _ (hp.comp t1.inv) (Fx.div hp t1 hf t2 lr t3)).2 e2
theorem Ky {α:Type} (xs:List α) (i j:Nat) (x d:α):(xs.set i x).getD j d=if i=j/\i<xs.length then x else xs.getD j d:=by
 rw [Ak,Fe,Ak]
 by_cases e:i=j
 ·subst e
  by_cases h:i<xs.length
  ·rw [Ab rfl,Ab h,Ab ⟨rfl,h⟩];rfl
  ·rw [Ab rfl,Ag h,Ag (λhh=>h hh.2),Fy (by omega)]
 ·rw [Ag e,Ag (λhh=>e hh.1)]
theorem cC.mono {n:Nat} {S S':List Int->Prop} (h: ∀g,S g->S' g) {p:List Int} (hp:cC n S p):cC n S' p:=by
 induction hp with
 |id=>exact .id
 |mul _ hg ih=>exact .mul ih (h _ hg)
 |inv _ hg ih=>exact .inv ih (h _ hg)
structure Vc (n l:Nat) (gs:List PO) (row:Row):Prop where
 rl:row.length=n
 r0:row.getD l none=some (upto n)
 rt: ∀y t,row.getD y none=some t->Pm n t/\Fx l t/\ap t l=y/\Gn n gs t
def PG (n l:Nat) (gs:List PO):Prop:= ∀o∈gs,∃g,o=some g/\Pm n g/\Fx l g
structure Ext (n l:Nat) (gs:List PO) (row:Row) (q:List Int) (s':Row×List Int):Prop where
 ok:Vc n l gs s'.1
 mono: ∀y t,row.getD y none=some t->s'.1.getD y none=some t
 phi:s'.2.length+Lu s'.1=q.length+Lu row
 wF: ∀y∈q,y∈s'.2
 new: ∀y∈s'.2,y∈q\/ ∃yn:Nat,y=yn/\s'.1.getD yn none≠none
 src: ∀y:Nat,s'.1.getD y none≠none->row.getD y none≠none\/(y:Int)∈s'.2
theorem Ext.refl {n l:Nat} {gs:List PO} {row:Row} {q:List Int} (h:Vc n l gs row):Ext n l gs row q (row,q):=⟨h,λ_ _ h=>h,rfl,λ_ h=>h,λ_ h=> .inl h,λ_ h=> .inl h⟩
theorem fy {a b:Row} (h: ∀y t,a.getD y none=some t->b.getD y none=some t) {y:Nat} (hy:a.getD y none≠none):b.getD y none≠none:=by
 cases e:a.getD y none with
 |none=>exact absurd e hy
 |some t=>rw [h y t e];simp
theorem Ext.trans {n l:Nat} {gs:List PO} {row:Row} {q:List Int} {s1 s2:Row×List Int} (h:Ext n l gs row q s1) (k:Ext n l gs s1.1 s1.2 s2):Ext n l gs row q s2:=by
 refine ⟨k.ok,λy t e=>k.mono y t (h.mono y t e),k.phi.trans h.phi,λy hy=>k.wF y (h.wF y hy),λy hy=>?_,λy hy=>?_⟩
 ·rcases k.new y hy with h1|h1
  ·rcases h.new y h1 with h2|⟨yn,h2,h3⟩
   ·exact .inl h2
   ·exact .inr ⟨yn,h2,fy k.mono h3⟩
  ·exact .inr h1
 ·rcases k.src y hy with h1|h1
  ·exact (h.src y h1).imp id λh2=>k.wF _ h2
  ·exact .inr h1
theorem pL {row:Row} {i:Nat} {t:List Int} (h:row.getD i none=none) (hi:i<row.length):Lu (row.set i (some t))+1=Lu row:=by
 unfold Lu
 have e:row[i]=none:=by
  rw [Ak,Ac hi] at h
  exact h
 have h1:=List.countP_set (p:= λo:PO=>o.isNone) (l:=row) (i:=i) (a:=some t) hi
 have UZ:0<row.countP (·.isNone):=List.countP_pos_iff.2 ⟨row[i],Aj hi,by rw [e];rfl⟩
 rw [h1,e]
 simp
 omega
theorem Afx {n l:Nat} {gs:List PO} (lr:l<n) (hg:PG n l gs) {row:Row} {q:List Int} (h:Vc n l gs row) {x:Nat} {t:List Int} (hx:row.getD x none=some t) {g:List Int} (ho:some g∈gs):
  Ext n l gs row q (aV (x:Int) (row,q) (some g))/\(aV (x:Int) (row,q) (some g)).1.getD (ap g x) none≠none:=by
 obtain ⟨g',e,Tr,hgf⟩:=hg _ ho
 cases e
 obtain ⟨t1,t2,t3,t4⟩:=h.rt _ _ hx
 have hxn:x<n:=by rw [<-h.rl];exact nG hx
 obtain ⟨a1,a2⟩:=Tr.aT hxn
 unfold aV
 simp only [Bz,a1,Ai]
 cases e:row.getD (ap g x) none with
 |some u=>exact ⟨Ext.refl h,by simp only;rw [e];simp⟩
 |none=>
  simp only [hx,Bz]
  have hl:ap g x<row.length:=by rw [h.rl];exact a2
  have hS:EI n λg=>some g∈gs:=⟨⟨t1.n1,t1.n2⟩,λg Sz=>by obtain ⟨g',e,h1,_⟩:=hg _ Sz;cases e;exact h1⟩
  have Au: ∀y,(row.set (ap g x) (some (Al t g))).getD y none=if ap g x=y/\ap g x<row.length then some (Al t g) else row.getD y none:= λy=>Ky _ _ _ _ _
  have Ik: ∀y u,row.getD y none=some u->ap g x≠y:= λy u hu e'=>by rw [<-e',e] at hu;cases hu
  refine ⟨⟨⟨by simp [h.rl],?_,λy u hu=>?_⟩,λy u hu=>?_,?_,λy hy=>Bc _ hy,λy hy=>?_,λy hy=>?_⟩,?_⟩
  ·rw [Au,Ag (λhh=>Ik l _ h.r0 hh.1)];exact h.r0
  ·rw [Au] at hu
   split at hu
   ·rename_i hc
    cases hu
    exact ⟨t1.comp Tr,Fx.comp t1 Tr t2 hgf (by omega),by rw [Lp t1 Tr lr,t3];exact hc.1, .mul t4 ho⟩
   ·exact h.rt y u hu
  ·show (row.set (ap g x) (some (Al t g))).getD y none=some u
   rw [Au,Ag (λhh=>Ik y u hu hh.1)];exact hu
  ·have:=pL (t:=Al t g) e hl
   simp only [Ax,Az,Gd]
   omega
  ·rcases Bb.1 hy with hy|hy
   ·exact .inl hy
   ·simp only [Ae] at hy
    exact .inr ⟨ap g x,hy,by show (row.set (ap g x) (some (Al t g))).getD (ap g x) none≠none;rw [Au,Ab ⟨rfl,hl⟩];simp⟩
  ·have hy:(row.set (ap g x) (some (Al t g))).getD y none≠none:=hy
   rw [Au] at hy
   split at hy
   ·rename_i hc
    exact .inr (by show (y:Int)∈q++ [(ap g x:Int)];rw [<-hc.1];simp)
   ·exact .inl hy
  ·show (row.set (ap g x) (some (Al t g))).getD (ap g x) none≠none
   rw [Au,Ab ⟨rfl,hl⟩];simp
theorem Ac3 {n l:Nat} {gs:List PO} (lr:l<n) (hg:PG n l gs): ∀(gs':List PO) {row:Row} {q:List Int},(∀o∈gs',o∈gs)->Vc n l gs row-> ∀ {x:Nat} {t:List Int},row.getD x none=some t->
  Ext n l gs row q (aM (x:Int) gs' (row,q))/\ ∀g,some g∈gs'->(aM (x:Int) gs' (row,q)).1.getD (ap g x) none≠none
 | [],row,q,_,h,x,t,hx=>⟨Ext.refl h,λg hg=>by cases hg⟩
 |o::gs',row,q,hs,h,x,t,hx=>by
  obtain ⟨g,rfl,_,_⟩:=hg o (hs o (by simp))
  obtain ⟨e1,e2⟩:=Afx (q:=q) lr hg h hx (hs (some g) (by simp))
  obtain ⟨f1,f2⟩:=Ac3 lr hg gs' (q:=(aV (x:Int) (row,q) (some g)).2) (λo ho=>hs o (by simp [ho])) e1.ok (e1.mono x t hx)
  have hb:aM (x:Int) (some g::gs') (row,q)=aM (x:Int) gs' ((aV (x:Int) (row,q) (some g)).1,(aV (x:Int) (row,q) (some g)).2):=rfl
  rw [hb]
  refine ⟨e1.trans f1,λg' Sz=>?_⟩
  rcases Be.1 Sz with e|Sz
  ·cases e;exact fy f1.mono e2
  ·exact f2 g' Sz
def TZ (gs:List PO) (q:List Int) (row:Row):Prop:=
 (∀y∈q,∃yn:Nat,y=yn/\row.getD yn none≠none)/\ ∀y:Nat,row.getD y none≠none->(y:Int)∈q\/ ∀g,some g∈gs->row.getD (ap g y) none≠none
theorem PD {n l:Nat} {gs:List PO} (lr:l<n) (hg:PG n l gs) {x:Int} {q:List Int} {row:Row} (h:Vc n l gs row) (hq:TZ gs (x::q) row):
  Ext n l gs row q (aM x gs (row,q))/\TZ gs (aM x gs (row,q)).2 (aM x gs (row,q)).1/\ ∃(xn:Nat) (t:List Int),x=xn/\row.getD xn none=some t:=by
 obtain ⟨xn,rfl,hx⟩:=hq.1 x (by simp)
 cases e:row.getD xn none with
 |none=>exact absurd e hx
 |some t=>
  obtain ⟨e1,e2⟩:=Ac3 lr hg gs (q:=q) (λo ho=>ho) h e
  refine ⟨e1,⟨λy hy=>?_,λy hy=>?_⟩,xn,t,rfl,e⟩
  ·rcases e1.new y hy with h1|h1
   ·obtain ⟨yn,h2,h3⟩:=hq.1 y (by simp [h1])
    exact ⟨yn,h2,fy e1.mono h3⟩
   ·exact h1
  ·rcases e1.src y hy with h1|h1
   ·rcases hq.2 y h1 with h2|h2
    ·rcases Be.1 h2 with h2|h2
     ·have:y=xn:=by omega
      subst this
      exact .inr λg Sz=>e2 g Sz
     ·exact .inl (e1.wF _ h2)
    ·exact .inr λg Sz=>fy e1.mono (h2 g Sz)
   ·exact .inl h1
theorem Aca {n l:Nat} {gs:List PO} (lr:l<n) (hg:PG n l gs): ∀(f:Nat) (q:List Int) (row:Row),q.length+Lu row<=f->Vc n l gs row->TZ gs q row->
  Vc n l gs (az gs f q row)/\(∀y t,row.getD y none=some t->(az gs f q row).getD y none=some t)/\ ∀y t g,(az gs f q row).getD y none=some t->some g∈gs->(az gs f q row).getD (ap g y) none≠none
 |0,q,row,hf,h,hq=>by
  have:q= []:=Ck (by omega)
  subst this
  exact ⟨h,λ_ _ h=>h,λy t g e Sz=>by
   rcases hq.2 y (by rw [show row.getD y none=some t from e];simp) with h1|h1
   ·cases h1
   ·exact h1 g Sz⟩
 |f+1,[],row,hf,h,hq=>⟨h,λ_ _ h=>h,λy t g e Sz=>by
   rcases hq.2 y (by rw [show row.getD y none=some t from e];simp) with h1|h1
   ·cases h1
   ·exact h1 g Sz⟩
 |f+1,x::q,row,hf,h,hq=>by
  obtain ⟨e1,e2,_⟩:=PD lr hg h hq
  obtain ⟨r1,r2,r3⟩:=Aca lr hg f _ _ (by have:=e1.phi;simp only [Az] at hf;omega) e1.ok e2
  exact ⟨r1,λy t e=>r2 y t (e1.mono y t e),r3⟩
theorem bf {row:Row} {y:Int} :y∈Vj row↔ ∃yn:Nat,y=yn/\row.getD yn none≠none:=by
 unfold Vj
 rw [Cm,a9]
 constructor
 ·rintro ⟨h1,h2⟩
  exact ⟨y.toNat,by omega,Option.ne_none_iff_isSome.2 h2⟩
 ·rintro ⟨yn,rfl,h⟩
  obtain ⟨t,ht⟩:=Tq.1 h
  exact ⟨by have:=nG ht;omega,by simpa using Option.ne_none_iff_isSome.1 h⟩
theorem BI (row:Row):(Vj row).length<=row.length:=by
 unfold Vj
 refine Ix (List.length_filter_le _ _) (by simp [upto])
theorem je (row:Row):Lu row<=row.length:=List.countP_le_length
theorem ID {n l:Nat} {gs:List PO} (lr:l<n) (h2:n<=20) (hg:PG n l gs) {row:Row} (h:Vc n l gs row):
  Vc n l gs (Zn gs row)/\(∀y t,row.getD y none=some t->(Zn gs row).getD y none=some t)/\ ∀y t g,(Zn gs row).getD y none=some t->some g∈gs->(Zn gs row).getD (ap g y) none≠none:=
 Aca lr hg 100 _ _ (by have:=BI row;have:=je row;have:=h.rl;omega) h ⟨λy hy=>bf.1 hy,λy hy=> .inl (bf.2 ⟨y,rfl,hy⟩)⟩
theorem FB {n l:Nat} {gs:List PO} (lr:l<n) (hg:PG n l gs): ∀(f:Nat) (q:List Int) (row:Row),q.length+Lu row<=f->Vc n l gs row->TZ gs q row->az gs f q row=az gs (q.length+Lu row) q row
 |0,q,row,hf,_,_=>by
  have:q.length+Lu row=0:=by omega
  rw [this]
 |f+1,[],row,hf,_,_=>by
  cases h:([]:List Int).length+Lu row with
  |zero=>rfl
  |succ m=>rfl
 |f+1,x::q,row,hf,h,hq=>by
  obtain ⟨e1,e2,_⟩:=PD lr hg h hq
  have Aex:=e1.phi
  have:(x::q).length+Lu row=(q.length+Lu row)+1:=by simp only [Az];omega
  rw [this]
  simp only [az]
  rw [FB lr hg f _ _ (by simp only [Az] at hf;omega) e1.ok e2,Aex]
def wK (row:Row):Nat:=row.countP (·.isSome)
theorem pk: ∀(a b:Row),a.length=b.length->(∀y t,a.getD y none=some t->b.getD y none=some t)->wK a<=wK b/\(wK a=wK b->a=b)
 | [],[],_,_=>⟨Ao _,λ_=>rfl⟩
 | [],_::_,h,_=>by simp at h
 |_::_,[],h,_=>by simp at h
 |x::a,y::b,h,hm=>by
  obtain ⟨h1,h2⟩:=pk a b (by simpa using h) λi t e=>by simpa using hm (i+1) t (by simpa using e)
  unfold wK at h1 h2⊢
  cases x with
  |none=>
   cases y with
   |none=>simp only [List.countP_cons];exact ⟨by simpa using h1,λe=>by rw [h2 (by simpa using e)]⟩
   |some u=>
    simp only [List.countP_cons,Option.isSome_none,Option.isSome_some]
    simp only [Pn,Dh,Tt]
    exact ⟨by omega,λe=>by omega⟩
  |some t=>
   have:=hm 0 t (by simp)
   simp only [Xq] at this
   subst this
   simp only [List.countP_cons]
   exact ⟨by simpa using h1,λe=>by rw [h2 (by simpa using e)]⟩
def jh (T:Co):Nat->Nat->Nat
 |0,_=>0
 |k+1,l=>wK (T.getD l [])+jh T k (l+1)
def GBf:Nat->Nat->Co×Co->Prop
 |0,_,_=>True
 |k+1,l,s=>GBf k (l+1) s/\(s.1.getD l []).length<=jh s.2 (k+1) l
structure Vz (l0:Nat) (s s':Co×Co):Prop where
 VH:s'.1.length=s.1.length
 uH:s'.2.length=s.2.length
 low: ∀i,i<l0->s'.1.getD i []=s.1.getD i []/\s'.2.getD i []=s.2.getD i []
 yu: ∀i o,o∈s.1.getD i []->o∈s'.1.getD i []
 wq: ∀i y t,(s.2.getD i []).getD y none=some t->(s'.2.getD i []).getD y none=some t
 Ac9: ∀i,(s'.2.getD i []).length=(s.2.getD i []).length
theorem Vz.refl (l0:Nat) (s:Co×Co):Vz l0 s s:=⟨rfl,rfl,λ_ _=>⟨rfl,rfl⟩,λ_ _ h=>h,λ_ _ _ h=>h,λ_=>rfl⟩
theorem Vz.trans {l0 l1:Nat} {a b c:Co×Co} (h:Vz l0 a b) (k:Vz l1 b c) (hl:l0<=l1):Vz l0 a c:=
 ⟨k.VH.trans h.VH,k.uH.trans h.uH,λi hi=>⟨(k.low i (by omega)).1.trans (h.low i hi).1,(k.low i (by omega)).2.trans (h.low i hi).2⟩,λi o ho=>k.yu i o (h.yu i o ho),λi y t e=>k.wq i y t (h.wq i y t e),λi=>(k.Ac9 i).trans (h.Ac9 i)⟩
theorem Vz.Im {l0 l1:Nat} {a b:Co×Co} (h:Vz l1 a b) (hl:l0<=l1):Vz l0 a b:=(Vz.refl l0 a).trans h hl
theorem cS {T T':Co} : ∀(k l:Nat) (p:List Int),(∀i,l<=i->i<l+k->T'.getD i []=T.getD i [])->Hy T' k l p=Hy T k l p
 |0,_,_,_=>rfl
 |k+1,l,p,h=>by
  simp only [Hy]
  rw [h l (Ao _) (by omega)]
  split
  ·rfl
  ·exact cS k (l+1) _ λi h1 h2=>h i (by omega) (by omega)
theorem Ur {n:Nat} {s s':Co×Co} : ∀(k l:Nat),(∀i,l<=i->s'.1.getD i []=s.1.getD i []/\s'.2.getD i []=s.2.getD i [])->kO n k l s->kO n k l s'
 |0,l,h,hc=>by simp only [kO] at hc⊢;rw [(h l (Ao _)).1];exact hc
 |k+1,l,h,hc=>by
  simp only [kO] at hc⊢
  obtain ⟨c1,c2,c3⟩:=hc
  refine ⟨Ur k (l+1) (λi hi=>h i (by omega)) c1,?_,?_⟩
  ·rw [(h l (Ao _)).1,(h l (Ao _)).2]
   have e:(λq=>Hy s'.2 k (l+1) q=true)= λq=>Hy s.2 k (l+1) q=true:=funext λq=>by rw [cS k (l+1) q λi h1 h2=>(h i (by omega)).2]
   rw [e];exact c2
  ·rw [(h (l+1) (by omega)).1,(h l (Ao _)).1];exact c3
theorem z6 {T T':Co} : ∀(k l:Nat),(∀i,l<=i->T'.getD i []=T.getD i [])->jh T' k l=jh T k l
 |0,_,_=>rfl
 |k+1,l,h=>by simp only [jh];rw [h l (Ao _),z6 k (l+1) λi hi=>h i (by omega)]
theorem bY {s s':Co×Co} : ∀(k l:Nat),(∀i,l<=i->s'.1.getD i []=s.1.getD i []/\s'.2.getD i []=s.2.getD i [])->GBf k l s->GBf k l s'
 |0,_,_,_=>trivial
 |k+1,l,h,hg=>⟨bY k (l+1) (λi hi=>h i (by omega)) hg.1,by
  rw [(h l (Ao _)).1,z6 (k+1) l λi hi=>(h i hi).2];exact hg.2⟩
theorem vd {T T':Co} (hl: ∀i,(T'.getD i []).length=(T.getD i []).length) (hm: ∀i y t,(T.getD i []).getD y none=some t->(T'.getD i []).getD y none=some t):
  ∀(k l:Nat),jh T k l<=jh T' k l/\(jh T k l=jh T' k l-> ∀i,l<=i->i<l+k->T'.getD i []=T.getD i [])
 |0,l=>⟨Ao _,λ_ i h1 h2=>by omega⟩
 |k+1,l=>by
  obtain ⟨h1,h2⟩:=vd hl hm k (l+1)
  obtain ⟨h3,h4⟩:=pk (T.getD l []) (T'.getD l []) (hl l).symm (hm l)
  simp only [jh]
  refine ⟨by omega,λe i g1 g2=>?_⟩
  by_cases hi:i=l
  ·subst hi;exact (h4 (by omega)).symm
  ·exact h2 (by omega) i (by omega) (by omega)
def V (n k l:Nat) (s:Co×Co):Prop:=s.1.length=n/\s.2.length=n/\kO n k l s/\GBf k l s
structure YV (n k l:Nat) (s:Co×Co) (p:List Int) (s':Co×Co):Prop where
 v:V n k l s'
 grow:Vz l s s'
 Akc:Gn n (s'.1.getD l []) p
 gens: ∀o∈s'.1.getD l [],o∈s.1.getD l []\/o=some p
theorem Lvl.row {n l:Nat} {gs:List PO} {row:Row} {H:List Int->Prop} (h:Lvl n l gs row H):Vc n l gs row:=⟨h.rl,h.r0,h.rt⟩
theorem jy {row:Row} {y:Nat} {t g t':List Int} (h1:row.getD y none=some t) (h2:row.getD (ap g y) none=some t'):Ub row (y:Int) (some g)=Al (Al t g) (Bk t'):=by
 unfold Ub
 rw [Ai,h1,Bz,Bz,show (Nq g (y:Int)).toNat=ap g y from rfl,h2,Bz]
theorem pJ {n l:Nat} {gs:List PO} {row:Row} (hg:PG n l gs) (_h:Vc n l gs row) (hc: ∀y t g,row.getD y none=some t->some g∈gs->row.getD (ap g y) none≠none) {q:List Int} :
  q∈gE row gs↔ ∃(y:Nat) (t g t':List Int),row.getD y none=some t/\some g∈gs/\row.getD (ap g y) none=some t'/\q=Al (Al t g) (Bk t'):=by
 unfold gE
 rw [Hl]
 constructor
 ·rintro ⟨y,hy,hq⟩
  obtain ⟨o,ho,rfl⟩:=Bj.1 hq
  obtain ⟨yn,rfl,hyn⟩:=bf.1 hy
  obtain ⟨t,ht⟩:=Tq.1 hyn
  obtain ⟨g,rfl,Tr,_⟩:=hg o ho
  obtain ⟨t',yF⟩:=Tq.1 (hc yn t g ht ho)
  exact ⟨yn,t,g,t',ht,ho,yF,jy ht yF⟩
 ·rintro ⟨y,t,g,t',h1,h2,h3,rfl⟩
  obtain ⟨g',e,Tr,_⟩:=hg _ h2
  cases e
  exact ⟨(y:Int),bf.2 ⟨y,rfl,by rw [h1];simp⟩,Bj.2 ⟨some g,h2,jy h1 h3⟩⟩
theorem zF {n:Nat} (h1:1<=n) (h2:n<=20): ∀(k l:Nat) (p:List Int) (s:Co×Co),l+k=n->V n k l s->Pm n p->Fx l p->YV n k l s p (Hp k l p s)
 |0,l,p,s,hk,hv,hp,hf=>by
  have hl:l=n:=by omega
  subst hl
  exact ⟨hv,Vz.refl _ _,by rw [hf.all hp];exact .id,λo ho=> .inl ho⟩
 |k+1,l,p,s,hk,hv,hp,hf=>by
  have lr:l<n:=by omega
  obtain ⟨v1,v2,hc,yA⟩:=hv
  have lk:=hc
  obtain ⟨c1,c2,c3⟩:=hc
  unfold Hp
  by_cases hh:Hy s.2 (k+1) l p=true
  ·rw [Ab hh]
   exact ⟨⟨v1,v2,lk,yA⟩,Vz.refl _ _,(Ug h1 h2 (k+1) l s hk lk p hp hf).1 hh,λo ho=> .inl ho⟩
  rw [Ag hh]
  generalize nJ:s.1.getD l []++ [some p]=gs
  have a6:some p∈gs:=by rw [<-nJ];simp
  have Qa: ∀o∈s.1.getD l [],o∈gs:= λo ho=>by rw [<-nJ];exact Bc _ ho
  have hg:PG n l gs:= λo ho=>by
   rw [<-nJ] at ho
   rcases Bb.1 ho with ho|ho
   ·exact c2.pg o ho
   ·rw [Ae] at ho;exact ⟨p,ho,hp,hf⟩
  have Aoc:Vc n l gs (s.2.getD l []):=⟨c2.rl,c2.r0,λy t e=>⟨(c2.rt y t e).1,(c2.rt y t e).2.1,(c2.rt y t e).2.2.1,(c2.rt y t e).2.2.2.mono λg hg=>Qa _ hg⟩⟩
  obtain ⟨r1,r2,r3⟩:=ID lr h2 hg Aoc
  generalize hR:Zn gs (s.2.getD l [])=R at r1 r2 r3
  have hS:EI n λg=>some g∈gs:=⟨⟨h1,h2⟩,λg Sz=>by obtain ⟨g',e,h,_⟩:=hg _ Sz;cases e;exact h⟩
  have vB: ∀i,((s.1.set l gs).getD i []=if i=l then gs else s.1.getD i [])/\(s.2.set l R).getD i []=if i=l then R else s.2.getD i []:= λi=>by
   rw [Ky,Ky]
   by_cases e:l=i
   ·subst e;rw [Ab ⟨rfl,by omega⟩,Ab rfl,Ab ⟨rfl,by omega⟩,Ab rfl];exact ⟨rfl,rfl⟩
   ·rw [Ag (λhh=>e hh.1),Ag (Gf e),Ag (λhh=>e hh.1),Ag (Gf e)];exact ⟨rfl,rfl⟩
  have yG: ∀i,l+1<=i->(s.1.set l gs).getD i []=s.1.getD i []/\(s.2.set l R).getD i []=s.2.getD i []:= λi hi=>by
   rw [(vB i).1,(vB i).2,Ag (by omega),Ag (by omega)];exact ⟨rfl,rfl⟩
  have fi:V n k (l+1) (s.1.set l gs,s.2.set l R):=⟨by simpa using v1,by simpa using v2,Ur k (l+1) yG c1,bY k (l+1) yG yA.1⟩
  have mj:Vz l s (s.1.set l gs,s.2.set l R):=by
   refine ⟨by simp,by simp,λi hi=>?_,λi o ho=>?_,λi y t e=>?_,λi=>?_⟩
   ·rw [(vB i).1,(vB i).2,Ag (by omega),Ag (by omega)];exact ⟨rfl,rfl⟩
   ·rw [(vB i).1]
    split
    ·rename_i hi;subst hi;exact Qa o ho
    ·exact ho
   ·rw [(vB i).2]
    split
    ·rename_i hi;subst hi;exact r2 y t e
    ·exact e
   ·rw [(vB i).2]
    split
    ·rename_i hi;subst hi;rw [r1.rl,c2.rl]
    ·rfl
  have hq: ∀q∈gE R gs,Pm n q/\Fx (l+1) q/\Gn n gs q:= λq hq=>by
   obtain ⟨y,t,g,t',e1,e2,e3,rfl⟩:=(pJ hg r1 r3).1 hq
   obtain ⟨t1,t2,t3,t4⟩:=r1.rt _ _ e1
   obtain ⟨u1,u2,u3,u4⟩:=r1.rt _ _ e3
   obtain ⟨g',e,Tr,hgf⟩:=hg _ e2
   cases e
   exact ⟨(t1.comp Tr).comp u1.inv,Fx.div (t1.comp Tr) u1 (Fx.comp t1 Tr t2 hgf (by omega)) u2 lr (by rw [u3,Lp t1 Tr lr,t3]),cC.comp hS (.mul t4 e2) (cC.sR hS u4)⟩
  have fold: ∀(qs:List (List Int)) (s1:Co×Co),(∀q∈qs,Pm n q/\Fx (l+1) q)->V n k (l+1) s1->
    V n k (l+1) (qs.foldl (λs q=>Hp k (l+1) q s) s1)/\Vz (l+1) s1 (qs.foldl (λs q=>Hp k (l+1) q s) s1)/\
     (∀q∈qs,Gn n ((qs.foldl (λs q=>Hp k (l+1) q s) s1).1.getD (l+1) []) q)/\ ∀o∈(qs.foldl (λs q=>Hp k (l+1) q s) s1).1.getD (l+1) [],o∈s1.1.getD (l+1) []\/ ∃q∈qs,o=some q:=by
   intro qs
   induction qs with
   |nil=>exact λs1 _ hv=>⟨hv,Vz.refl _ _,(λq hq=>by cases hq),λo ho=>Or.inl ho⟩
   |cons q qs ih=>
    intro s1 VA hv
    have ha:=zF h1 h2 k (l+1) q s1 (by omega) hv (VA q (by simp)).1 (VA q (by simp)).2
    obtain ⟨g1,g2,g3,g4⟩:=ih (Hp k (l+1) q s1) (λq' kU=>VA q' (by simp [kU])) ha.v
    simp only [Ig]
    refine ⟨g1,ha.grow.trans g2 (Ao _),λq' kU=>?_,λo ho=>?_⟩
    ·rcases Be.1 kU with rfl|kU
     ·exact ha.Akc.mono λg hg=>g2.yu _ _ hg
     ·exact g3 q' kU
    ·rcases g4 o ho with h|⟨q',kU,h⟩
     ·rcases ha.gens o h with h|h
      ·exact .inl h
      ·exact .inr ⟨q,by simp,h⟩
     ·exact .inr ⟨q',by simp [kU],h⟩
  obtain ⟨f1,f2,f3,f4⟩:=fold (gE R gs) (s.1.set l gs,s.2.set l R) (λq h=>⟨(hq q h).1,(hq q h).2.1⟩) fi
  generalize (gE R gs).foldl (λs q=>Hp k (l+1) q s) (s.1.set l gs,s.2.set l R)=s' at f1 f2 f3 f4
  obtain ⟨w1,w2,w3,w4⟩:=f1
  have el1:s'.1.getD l []=gs:=by rw [(f2.low l (by omega)).1,(vB l).1,Ab rfl]
  have el2:s'.2.getD l []=R:=by rw [(f2.low l (by omega)).2,(vB l).2,Ab rfl]
  have ui:=mj.trans f2 (by omega)
  have Ajm:Lvl n l gs R (λq=>Hy s'.2 k (l+1) q=true):=⟨hg,r1.rl,r1.r0,r1.rt,r3,λy t g t' e1 e2 e3=>by
   have hm:=(pJ hg r1 r3).2 ⟨y,t,g,t',e1,e2,e3,rfl⟩
   exact (Ug h1 h2 k (l+1) s' (by omega) w3 _ (hq _ hm).1 (hq _ hm).2.1).2 (f3 _ hm)⟩
  have GF:kO n (k+1) l s':=⟨w3,by rw [el1,el2];exact Ajm,λg Sz=>by
   rw [el1]
   rcases f4 _ Sz with h|⟨q,kU,h⟩
   ·rw [(yG (l+1) (Ao _)).1] at h
    exact (c3 g h).mono λg hg=>Qa _ hg
   ·cases h;exact (hq _ kU).2.2⟩
  have iX:Gn n (s'.1.getD l []) p:=by rw [el1];exact cC.one hS a6
  refine ⟨⟨w1,w2,GF,w4,?_⟩,ui,iX,λo ho=>?_⟩
  ·have hold:=yA.2
   obtain ⟨p1,p2⟩:=vd ui.Ac9 ui.wq (k+1) l
   have Ik:jh s.2 (k+1) l≠jh s'.2 (k+1) l:= λe=>by
    have:=cS (k+1) l p (p2 e)
    rw [(Ug h1 h2 (k+1) l s' hk GF p hp hf).2 iX] at this
    exact hh this.symm
   rw [el1,<-nJ,Ax,By]
   omega
  ·rw [el1,<-nJ] at ho
   rcases Bb.1 ho with ho|ho
   ·exact .inl ho
   ·rw [Ae] at ho;exact .inr ho
theorem Ac1 {n l:Nat} {gs:List PO} {R:Row} (lr:l<n) (hg:PG n l gs) (r1:Vc n l gs R) (r3: ∀y t g,R.getD y none=some t->some g∈gs->R.getD (ap g y) none≠none): ∀q∈gE R gs,Pm n q/\Fx (l+1) q:=by
 intro q hq
 obtain ⟨y,t,g,t',e1,e2,e3,rfl⟩:=(pJ hg r1 r3).1 hq
 obtain ⟨t1,t2,t3,t4⟩:=r1.rt _ _ e1
 obtain ⟨u1,u2,u3,u4⟩:=r1.rt _ _ e3
 obtain ⟨g',e,Tr,hgf⟩:=hg _ e2
 cases e
 exact ⟨(t1.comp Tr).comp u1.inv,Fx.div (t1.comp Tr) u1 (Fx.comp t1 Tr t2 hgf (by omega)) u2 lr (by rw [u3,Lp t1 Tr lr,t3])⟩
theorem V.lower {n k l:Nat} {s:Co×Co} (h:V n (k+1) l s) (gs:List PO) (R:Row):V n k (l+1) (s.1.set l gs,s.2.set l R):=by
 obtain ⟨v1,v2,hc,yA⟩:=h
 have yG: ∀i,l+1<=i->(s.1.set l gs).getD i []=s.1.getD i []/\(s.2.set l R).getD i []=s.2.getD i []:= λi hi=>by
  rw [Ky,Ky,Ag (by omega),Ag (by omega)];exact ⟨rfl,rfl⟩
 exact ⟨by simpa using v1,by simpa using v2,Ur k (l+1) yG hc.1,bY k (l+1) yG yA.1⟩
theorem RZ {n k l:Nat} (h1:1<=n) (h2:n<=20) (hk:l+k=n): ∀(qs:List (List Int)) (s1:Co×Co),(∀q∈qs,Pm n q/\Fx l q)->V n k l s1->
  V n k l (qs.foldl (λs q=>Hp k l q s) s1)/\Vz l s1 (qs.foldl (λs q=>Hp k l q s) s1)
 | [],s1,_,hv=>⟨hv,Vz.refl _ _⟩
 |q::qs,s1,VA,hv=>by
  have ha:=zF h1 h2 k l q s1 hk hv (VA q (by simp)).1 (VA q (by simp)).2
  obtain ⟨g1,g2⟩:=RZ h1 h2 hk qs (Hp k l q s1) (λq' kU=>VA q' (by simp [kU])) ha.v
  exact ⟨g1,ha.grow.trans g2 (Ao _)⟩
theorem Ac2 {n:Nat} {s:Co×Co} : ∀(k l:Nat),kO n k l s->jh s.2 k l<=n*k
 |0,_,_=>by simp [jh]
 |k+1,l,hc=>by
  have h1:=Ac2 k (l+1) hc.1
  have h2:wK (s.2.getD l [])<=n:=by
   have:=hc.2.1.rl
   have h3:wK (s.2.getD l [])<=(s.2.getD l []).length:=List.countP_le_length
   omega
  simp only [jh]
  rw [Nat.mul_succ]
  omega
theorem SD {n k l:Nat} {s:Co×Co} (h2:n<=20) (hk:l+(k+1)=n) (h:V n (k+1) l s):(s.1.getD l []).length<=400:=by
 have h3:=h.2.2.2.2
 have h4:=Ac2 (k+1) l h.2.2.1
 have h5:n*(k+1)<=20*20:=dL h2 (by omega)
 omega
theorem V.lvl {n k l:Nat} {s:Co×Co} (h:V n (k+1) l s):Lvl n l (s.1.getD l []) (s.2.getD l []) (λq=>Hy s.2 k (l+1) q=true):=h.2.2.1.2.1
theorem V.pg {n k l:Nat} {s:Co×Co} (h:V n (k+1) l s) {p:List Int} (hp:Pm n p) (hf:Fx l p):PG n l (s.1.getD l []++ [some p]):= λo ho=>by
 rcases Bb.1 ho with ho|ho
 ·exact h.lvl.pg o ho
 ·rw [Ae] at ho;exact ⟨p,ho,hp,hf⟩
theorem V.Auw {n k l:Nat} {s:Co×Co} (h:V n (k+1) l s) (p:List Int):Vc n l (s.1.getD l []++ [some p]) (s.2.getD l []):=
 ⟨h.lvl.rl,h.lvl.r0,λy t e=>⟨(h.lvl.rt y t e).1,(h.lvl.rt y t e).2.1,(h.lvl.rt y t e).2.2.1,(h.lvl.rt y t e).2.2.2.mono λ_ hg=>Bc _ hg⟩⟩
theorem xu {α:Type} (xs:List (List α)) (i:Nat) (h:i<xs.length):xs.set i (xs.getD i [])=xs:=by
 refine List.ext_getElem (by simp) λj h1 h2=>?_
 rw [List.getElem_set]
 split
 ·rename_i e;subst e;rw [Ak,Ac h];rfl
 ·rfl
theorem dw {α:Type} (xs:List (List α)) (i:Nat) (h:i<xs.length) (r:List α):(xs.set i r).getD i []=r:=by
 rw [Ky,Ab ⟨rfl,h⟩]
noncomputable abbrev Yu:MSpec:=cd [none] [(false, .Fm tLO)] false [none] [.row tI 2] (λx=>List.length x.1<=20) (λx=>((Vj x.1,()),()))
noncomputable abbrev Jq:Spec:=En (.pair tL (.pair tL .unit)) tO false true (λx=>(0<x.1.length/\x.1.length<=20)/\Mm x.2.1.length x.1) (λx=>some (Al x.1 x.2.1))
noncomputable abbrev Mq:Spec:=En (.pair tL (.pair tL .unit)) tL false false (λx=>x.1.length<=20/\Mm x.2.1.length x.1) (λx=>Al x.1 x.2.1)
noncomputable abbrev jw:Spec:=En (.pair tI .unit) tL false true (λx=>0<=x.1/\x.1<=20) (λx=>upto x.1.toNat)
noncomputable abbrev Pv:Spec:=En (.pair tI .unit) tO false true (λx=>1<=x.1/\x.1<=20) (λx=>some (upto x.1.toNat))
abbrev wG:TypeId:=22
structure Vy (N L:Nat) (n:Int) (G T:Co) (l:Int) (p:List Int):Prop where
 n1:1<=N
 n2:N<=20
 en:n=N
 el:l=L
 le:L<=N
 v:V N (N-L) L (G,T)
 pm:Pm N p
 fx:Fx L p
noncomputable abbrev om:Spec:=En (.pair (.ptr oQ) (.pair tI (.pair tL .unit))) .bool false true (λx=> ∃N L,Vy N L x.1.1 x.1.2.1 x.1.2.2.1 x.2.1 x.2.2.1) (λx=>Hy x.1.2.2.1 (x.1.1-x.2.1).toNat x.2.1.toNat x.2.2.1)
noncomputable abbrev Ai2:MSpec:= {ptr:=some (141,3),Jj:= [none,none],ins:= [(false, .Fm tI),(false, .Bm tO wG true),(false, .Bm tO wG true),(false, .Fm tI),(false, .Fm tO)],He:=false,Ih:= [],outs:= [.Fm tI, .Bm tO wG false, .Bm tO wG false],fn:= λ_=>none,keeps:= [(1,1),(2,2)],Ex:= λx=>x.2.2.2.1.toNat}
noncomputable abbrev Ws (m:Nat):MSpec:=ky Ai2 (λx=>(∃N L q,x.2.2.2.2.1=some q/\Vy N L x.1 x.2.1 x.2.2.1 x.2.2.2.1 q)/\(x.1-x.2.2.2.1).toNat<m)
 (λx=>((x.1,(Hp (x.1-x.2.2.2.1).toNat x.2.2.2.1.toNat (x.2.2.2.2.1.getD []) (x.2.1,x.2.2.1)).1,(Hp (x.1-x.2.2.2.1).toNat x.2.2.2.1.toNat (x.2.2.2.2.1.getD []) (x.2.1,x.2.2.1)).2,()),()))
theorem KN (n:Int) (P:List Int->Prop):(((0:Int)<=n/\n<(↑Cq:Int)+(1:Int))/\n=n/\0=0/\(List.replicate n.toNat (Int.ofNat (nat_lit 0))).length=(List.replicate n.toNat (Int.ofNat (nat_lit 0))).length/\Cz (λ(v2:Int×List Int×PUnit) (k3:Int×List Int×PUnit->Prop)=>Br (decide (v2.1<(↑(List.replicate n.toNat (Int.ofNat (nat_lit 0))).length:Int))) (((0:Int)<=v2.1/\v2.1<(↑v2.2.1.length:Int))/\0+v2.1.toNat<v2.2.1.length/\0=0/\v2.2.1.length=(v2.2.1.set (0+v2.1.toNat) v2.1).length/\k3 (IntKind.i64.wrap (v2.1+(1:Int)),v2.2.1.set (0+v2.1.toNat) v2.1,())) (P (List.take v2.2.1.length (List.drop 0 v2.2.1)))) ((0:Int),List.replicate n.toNat (Int.ofNat (nat_lit 0)),PUnit.unit))=fnW Ej (look []) jw Tryz.f105 (n,()) P:=by kernel_rfl
theorem YB (row:List (Option (List Int))) (P:(List Int×Unit)×Unit->Prop):(0=0/\0=([]:List Int).length/\Cz (λ(v2:Int×List Int×PUnit) (k3:Int×List Int×PUnit->Prop)=>Br (decide (v2.1<(↑row.length:Int))) (∃(y4:Option (List Int)),idx row v2.1=some y4/\Br (!y4.isNone) (0=0/\v2.2.1.length=v2.2.1.length/\v2.2.1.length+(List.take 1 (List.drop 0 [v2.1])).length<=Cq/\0=0/\(v2.2.1++List.take 1 (List.drop 0 [v2.1])).length=(v2.2.1++List.take 1 (List.drop 0 [v2.1])).length/\k3 (IntKind.i64.wrap (v2.1+(1:Int)),v2.2.1++List.take 1 (List.drop 0 [v2.1]),())) (0=0/\v2.2.1.length=v2.2.1.length/\k3 (IntKind.i64.wrap (v2.1+(1:Int)),v2.2.1,()))) (P ((List.take v2.2.1.length (List.drop 0 v2.2.1),()),()))) ((0:Int),[],PUnit.unit))=fnMW cG (look []) Yu Tryz.f147 (row,()) P:=by kernel_rfl
theorem Aq3 (c:Int×List (List (Option (List Int)))×List (List (Option (List Int)))×Unit) (l:Int) (p:List Int) (P:Bool->Prop):(Cz (λ(v4:List Int×Int×PUnit) (k5:List Int×Int×PUnit->Prop)=>Br (decide (v4.2.1<c.1)) (∃(y6:List (Option (List Int))),idx c.2.2.1 v4.2.1=some y6/\ ∃(y7:Int),idx v4.1 v4.2.1=some y7/\ ∃(y8:Option (List Int)),idx y6 y7=some y8/\Br y8.isNone (P false) (∃(y9:List Int),Ff.fn (y8.getD [],())=some y9/\ ∃(Ly:List Int),Mq.fn (v4.1,y9,())=some Ly/\k5 (Ly,IntKind.i64.wrap (v4.2.1+(1:Int)),()))) (P true)) (p,l,PUnit.unit))=fnW cG (look [(56,Ff),(121,Mq)]) om Tryz.f99 (c,l,p,()) P:=by kernel_rfl
theorem Sound.loose {P:Program} {f:FuncId} {arg res:Ty} {pre:arg.den->Prop} {val:arg.den->res.den} (h:Sound P f (Go.Proofs.YtfolipnappekaaaGreat.En arg res false true pre val)):Sound P f (Go.Proofs.YtfolipnappekaaaGreat.En arg res false false pre val):=
 ⟨h.enter,λw S vs x y h1 h2 h3=>Calls.mono (h.calls w S vs x y h1 h2 h3) λe' w' hr=>by
  obtain ⟨v,g1,g2,g3⟩:=hr
  exact ⟨v,g1,g2,Ct.Im (S:= λb=>S b\/(true=true/\b<w.heap.size)) g3 λk _ hk=>hk.elim .inl λhh=>absurd (show false=true from hh.1) (by simp)⟩⟩
theorem vO:Sound Tryz.prog 121 Mq:=Sound.loose Wv
theorem vP:Sound Tryz.prog 121 Jq:=Sound.toO Wv λx h=>⟨⟨h.1.2,h.2⟩,λe=>by
 have:=Pj x.1 x.2.1
 rw [e] at this
 have:=h.1.1
 simp only [Gd] at*
 omega⟩
theorem II (n:Int) (h:0<=n/\n<=20):fnW Ej (look []) jw Tryz.f105 (n,()) (λ(z:List Int)=>z=upto n.toNat):=by
 refine Eq.mp (KN n _) ⟨⟨by omega,by show n<(4294967296:Int)+1;omega⟩,rfl,rfl,rfl,?_⟩
 refine Bf n.toNat (λv=>v.1) (λj v=>v.2.1.length=n.toNat/\v.2.1.take j=upto j) rfl ⟨by simp,by simp [upto]⟩ ?_
 rintro j ⟨i,ys,⟨⟩⟩ K hj hi ⟨h1,h2⟩ hK
 dsimp only at hi h1 h2⊢
 subst hi
 rw [Fz]
 simp only [Ai,Bv]
 refine Br.dec (λhl=>⟨⟨by omega,by omega⟩,by omega,trivial,by rw [Bi],?_⟩) λhl=>?_
 ·rw [Bh (by omega)]
  refine hK (by omega) _ rfl ⟨by rw [Bi];exact h1,?_⟩
  rw [Fw,List.take_set_of_le (by omega),h2,List.getElem?_set_self (by omega),kM]
  rfl
 ·have:j=ys.length:=by omega
  subst this
  rw [Ap] at h2
  rw [Dn,Ap,h2,h1]
theorem su:Sound Tryz.prog 105 jw:=
 Sound.En Db Bg mixed Tryz.func105 (by kernel_rfl) (by kernel_rfl) λx h=>II x.1 h
theorem TV {n:Int} (h:1<=n/\n<=20):(0<=n/\n<=20)/\upto n.toNat≠ []:=⟨by omega,λe=>by
 have:=Mf List.length e
 simp [upto] at this
 omega⟩
theorem ss:Sound Tryz.prog 105 Pv:=Sound.toO su λ_ h=>TV h
theorem IC {row:Row} {j:Nat} :(upto (j+1)).filter (λy=>(row.getD y.toNat none).isSome)=(upto j).filter (λy=>(row.getD y.toNat none).isSome)++if (row.getD j none).isSome=true then [(j:Int)] else []:=by
 rw [kM,List.filter_append]
 congr 1
 simp only [List.filter_cons,List.filter_nil,Ai]
theorem WA (row:List (Option (List Int))) (h:List.length row<=20):fnMW cG (look []) Yu Tryz.f147 (row,()) (λ(z:(List Int×Unit)×Unit)=>z=((Vj row,()),())):=by
 refine Eq.mp (YB row _) ⟨rfl,rfl,?_⟩
 refine Bf row.length (λv=>v.1) (λj v=>v.2.1=(upto j).filter (λy=>(row.getD y.toNat none).isSome)) rfl rfl ?_
 rintro j ⟨i,ys,⟨⟩⟩ K hj hi h1 hK
 dsimp only at hi h1⊢
 subst hi
 refine Br.dec (λhl=>?_) λhl=>?_
 ·have hl:j<row.length:=by omega
  have hlen:ys.length<=j:=by rw [h1];refine Ix (List.length_filter_le _ _) (by simp [upto])
  have hg:row.getD j none=row[j]:=by rw [Ak,Ac hl];rfl
  refine ⟨_,Bq hl,Br.of (λhb=>⟨rfl,rfl,?_,rfl,rfl,?_⟩) λhb=>⟨rfl,rfl,?_⟩⟩
  ·show ys.length+1<=4294967296
   omega
  ·rw [Bh (by omega)]
   refine hK hl _ rfl ?_
   show ys++ [(j:Int)]=_
   rw [IC,hg,h1,Ab (by cases e:row[j] with
    |none=>rw [e] at hb;simp at hb
    |some t=>rfl)]
  ·rw [Bh (by omega)]
   refine hK hl _ rfl ?_
   show ys=_
   rw [IC,hg,h1,Ag (by cases e:row[j] with
    |none=>simp
    |some t=>rw [e] at hb;simp at hb),List.append_nil]
 ·have:j=row.length:=by omega
  subst this
  rw [Dn,Ap,h1]
  rfl
theorem xC:Ca Tryz.prog 147 Yu:=
 Ca.cd wk Bg mixed Tryz.func147 (by kernel_rfl) (by kernel_rfl) λx h=>WA x.1 h
theorem tN {n:Nat} {s:Co×Co} : ∀(k l:Nat),kO n k l s-> ∀i,l<=i->i<l+k->Lvl n i (s.1.getD i []) (s.2.getD i []) (λq=>Hy s.2 (l+k-i-1) (i+1) q=true)
 |0,_,_,i,h1,h2=>by omega
 |k+1,l,hc,i,h1,h2=>by
  obtain ⟨c1,c2,_⟩:=hc
  by_cases e:i=l
  ·subst e
   rw [show i+(k+1)-i-1=k by omega]
   exact c2
  ·have:=tN k (l+1) c1 i (by omega) (by omega)
   rwa [show l+1+k-i-1=l+(k+1)-i-1 by omega] at this
theorem Agt {α:Type} {xs:List (List α)} {i:Nat} (h:i<xs.length):xs.getD i []=xs[i]:=by
 rw [Ak,Ac h];rfl
theorem FY {α:Type} {xs:List (Option α)} {i:Nat} (h:i<xs.length):xs.getD i none=xs[i]:=by
 rw [Ak,Ac h];rfl
theorem Pm.row {n:Nat} {p:List Int} (h:Pm n p):Mm n p:=by
 have:=h.2.row
 rwa [h.1] at this
theorem Ape (c:Int×List (List (Option (List Int)))×List (List (Option (List Int)))×Unit) (l:Int) (p:List Int) (h: ∃N L,Vy N L c.1 c.2.1 c.2.2.1 l p):
  fnW cG (look [(56,Ff),(121,Mq)]) om Tryz.f99 (c,l,p,()) (λ(z:Bool)=>z=Hy c.2.2.1 (c.1-l).toNat l.toNat p):=by
 obtain ⟨n,G,T,⟨⟩⟩:=c
 obtain ⟨N,L,h⟩:=h
 obtain ⟨n1,n2,en,el,hle,v,pm,fx⟩:=h
 dsimp only at en el v⊢
 subst en el
 refine Eq.mp (Aq3 ((N:Int),G,T,()) (L:Int) p _) ?_
 obtain ⟨v1,v2,v3,v4⟩:=v
 dsimp only at v1 v2
 refine ⟨λv=> ∃i:Nat,L<=i/\i<=N/\v.2.1=i/\Pm N v.1/\Fx i v.1/\Hy T (N-i) i v.1=Hy T (N-L) L p,λv=>N-v.2.1.toNat,⟨L,Ao _,hle,rfl,pm,fx,rfl⟩,?_⟩
 rintro ⟨p',i',⟨⟩⟩ ⟨i,h1,h2,h3,h4,h5,h6⟩
 dsimp only at h3 h4 h5 h6⊢
 subst h3
 rw [show (((N:Int)-(L:Int)).toNat)=N-L by omega,show ((L:Int)).toNat=L by omega,<-h6]
 refine Br.dec (λhl=>?_) λhl=>?_
 ·have hl:i<N:=by omega
  have Kq:=tN (N-L) L v3 i h1 (by omega)
  obtain ⟨a1,a2⟩:=h4.aT hl
  have hT:i<T.length:=by omega
  have hlen:T[i].length=N:=by have:=Kq.rl;dsimp only at this;rwa [Agt hT] at this
  refine ⟨_,Bq hT,_,Bq (by rw [h4.1];exact hl),?_⟩
  have e1:p'[i]'(by rw [h4.1];exact hl)=(ap p' i:Int):=by rw [<-a1,Mk]
  rw [e1]
  refine ⟨_,Bq (by omega),?_⟩
  have e2:N-i=(N-i-1)+1:=by omega
  have e3:(T.getD i []).getD (Nq p' (i:Int)).toNat none=T[i][ap p' i]'(by omega):=by
   rw [Agt hT];exact FY (by show ap p' i<_;omega)
  rw [e2]
  simp only [Hy,e3]
  refine Br.of (λhb=>?_) λhb=>?_
  ·cases e:T[i][ap p' i]'(by omega) with
   |none=>rfl
   |some t=>rw [e] at hb;simp at hb
  ·cases e:T[i][ap p' i]'(by omega) with
   |none=>rw [e] at hb;simp at hb
   |some t=>
    have ht:(T.getD i []).getD (ap p' i) none=some t:=by rw [<-e];exact e3
    obtain ⟨t1,t2,t3,t4⟩:=Kq.rt _ _ ht
    simp only [Bz]
    refine ⟨_,Ab ⟨by show t.length<=20;rw [t1.1];exact n2,t1.2.row⟩,_,Ab ⟨by show p'.length<=20;rw [h4.1];exact n2,by show Mm (Bk t).length p';rw [nO,t1.1];exact h4.row⟩,⟨i+1,by omega,by omega,Bh (by omega),h4.comp t1.inv,Fx.div h4 t1 h5 t2 hl t3,?_⟩,?_⟩
    ·rw [show N-(i+1)=N-i-1 by omega]
    ·show N-(IntKind.i64.wrap ((i:Int)+1)).toNat<N-((i:Int)).toNat
     rw [Bh (by omega)]
     omega
 ·rw [show N-i=0 by omega]
  rfl
theorem zm:Sound Tryz.prog 99 om:=
 Sound.En wk (Av Ww (Av vO Bg)) mixed Tryz.func99 (by kernel_rfl) (by kernel_rfl) λx h=>Ape x.1 x.2.1 x.2.2.1 h
abbrev DG:Type:=Nat×Nat×Int×List (List (Option (List Int)))×Nat×List (List (Option (List Int)))×Nat×List Int×Int×PUnit
abbrev Acp:Type:=Nat×Int×List (List (Option (List Int)))×Nat×List (List (Option (List Int)))×Nat×List Int×Int×PUnit
abbrev Acq:Type:=Nat×List (List (Option (List Int)))×Nat×List (List (Option (List Int)))×Nat×List Int×Int×PUnit
abbrev Ld (G:List (List (Option (List Int)))) (l:Int) (p:Option (List Int)) (T:List (List (Option (List Int)))) (y7:Bool) (n:Int):Prop:=0=0/\(G.getD (0+l.toNat) []).length=(G.getD (0+l.toNat) []).length/\(G.getD (0+l.toNat) []).length+(List.take 1 (List.drop 0 [p])).length<=Cq/\((0:Int)<=l/\l<(↑G.length:Int))/\0=0/\(G.getD (0+l.toNat) []++List.take 1 (List.drop 0 [p])).length=(G.getD (0+l.toNat) []++List.take 1 (List.drop 0 [p])).length/\0+l.toNat=0+l.toNat/\ [(0,G.length),(0,G.length),(0,G.length),(0,T.length)]= [(0,G.length),(0,G.length),(0,G.length),(0,T.length)]/\(l,p,l,p,y7,l,l,0+l.toNat,p,List.take 1 (List.drop 0 [p]),0+l.toNat,G.set (0+l.toNat) (G.getD (0+l.toNat) []++List.take 1 (List.drop 0 [p])),min G.length (0+l.toNat),T,T.length,n,())=(l,p,l,p,y7,l,l,0+l.toNat,p,List.take 1 (List.drop 0 [p]),0+l.toNat,G.set (0+l.toNat) (G.getD (0+l.toNat) []++List.take 1 (List.drop 0 [p])),min G.length (0+l.toNat),T,T.length,n,PUnit.unit)
theorem Apy {m:Nat} (n:Int) (G T:List (List (Option (List Int)))) (l:Int) (p:Option (List Int)) (P:(Int×List (List (Option (List Int)))×List (List (Option (List Int)))×Unit)×Unit->Prop):(∃(y7:Bool),om.fn ((n,List.take G.length (List.drop 0 G),List.take T.length (List.drop 0 T),()),l,p.getD [],())=some y7/\Br y7 ((0=0/\G.length=G.length)/\(0=0/\T.length=T.length)/\(Ws (m+1)).Ex (n,G,T,l,p,())<=G.length/\(Ws (m+1)).Ex (n,G,T,l,p,())<=T.length/\P ((n,G,T,()),())) (((0:Int)<=l/\l<(↑G.length:Int))/\0=0/\(G.getD (0+l.toNat) []).length=(G.getD (0+l.toNat) []).length/\(G.getD (0+l.toNat) []).length+(List.take 1 (List.drop 0 [p])).length<=Cq/\((0:Int)<=l/\l<(↑G.length:Int))/\0=0/\(G.getD (0+l.toNat) []++List.take 1 (List.drop 0 [p])).length=(G.getD (0+l.toNat) []++List.take 1 (List.drop 0 [p])).length/\0+l.toNat=0+l.toNat/\(((0:Int)<=l/\l<(↑T.length:Int))/\ ∃(y8:(List Int×PUnit)×PUnit),Yu.fn (T.getD (0+l.toNat) [],())=some y8/\0=0/\(List.take y8.1.1.length (List.drop 0 y8.1.1)).length=(List.take y8.1.1.length (List.drop 0 y8.1.1)).length/\0=0/\G.length=(G.set (0+l.toNat) (G.getD (0+l.toNat) []++List.take 1 (List.drop 0 [p]))).length/\0=0/\T.length=T.length/\Cz (λ(v9:Acq) (k10:Acq->Prop)=>Br (decide ((↑v9.2.2.2.2.2.1.length:Int)>(0:Int))) (((0:Int)<=l/\l<(↑v9.2.1.length:Int))/\0=0/\(List.take v9.2.2.2.2.2.1.length (List.drop 0 v9.2.2.2.2.2.1)).length=(List.take v9.2.2.2.2.2.1.length (List.drop 0 v9.2.2.2.2.2.1)).length/\0=0/\v9.2.1.length=v9.2.1.length/\0=0/\v9.2.2.2.1.length=v9.2.2.2.1.length/\Cz (λ(v11:DG) (k12:DG->Prop)=>Br (decide (v11.2.2.1<(↑(v9.2.1.getD (0+l.toNat) []).length:Int))) (((0:Int)<=v11.2.2.1/\v11.2.2.1<(↑(v11.2.2.2.1.getD v11.2.1 []).length:Int))/\((0:Int)<=(0:Int)/\(0:Int)<(↑v11.2.2.2.2.2.2.2.1.length:Int))/\ ∃(Lg:Int),v11.2.2.2.2.2.2.2.1[0+Int.toNat (0:Int)]?=some Lg/\ ∃(Ji:Int),idx (((v11.2.2.2.1.getD v11.2.1 []).getD v11.2.2.1.toNat (none:Option (List Int))).getD []) Lg=some Ji/\((0:Int)<=Ji/\Ji<(↑(v11.2.2.2.2.2.1.getD v11.1 []).length:Int))/\Br ((v11.2.2.2.2.2.1.getD v11.1 []).getD Ji.toNat (none:Option (List Int))).isNone (((0:Int)<=(0:Int)/\(0:Int)<(↑v11.2.2.2.2.2.2.2.1.length:Int))/\ ∃(Qu:Int),v11.2.2.2.2.2.2.2.1[0+Int.toNat (0:Int)]?=some Qu/\((0:Int)<=Qu/\Qu<(↑(v11.2.2.2.2.2.1.getD v11.1 []).length:Int))/\ ∃(Xj:Option (List Int)),Jq.fn (((v11.2.2.2.2.2.1.getD v11.1 []).getD Qu.toNat (none:Option (List Int))).getD [],((v11.2.2.2.1.getD v11.2.1 []).getD v11.2.2.1.toNat (none:Option (List Int))).getD [],())=some Xj/\((0:Int)<=Ji/\Ji<(↑(v11.2.2.2.2.2.1.getD v11.1 []).length:Int))/\0=0/\v11.2.2.2.2.2.2.2.1.length=v11.2.2.2.2.2.2.2.1.length/\v11.2.2.2.2.2.2.2.1.length+(List.take 1 (List.drop 0 [Ji])).length<=Cq/\0=0/\(List.take (v11.2.2.2.2.2.2.2.1++List.take 1 (List.drop 0 [Ji])).length (List.drop 0 (v11.2.2.2.2.2.2.2.1++List.take 1 (List.drop 0 [Ji])))).length=(List.take (v11.2.2.2.2.2.2.2.1++List.take 1 (List.drop 0 [Ji])).length (List.drop 0 (v11.2.2.2.2.2.2.2.1++List.take 1 (List.drop 0 [Ji])))).length/\0=0/\v11.2.2.2.1.length=v11.2.2.2.1.length/\0=0/\v11.2.2.2.2.2.1.length=(v11.2.2.2.2.2.1.set v11.1 ((v11.2.2.2.2.2.1.getD v11.1 []).set Ji.toNat Xj)).length/\k12 (v11.1,v11.2.1,IntKind.i64.wrap (v11.2.2.1+(1:Int)),v11.2.2.2.1,v11.2.2.2.2.1,v11.2.2.2.2.2.1.set v11.1 ((v11.2.2.2.2.2.1.getD v11.1 []).set Ji.toNat Xj),v11.2.2.2.2.2.2.1,List.take (v11.2.2.2.2.2.2.2.1++List.take 1 (List.drop 0 [Ji])).length (List.drop 0 (v11.2.2.2.2.2.2.2.1++List.take 1 (List.drop 0 [Ji]))),v11.2.2.2.2.2.2.2.2.1,())) (0=0/\(List.take v11.2.2.2.2.2.2.2.1.length (List.drop 0 v11.2.2.2.2.2.2.2.1)).length=(List.take v11.2.2.2.2.2.2.2.1.length (List.drop 0 v11.2.2.2.2.2.2.2.1)).length/\0=0/\v11.2.2.2.1.length=v11.2.2.2.1.length/\0=0/\v11.2.2.2.2.2.1.length=v11.2.2.2.2.2.1.length/\k12 (v11.1,v11.2.1,IntKind.i64.wrap (v11.2.2.1+(1:Int)),v11.2.2.2.1,v11.2.2.2.2.1,v11.2.2.2.2.2.1,v11.2.2.2.2.2.2.1,List.take v11.2.2.2.2.2.2.2.1.length (List.drop 0 v11.2.2.2.2.2.2.2.1),v11.2.2.2.2.2.2.2.2.1,()))) (((0:Int)<=(1:Int)/\(1:Int)<=(↑v11.2.2.2.2.2.2.2.1.length:Int)/\(↑v11.2.2.2.2.2.2.2.1.length:Int)<=(↑v11.2.2.2.2.2.2.2.1.length:Int))/\0=0/\(List.take ((↑v11.2.2.2.2.2.2.2.1.length:Int).toNat-Int.toNat (1:Int)) (List.drop (0+Int.toNat (1:Int)) v11.2.2.2.2.2.2.2.1)).length=(List.take ((↑v11.2.2.2.2.2.2.2.1.length:Int).toNat-Int.toNat (1:Int)) (List.drop (0+Int.toNat (1:Int)) v11.2.2.2.2.2.2.2.1)).length/\0=0/\v11.2.2.2.1.length=v11.2.2.2.1.length/\0=0/\v11.2.2.2.2.2.1.length=v11.2.2.2.2.2.1.length/\k10 (v11.1,v11.2.2.2.1,v11.2.2.2.2.1,v11.2.2.2.2.2.1,v11.2.2.2.2.2.2.1,List.take ((↑v11.2.2.2.2.2.2.2.1.length:Int).toNat-Int.toNat (1:Int)) (List.drop (0+Int.toNat (1:Int)) v11.2.2.2.2.2.2.2.1),v11.2.2.2.2.2.2.2.2.1,()))) (v9.1,0+l.toNat,(0:Int),v9.2.1,v9.2.2.1,v9.2.2.2.1,v9.2.2.2.2.1,List.take v9.2.2.2.2.2.1.length (List.drop 0 v9.2.2.2.2.2.1),v9.2.2.2.2.2.2.1,PUnit.unit)) (∃(bu:(List Int×PUnit)×PUnit),Yu.fn (v9.2.2.2.1.getD v9.1 [],())=some bu/\0=0/\bu.1.1.length=bu.1.1.length/\0=0/\v9.2.1.length=v9.2.1.length/\0=0/\v9.2.2.2.1.length=v9.2.2.2.1.length/\Cz (λ(Og:Acp) (k13:Acp->Prop)=>Br (decide (Og.2.1<(↑bu.1.1.length:Int))) (((0:Int)<=Og.2.1/\Og.2.1<(↑Og.2.2.2.2.2.2.1.length:Int))/\ ∃(Ji:Int),Og.2.2.2.2.2.2.1[0+Og.2.1.toNat]?=some Ji/\((0:Int)<=l/\l<(↑Og.2.2.1.length:Int))/\0=0/\Og.2.2.2.2.2.2.1.length=Og.2.2.2.2.2.2.1.length/\0=0/\Og.2.2.1.length=Og.2.2.1.length/\0=0/\Og.2.2.2.2.1.length=Og.2.2.2.2.1.length/\Cz (λ(Rg:DG) (k16:DG->Prop)=>Br (decide (Rg.2.2.1<(↑(Og.2.2.1.getD (0+l.toNat) []).length:Int))) (((0:Int)<=Rg.2.2.1/\Rg.2.2.1<(↑(Rg.2.2.2.1.getD Rg.2.1 []).length:Int))/\((0:Int)<=Ji/\Ji<(↑(Rg.2.2.2.2.2.1.getD Rg.1 []).length:Int))/\ ∃(aG:Option (List Int)),Jq.fn (((Rg.2.2.2.2.2.1.getD Rg.1 []).getD Ji.toNat (none:Option (List Int))).getD [],((Rg.2.2.2.1.getD Rg.2.1 []).getD Rg.2.2.1.toNat (none:Option (List Int))).getD [],())=some aG/\ ∃(Xk:Int),idx (((Rg.2.2.2.1.getD Rg.2.1 []).getD Rg.2.2.1.toNat (none:Option (List Int))).getD []) Ji=some Xk/\((0:Int)<=Xk/\Xk<(↑(Rg.2.2.2.2.2.1.getD Rg.1 []).length:Int))/\ ∃(Sh:List Int),Ff.fn (((Rg.2.2.2.2.2.1.getD Rg.1 []).getD Xk.toNat (none:Option (List Int))).getD [],())=some Sh/\ ∃(Ok:Option (List Int)),Jq.fn (aG.getD [],Sh,())=some Ok/\0=0/\Rg.2.2.2.1.length=Rg.2.2.2.1.length/\0=0/\Rg.2.2.2.2.2.1.length=Rg.2.2.2.2.2.1.length/\ ∃(Xc:(Int×List (List (Option (List Int)))×List (List (Option (List Int)))×PUnit)×PUnit),(Ws m).fn (Rg.2.2.2.2.2.2.2.2.1,Rg.2.2.2.1,Rg.2.2.2.2.2.1,IntKind.i64.wrap (l+(1:Int)),Ok,())=some Xc/\(Rg.1<(Ws m).Ex (Rg.2.2.2.2.2.2.2.2.1,Rg.2.2.2.1,Rg.2.2.2.2.2.1,IntKind.i64.wrap (l+(1:Int)),Ok,())/\Rg.1<(List.length Xc.1.2.2.1))/\(Rg.2.1<(Ws m).Ex (Rg.2.2.2.2.2.2.2.2.1,Rg.2.2.2.1,Rg.2.2.2.2.2.1,IntKind.i64.wrap (l+(1:Int)),Ok,())/\Rg.2.1<(List.length Xc.1.2.1))/\(Rg.1<(Ws m).Ex (Rg.2.2.2.2.2.2.2.2.1,Rg.2.2.2.1,Rg.2.2.2.2.2.1,IntKind.i64.wrap (l+(1:Int)),Ok,())/\Rg.1<(List.length Xc.1.2.2.1))/\(Rg.1<(Ws m).Ex (Rg.2.2.2.2.2.2.2.2.1,Rg.2.2.2.1,Rg.2.2.2.2.2.1,IntKind.i64.wrap (l+(1:Int)),Ok,())/\Rg.1<(List.length Xc.1.2.2.1))/\0=0/\Rg.2.2.2.2.2.2.2.1.length=Rg.2.2.2.2.2.2.2.1.length/\0=0/\Xc.1.2.1.length=Xc.1.2.1.length/\0=0/\Xc.1.2.2.1.length=Xc.1.2.2.1.length/\k16 (Rg.1,Rg.2.1,IntKind.i64.wrap (Rg.2.2.1+(1:Int)),Xc.1.2.1,min Rg.2.2.2.2.1 ((Ws m).Ex (Rg.2.2.2.2.2.2.2.2.1,Rg.2.2.2.1,Rg.2.2.2.2.2.1,IntKind.i64.wrap (l+(1:Int)),Ok,())),Xc.1.2.2.1,min Rg.2.2.2.2.2.2.1 ((Ws m).Ex (Rg.2.2.2.2.2.2.2.2.1,Rg.2.2.2.1,Rg.2.2.2.2.2.1,IntKind.i64.wrap (l+(1:Int)),Ok,())),Rg.2.2.2.2.2.2.2.1,Xc.1.1,())) (0=0/\Rg.2.2.2.2.2.2.2.1.length=Rg.2.2.2.2.2.2.2.1.length/\0=0/\Rg.2.2.2.1.length=Rg.2.2.2.1.length/\0=0/\Rg.2.2.2.2.2.1.length=Rg.2.2.2.2.2.1.length/\k13 (Rg.1,IntKind.i64.wrap (Og.2.1+(1:Int)),Rg.2.2.2.1,Rg.2.2.2.2.1,Rg.2.2.2.2.2.1,Rg.2.2.2.2.2.2.1,Rg.2.2.2.2.2.2.2.1,Rg.2.2.2.2.2.2.2.2.1,()))) (Og.1,0+l.toNat,(0:Int),Og.2.2.1,Og.2.2.2.1,Og.2.2.2.2.1,Og.2.2.2.2.2.1,Og.2.2.2.2.2.2.1,Og.2.2.2.2.2.2.2.1,PUnit.unit)) ((0=0/\Og.2.2.1.length=Og.2.2.1.length)/\(0=0/\Og.2.2.2.2.1.length=Og.2.2.2.2.1.length)/\(Ws (m+1)).Ex (n,G,T,l,p,())<=Og.2.2.2.1/\(Ws (m+1)).Ex (n,G,T,l,p,())<=Og.2.2.2.2.2.1/\P ((Og.2.2.2.2.2.2.2.1,Og.2.2.1,Og.2.2.2.2.1,()),()))) (v9.1,(0:Int),v9.2.1,v9.2.2.1,v9.2.2.2.1,v9.2.2.2.2.1,bu.1.1,v9.2.2.2.2.2.2.1,PUnit.unit))) (0+l.toNat,G.set (0+l.toNat) (G.getD (0+l.toNat) []++List.take 1 (List.drop 0 [p])),min G.length (0+l.toNat),T,T.length,List.take y8.1.1.length (List.drop 0 y8.1.1),n,PUnit.unit))/\(((((0:Int)<=l/\l<(↑G.length:Int))/\((Ld G l p T y7 n))/\(Ld G l p T y7 n))/\((0:Int)<=l/\l<(↑G.length:Int))/\(Ld G l p T y7 n))/\((0:Int)<=l/\l<(↑G.length:Int))/\(Ld G l p T y7 n))/\(((((0:Int)<=l/\l<(↑G.length:Int))/\((Ld G l p T y7 n))/\(Ld G l p T y7 n))/\((0:Int)<=l/\l<(↑G.length:Int))/\(Ld G l p T y7 n))/\(((0:Int)<=l/\l<(↑G.length:Int))/\(((Ld G l p T y7 n))/\(Ld G l p T y7 n))/\(((Ld G l p T y7 n))/\((Ld G l p T y7 n))/\(Ld G l p T y7 n))/\((Ld G l p T y7 n))/\((Ld G l p T y7 n))/\(Ld G l p T y7 n))/\(((0:Int)<=l/\l<(↑G.length:Int))/\(Ld G l p T y7 n))/\((0:Int)<=l/\l<(↑G.length:Int))/\((Ld G l p T y7 n))/\((Ld G l p T y7 n))/\(Ld G l p T y7 n))/\(((0:Int)<=l/\l<(↑G.length:Int))/\(Ld G l p T y7 n))/\(((0:Int)<=l/\l<(↑G.length:Int))/\(Ld G l p T y7 n))/\((0:Int)<=l/\l<(↑G.length:Int))/\((Ld G l p T y7 n))/\((Ld G l p T y7 n))/\(Ld G l p T y7 n)))=fnMW (Acu [Rz+7]) (look [(99,om),(147,Yu),(121,Jq),(56,Ff),(130,Pf.m (Ws m))]) (Ws (m+1)) Tryz.f130 (n,G,T,l,p,()) P:=by kernel_rfl
theorem EP {k l:Nat} {p:List Int} {s:Co×Co} (h:Hy s.2 k l p=true):Hp k l p s=s:=by
 cases k with
 |zero=>rfl
 |succ k=>unfold Hp;rw [Ab h]
theorem EO (k l:Nat) (p:List Int) (s:Co×Co):Hp (k+1) l p s=if Hy s.2 (k+1) l p=true then s else
   (gE (Zn (s.1.getD l []++ [some p]) (s.2.getD l [])) (s.1.getD l []++ [some p])).foldl (λs q=>Hp k (l+1) q s)
    (s.1.set l (s.1.getD l []++ [some p]),s.2.set l (Zn (s.1.getD l []++ [some p]) (s.2.getD l []))):=rfl
theorem AI {n:Nat} {p:List Int} (h:Pm n p) {i:Nat} (hi:i<n):idx p (i:Int)=some (ap p i:Int):=by
 have nK:i<p.length:=by rw [h.1];exact hi
 rw [Bq nK,<-(h.aT hi).1,Mk nK]
theorem LW {x:Int} {gs:List PO} {j:Nat} (hj:j<gs.length) (s:Row×List Int):aM x (gs.take (j+1)) s=aV x (aM x (gs.take j) s) gs[j]:=by
 unfold aM
 rw [Fw,Ac hj,Lt,Vw]
 rfl
theorem LX {gs:List PO} {f:Nat} {row:Row} :az gs f [] row=row:=by cases f<;>rfl
theorem Xu {n:Nat} {p:List Int} (h:Pm n p):0<p.length/\p.length<=20:=⟨by rw [h.1];exact h.n1,by rw [h.1];exact h.n2⟩
theorem pV {n:Nat} {p q:List Int} (h:Pm n p) (k:Pm n q):Mm q.length p:=by rw [k.1];exact h.row
theorem Ap9 {m:Nat} (n:Int) (G T:List (List (Option (List Int)))) (l:Int) (p:Option (List Int)) (h:(∃N L q,p=some q/\Vy N L n G T l q)/\(n-l).toNat<m+1):
  fnMW (Acu [Rz+7]) (look [(99,om),(147,Yu),(121,Jq),(56,Ff),(130,Pf.m (Ws m))]) (Ws (m+1)) Tryz.f130 (n,G,T,l,p,()) (λ(z:(Int×List (List (Option (List Int)))×List (List (Option (List Int)))×Unit)×Unit)=>z=((n,(Hp (n-l).toNat l.toNat (p.getD []) (G,T)).1,(Hp (n-l).toNat l.toNat (p.getD []) (G,T)).2,()),())):=by
 obtain ⟨⟨N,L,q,rfl,h⟩,hm⟩:=h
 have h':=h
 obtain ⟨n1,n2,en,el,hle,v,pm,fx⟩:=h
 subst en el
 have hk:((N:Int)-(L:Int)).toNat=N-L:=by omega
 rw [hk,Ai]
 refine Eq.mp (Apy (N:Int) G T (L:Int) (some q) _) ⟨_,Ab ⟨N,L,?a⟩,?b⟩
 case a=>
  simp only [Dn,Ap,Bz]
  exact h'
 obtain ⟨v1,v2,v3,v4⟩:=v
 dsimp only at v1 v2
 have hw:IntKind.i64.wrap ((L:Int)+1)=((L+1:Nat):Int):=Bh (by omega)
 simp only [Ld]
 simp only [Dn,Ap,Bz,hk,Ai,Bv,eq_self,true_and,Ol,List.take_succ_cons,List.take_zero,Az,Gd,Bi,hw]
 refine Br.of (λhh=>⟨by show Int.toNat (L:Int)<=G.length;omega,by show Int.toNat (L:Int)<=T.length;omega,?_⟩) λhh=>?_
 ·rw [EP (s:=(G,T)) hh]
 obtain ⟨k,hNk⟩: ∃k,N-L=k+1:=by
  cases e:N-L with
  |zero=>rw [e] at hh;simp [Hy] at hh
  |succ k=>exact ⟨k,rfl⟩
 have hLN:L<N:=by omega
 have hv:V N (k+1) L (G,T):=by rw [<-hNk];exact ⟨v1,v2,v3,v4⟩
 rw [hNk] at hh⊢
 have e1:(0:Int)<=(L:Int)/\(L:Int)<(G.length:Int):=by omega
 have e1':(0:Int)<=(L:Int)/\(L:Int)<(T.length:Int):=by omega
 have hgl:(G.getD L []).length<=400:=SD n2 (by omega) hv
 have e2:(G.getD L []).length+1<=Cq:=by show _<=4294967296;omega
 simp only [e1,e1',e2,and_self,true_and,Ol]
 generalize nJ:G.getD L []++ [some q]=gs
 have Ay9:gs.length<=401:=by rw [<-nJ,Ax,By];omega
 have hg:PG N L gs:=by rw [<-nJ];exact hv.pg pm fx
 have hr0:Vc N L gs (T.getD L []):=by rw [<-nJ];exact hv.Auw q
 obtain ⟨r1,r2,r3⟩:=ID hLN n2 hg hr0
 generalize hR:Zn gs (T.getD L [])=R at r1 r2 r3
 have si:Hp (k+1) L q (G,T)=(gE R gs).foldl (λs q=>Hp k (L+1) q s) (G.set L gs,T.set L R):=by
  rw [EO,Ag (by rw [hh];simp)]
  dsimp only
  rw [nJ,hR]
 rw [si]
 have hTl:L<T.length:=by omega
 have hGl:L<G.length:=by omega
 have hG1:(G.set L gs).getD L []=gs:=dw G L hGl gs
 have hT1: ∀row:Row,(T.set L row).getD L []=row:=dw T L hTl
 refine ⟨_,Ab (by show (T.getD L []).length<=20;rw [hr0.rl];exact n2),?_⟩
 dsimp only
 have hn0:(Vj (T.getD L [])).length+Lu (T.getD L [])<=40:=by have:=BI (T.getD L []);have:=je (T.getD L []);have:=hr0.rl;omega
 have hq0:TZ gs (Vj (T.getD L [])) (T.getD L []):=⟨λy hy=>bf.1 hy,λy hy=> .inl (bf.2 ⟨y,rfl,hy⟩)⟩
 refine ⟨λv=> ∃(row:Row) (qu:List Int) (kg kt:Nat),v=(L,G.set L gs,kg,T.set L row,kt,qu,(N:Int),())/\L<=kg/\L<=kt/\qu.length+Lu row<=40/\Vc N L gs row/\TZ gs qu row/\az gs (qu.length+Lu row) qu row=R,
  fun v=>v.2.2.2.2.2.1.length+Lu (v.2.2.2.1.getD v.1 []),⟨T.getD L [],Vj (T.getD L []),min G.length L,T.length,?_,by omega,by omega,hn0,hr0,hq0,?_⟩,?_⟩
 ·rw [xu T L hTl]
 ·rw [<-FB hLN hg 100 _ _ (by omega) hr0 hq0];exact hR
 rintro v ⟨row,qu,kg,kt,rfl,hkg,hkt,hb,hro,hqi,hbf⟩
 dsimp only
 simp only [hG1,hT1,Bi]
 refine Br.dec (λhl=>⟨e1.2,?_⟩) λhl=>?_
 ·cases qu with
  |nil=>simp at hl
  |cons x qu=>
  obtain ⟨p1,p2,xn,t,rfl,ht⟩:=PD hLN hg hro hqi
  have hxn:xn<N:=by rw [<-hro.rl];exact nG ht
  refine Bf gs.length (λv=>v.2.2.1) (λj v=> ∃kg kt:Nat,v=(L,L,(j:Int),G.set L gs,kg,T.set L (aM (xn:Int) (gs.take j) (row,qu)).1,kt,(xn:Int)::(aM (xn:Int) (gs.take j) (row,qu)).2,(N:Int),())/\L<=kg/\L<=kt) rfl ⟨kg,kt,rfl,hkg,hkt⟩ ?_
  rintro j v K hj hi ⟨kg,kt,rfl,h1,h2⟩ hK
  dsimp only
  simp only [hG1,hT1,Ai]
  refine Br.dec (λhl=>?_) λhl=>?_
  ·have hl:j<gs.length:=by omega
   obtain ⟨x1,x2⟩:=Ac3 hLN hg (gs.take j) (q:=qu) (λo ho=>Gp ho) hro ht
   have Ts:=LW (x:=(xn:Int)) hl (row,qu)
   generalize aM (xn:Int) (gs.take j) (row,qu)=s at x1 x2 Ts⊢
   obtain ⟨r,qq⟩:=s
   dsimp only at x1 x2⊢
   obtain ⟨g,oZ,Tr,hgf⟩:=hg gs[j] (Aj hl)
   have htx:r.getD xn none=some t:=x1.mono _ _ ht
   obtain ⟨t1,t2,t3,t4⟩:=x1.ok.rt _ _ htx
   have hrl:r.length=N:=x1.ok.rl
   have hgj:gs.getD j none=some g:=by rw [FY hl];exact oZ
   have hy:=Tr.lt hxn
   have hga:=(Tr.aT hxn).1
   have Aex:qq.length+Lu r=qu.length+Lu row:=x1.phi
   simp only [Az] at hb
   simp only [hgj,Bz]
   refine ⟨⟨by omega,by omega⟩,⟨by omega,by simp only [Az];omega⟩,_,rfl,_,AI Tr hxn,⟨by omega,by omega⟩,?_⟩
   rw [oZ] at Ts
   unfold aV at Ts
   dsimp only at Ts
   rw [Bz,hga,Ai,Ai,htx,Bz] at Ts
   rw [Ai]
   refine Br.of (λhn=>?_) λhn=>?_
   ·have hn:r.getD (ap g xn) none=none:=by
     cases e:r.getD (ap g xn) none with
     |none=>rfl
     |some u=>rw [e] at hn;simp at hn
    rw [hn] at Ts
    refine ⟨⟨by omega,by simp only [Az];omega⟩,_,rfl,⟨by omega,by omega⟩,some (Al t g),?_,⟨by omega,by omega⟩,?_,?_⟩
    ·rw [Ai,htx,Bz]
     exact Ab ⟨Xu t1,pV t1 Tr⟩
    ·show qq.length+1+1<=4294967296
     omega
    ·rw [Bh (by omega)]
     refine hK hl _ rfl ⟨kg,kt,?_,h1,h2⟩
     rw [Ts,List.set_set]
     rfl
   ·have hn: ∃u,r.getD (ap g xn) none=some u:=by
     cases e:r.getD (ap g xn) none with
     |none=>rw [e] at hn;simp at hn
     |some u=>exact ⟨u,rfl⟩
    obtain ⟨u,hn⟩:=hn
    rw [hn] at Ts
    rw [Bh (by omega)]
    refine hK hl _ rfl ⟨kg,kt,?_,h1,h2⟩
    rw [Ts]
  ·have:j=gs.length:=by omega
   subst this
   rw [Ap]
   generalize hs:aM (xn:Int) gs (row,qu)=s at p1 p2⊢
   obtain ⟨r,qq⟩:=s
   dsimp only at p1 p2⊢
   have Aex:qq.length+Lu r=qu.length+Lu row:=p1.phi
   simp only [Az] at hb hbf
   refine ⟨⟨by omega,by simp only [Az];omega,Nx _⟩,⟨r,qq,kg,kt,?_,h1,h2,by omega,p1.ok,p2,?_⟩,?_⟩
   ·simp
   ·rw [show qu.length+1+Lu row=(qu.length+Lu row)+1 by omega] at hbf
    simp only [az,hs] at hbf
    rw [Aex]
    exact hbf
   ·simp only [Az]
    have:(List.take (qq.length+1-Int.toNat 1) (List.drop (Int.toNat 1) ((xn:Int)::qq))).length=qq.length:=by simp
    rw [this]
    omega
 ·have:qu= []:=Ck (by omega)
  subst this
  rw [LX] at hbf
  subst hbf
  have hpr:=Ac1 hLN hg hro r3
  have hvl:=hv.lower gs row
  have Aha: ∀qs:List (List Int),(∀q∈qs,q∈gE row gs)->V N k (L+1) (qs.foldl (λs q=>Hp k (L+1) q s) (G.set L gs,T.set L row))/\Vz (L+1) (G.set L gs,T.set L row) (qs.foldl (λs q=>Hp k (L+1) q s) (G.set L gs,T.set L row)):=
   fun qs VA=>RZ n1 n2 (by omega) qs _ (λq hq=>hpr q (VA q hq)) hvl
  refine ⟨_,Ab (by show row.length<=20;rw [hro.rl];exact n2),?_⟩
  dsimp only
  have hol:=BI row
  have hrl:=hro.rl
  refine Bf (Vj row).length (λv=>v.2.1) (λi v=> ∃(s:Co×Co) (kg kt:Nat),v=(L,(i:Int),s.1,kg,s.2,kt,Vj row,(N:Int),())/\L<=kg/\L<=kt/\s=(((Vj row).take i).flatMap λy=>gs.map (Ub row y)).foldl (λs q=>Hp k (L+1) q s) (G.set L gs,T.set L row)) rfl ⟨_,kg,kt,rfl,hkg,hkt,rfl⟩ ?_
  rintro i v K hi nK ⟨s,kg,kt,rfl,h1,h2,hs⟩ hK
  dsimp only
  have Qa: ∀q∈((Vj row).take i).flatMap (λy=>gs.map (Ub row y)),q∈gE row gs:= λq hq=>by
   obtain ⟨y,hy,hq⟩:=Hl.1 hq
   exact Hl.2 ⟨y,Gp hy,hq⟩
  refine Br.dec (λhl=>?_) λhl=>?_
  ·have hl:i<(Vj row).length:=by omega
   obtain ⟨f1,f2⟩:=Aha _ Qa
   rw [<-hs] at f1 f2
   have g1:s.1.getD L []=gs:=by rw [(f2.low L (by omega)).1];exact hG1
   have g2:s.1.length=N:=f1.1
   obtain ⟨yn,hyn,hyr⟩:=bf.1 (Aj hl)
   obtain ⟨t,ht⟩:=Tq.1 hyr
   have hyN:yn<N:=by rw [<-hrl];exact nG ht
   obtain ⟨t1,t2,t3,t4⟩:=hro.rt _ _ ht
   refine ⟨⟨by omega,by omega⟩,(yn:Int),by rw [Ai,Ac hl,hyn],by omega,?_⟩
   rw [g1]
   refine Bf gs.length (λv=>v.2.2.1) (λj v=> ∃(s':Co×Co) (kg kt:Nat),v=(L,L,(j:Int),s'.1,kg,s'.2,kt,Vj row,(N:Int),())/\L<=kg/\L<=kt/\s'=(((Vj row).take i).flatMap (λy=>gs.map (Ub row y))++(gs.take j).map (Ub row (yn:Int))).foldl (λs q=>Hp k (L+1) q s) (G.set L gs,T.set L row)) rfl ⟨s,kg,kt,rfl,h1,h2,by simpa using hs⟩ ?_
   rintro j v K' hj sd ⟨s',kg,kt,rfl,h1,h2,GN⟩ hK'
   dsimp only
   refine Br.dec (λKn=>?_) λKn=>?_
   ·have Kn:j<gs.length:=by omega
    have SU: ∀q∈((Vj row).take i).flatMap (λy=>gs.map (Ub row y))++(gs.take j).map (Ub row (yn:Int)),q∈gE row gs:= λq hq=>by
     rcases Bb.1 hq with hq|hq
     ·exact Qa q hq
     ·obtain ⟨o,ho,rfl⟩:=Bj.1 hq
      exact Hl.2 ⟨(yn:Int),bf.2 ⟨yn,rfl,hyr⟩,Bj.2 ⟨o,Gp ho,rfl⟩⟩
    obtain ⟨f1',f2'⟩:=Aha _ SU
    rw [<-GN] at f1' f2'
    obtain ⟨G',T'⟩:=s'
    dsimp only at f1' f2'⊢
    have g1':G'.getD L []=gs:=by have:=(f2'.low L (by omega)).1;dsimp only at this;rw [this];exact hG1
    have g3':T'.getD L []=row:=by have:=(f2'.low L (by omega)).2;dsimp only at this;rw [this];exact hT1 row
    have g4':G'.length=N:=f1'.1
    have g5':T'.length=N:=f1'.2.1
    obtain ⟨g,oZ,Tr,hgf⟩:=hg gs[j] (Aj Kn)
    have hgj:gs.getD j none=some g:=by rw [FY Kn];exact oZ
    have yC:some g∈gs:=by rw [<-oZ];exact Aj Kn
    have hy:=Tr.lt hyN
    obtain ⟨t',yF⟩:=Tq.1 (r3 yn t g ht yC)
    obtain ⟨u1,u2,u3,u4⟩:=hro.rt _ _ yF
    have Aog:Ub row (yn:Int) gs[j]=Al (Al t g) (Bk t'):=by rw [oZ];exact jy ht yF
    have hqm:=hpr _ (Hl.2 ⟨(yn:Int),bf.2 ⟨yn,rfl,hyr⟩,Bj.2 ⟨gs[j],Aj Kn,Aog⟩⟩)
    simp only [g1',g3',Ai,hgj,ht,Bz]
    have uq:L<Int.toNat ((L+1:Nat):Int):=by omega
    have ZZ:=zF n1 n2 k (L+1) _ (G',T') (by omega) f1' hqm.1 hqm.2
    have Avt:((Hp k (L+1) (Al (Al t g) (Bk t')) (G',T')).1).length=N:=ZZ.v.1
    have Avu:((Hp k (L+1) (Al (Al t g) (Bk t')) (G',T')).2).length=N:=ZZ.v.2.1
    have hkk:((N:Int)-((L+1:Nat):Int)).toNat=k:=by omega
    refine ⟨⟨by omega,by omega⟩,⟨by omega,by omega⟩,some (Al t g),Ab ⟨Xu t1,pV t1 Tr⟩,_,AI Tr hyN,⟨by omega,by omega⟩,Bk t',?_,some (Al (Al t g) (Bk t')),?_,_,Ab ⟨⟨N,L+1,_,rfl,?pr⟩,?lt⟩,⟨uq,?k1⟩,⟨uq,?k2⟩,⟨uq,?k3⟩,⟨uq,?k4⟩,?go⟩
    case pr=>exact ⟨n1,n2,rfl,rfl,by omega,by rw [show N-(L+1)=k by omega];exact f1',hqm.1,hqm.2⟩
    case lt=>
     show ((N:Int)-((L+1:Nat):Int)).toNat<m
     omega
    case go=>
     dsimp only
     rw [Bh (by omega)]
     refine hK' Kn _ rfl ⟨_,_,_,rfl,?_,?_,?_⟩
     ·show L<=min kg (Int.toNat ((L+1:Nat):Int));omega
     ·show L<=min kt (Int.toNat ((L+1:Nat):Int));omega
     ·rw [Fw,Ac Kn,Lt,Kc,<-Dg,Vw,<-GN]
      simp only [Cc,List.map_nil,Ig,List.foldl_nil,Aog,hkk,Ai,Bz]
    case k1=>simp only [hkk,Ai,Bz];omega
    case k2=>simp only [hkk,Ai,Bz];omega
    case k3=>simp only [hkk,Ai,Bz];omega
    case k4=>simp only [hkk,Ai,Bz];omega
    ·rw [Ai,yF,Bz]
     exact Ab ⟨by show t'.length<=20;rw [u1.1];exact n2,u1.2.row⟩
    ·exact Ab ⟨Xu (t1.comp Tr),pV (t1.comp Tr) u1.inv⟩
   ·have:j=gs.length:=by omega
    subst this
    rw [Bh (by omega)]
    refine hK hl _ rfl ⟨s',kg,kt,rfl,h1,h2,?_⟩
    rw [GN,Ap,Fw,Ac hl,Lt,List.flatMap_append,hyn]
    simp
  ·have:i=(Vj row).length:=by omega
   subst this
   rw [Ap] at hs
   refine ⟨h1,h2,?_⟩
   rw [hs]
   rfl
theorem Aci {m:Nat} (Akb:Ca Tryz.prog 130 (Ws m)):Ca Tryz.prog 130 (Ws (m+1)):=
 Ca.ky (Ag3 [Rz+7]) (Av zm (Ep xC (Av vP (Av Ww (Ep Akb Bg))))) mixed Tryz.func130 (by kernel_rfl) (by kernel_rfl) λx h=>Ap9 x.1 x.2.1 x.2.2.1 x.2.2.2.1 x.2.2.2.2.1 h
theorem PZ:Ca Tryz.prog 130 (Ws 0):=
 Ca.ky wk Bg mixed Tryz.func130 (by kernel_rfl) (by kernel_rfl) λ_ h=>absurd h.2 (Dq _)
theorem vK: ∀m,Ca Tryz.prog 130 (Ws m)
 |0=>PZ
 |m+1=>Aci (vK m)
noncomputable abbrev CH:MSpec:=ky Ai2 (λx=> ∃N L q,x.2.2.2.2.1=some q/\Vy N L x.1 x.2.1 x.2.2.1 x.2.2.2.1 q)
 (λx=>((x.1,(Hp (x.1-x.2.2.2.1).toNat x.2.2.2.1.toNat (x.2.2.2.2.1.getD []) (x.2.1,x.2.2.1)).1,(Hp (x.1-x.2.2.2.1).toNat x.2.2.2.1.toNat (x.2.2.2.2.1.getD []) (x.2.1,x.2.2.1)).2,()),()))
theorem QA:Ca Tryz.prog 130 CH:=Ca.Abo (λx=>(x.1-x.2.2.2.1).toNat) vK
def Tk (n:Nat):Co:=List.replicate n []
def ct (n i:Nat):Row:=(List.replicate n none).set i (some (upto n))
def Ze (n:Nat):Co:=(List.range n).map λi=>ct n i
def Up (n:Nat) (gens:List PO):Co×Co:=gens.foldl (λs o=>Hp n 0 (o.getD []) s) (Tk n,Ze n)
noncomputable abbrev NP:MSpec:= {Jj:= [none,none],ins:= [(false, .Fm tI),(false, .Fm tLO)],He:=false,Ih:= [none,none,none],outs:= [.Fm tI, .Bm tO wG false, .Bm tO wG false],fn:= λ_=>none,rp:=some 141}
noncomputable abbrev jx:MSpec:=ky NP (λx=>(1<=x.1/\x.1<=20)/\List.length x.2.1<=4294967296/\ ∀o∈(x.2.1:List PO),∃g,o=some g/\Pm x.1.toNat g)
 (λx=>((x.1,(Up x.1.toNat x.2.1).1,(Up x.1.toNat x.2.1).2,()),()))
abbrev bq:Type:=Int×List (List (Option (List Int)))×Int×List (List (Option (List Int)))×PUnit
theorem KT (n:Int) (gens:List (Option (List Int))) (P:(Int×List (List (Option (List Int)))×List (List (Option (List Int)))×Unit)×Unit->Prop):(((0:Int)<=n/\n<(↑Cq:Int)+(1:Int))/\n=n/\0=0/\(List.replicate n.toNat ([]:List (Option (List Int)))).length=(List.replicate n.toNat ([]:List (Option (List Int)))).length/\0=0/\0=([]:List Int).length/\Cz (λ(v3:bq) (k4:bq->Prop)=>Br (decide (v3.1<n)) (((0:Int)<=n/\n<(↑Cq:Int)+(1:Int))/\n=n/\ ∃(y5:Option (List Int)),Pv.fn (n,())=some y5/\((0:Int)<=v3.1/\v3.1<(↑(List.replicate n.toNat (none:Option (List Int))).length:Int))/\0+v3.1.toNat<(List.replicate n.toNat (none:Option (List Int))).length/\0=0/\(List.replicate n.toNat (none:Option (List Int))).length=((List.replicate n.toNat (none:Option (List Int))).set (0+v3.1.toNat) y5).length/\(0=0/\v3.2.2.2.1.length=v3.2.2.2.1.length)/\(0=0/\1= [(List.replicate n.toNat (none:Option (List Int))).set (0+v3.1.toNat) y5].length)/\0< [(List.replicate n.toNat (none:Option (List Int))).set (0+v3.1.toNat) y5].length/\v3.2.2.2.1.length+ [(List.replicate n.toNat (none:Option (List Int))).set (0+v3.1.toNat) y5].length<=Cq/\0=0/\v3.2.1.length=v3.2.1.length/\0=0/\(v3.2.2.2.1++ [(List.replicate n.toNat (none:Option (List Int))).set (0+v3.1.toNat) y5]).length=(v3.2.2.2.1++ [(List.replicate n.toNat (none:Option (List Int))).set (0+v3.1.toNat) y5]).length/\k4 (IntKind.i64.wrap (v3.1+(1:Int)),v3.2.1,v3.2.2.1,v3.2.2.2.1++ [(List.replicate n.toNat (none:Option (List Int))).set (0+v3.1.toNat) y5],())) (0=0/\v3.2.1.length=v3.2.1.length/\0=0/\v3.2.2.2.1.length=v3.2.2.2.1.length/\Cz (λ(v5:bq) (k6:bq->Prop)=>Br (decide (v5.1<(↑gens.length:Int))) (∃(y7:Option (List Int)),idx gens v5.1=some y7/\0=0/\v5.2.1.length=v5.2.1.length/\0=0/\v5.2.2.2.1.length=v5.2.2.2.1.length/\ ∃(y8:(Int×List (List (Option (List Int)))×List (List (Option (List Int)))×PUnit)×PUnit),CH.fn (v5.2.2.1,v5.2.1,v5.2.2.2.1,(0:Int),y7,())=some y8/\0=0/\y8.1.2.1.length=y8.1.2.1.length/\0=0/\y8.1.2.2.1.length=y8.1.2.2.1.length/\k6 (IntKind.i64.wrap (v5.1+(1:Int)),y8.1.2.1,y8.1.1,y8.1.2.2.1,())) ((0=0/\v5.2.1.length=v5.2.1.length)/\(0=0/\v5.2.2.2.1.length=v5.2.2.2.1.length)/\P ((v5.2.2.1,v5.2.1,v5.2.2.2.1,()),()))) ((0:Int),v3.2.1,v3.2.2.1,v3.2.2.2.1,PUnit.unit))) ((0:Int),List.replicate n.toNat ([]:List (Option (List Int))),n,[],PUnit.unit))=fnMW cG (look [(105,Pv),(130,CH)]) jx Tryz.f98 (n,gens,()) P:=by kernel_rfl
theorem Zd (n i:Nat):(Tk n).getD i []= []:=by
 unfold Tk
 rw [Ak,Zg]
 split<;>rfl
theorem mP {n i:Nat} (h:i<n):(Ze n).getD i []=ct n i:=by
 unfold Ze
 rw [Ak,Fc,gh h]
 rfl
theorem oK {n i y:Nat} (h:i<n):(ct n i).getD y none=if i=y then some (upto n) else none:=by
 unfold ct
 rw [Ky,Fz]
 by_cases e:i=y
 ·rw [Ab ⟨e,h⟩,Ab e]
 ·rw [Ag (λhh=>e hh.1),Ag e,Ak,Zg]
  split<;>rfl
theorem wb {n:Nat} (h1:1<=n) (h2:n<=20): ∀(k l:Nat),l+k=n->kO n k l (Tk n,Ze n)
 |0,l,hk=>Zd n l
 |k+1,l,hk=>by
  have hl:l<n:=by omega
  have hg: ∀(g:List Int) (j:Nat),some g∈(Tk n).getD j []->False:= λg j hg=>by rw [Zd] at hg;cases hg
  refine ⟨wb h1 h2 k (l+1) (by omega),⟨λo ho=>?_,?_,?_,λy t e0=>?_,λy t g _ Sz=>(hg _ _ Sz).elim,λy t g t' _ Sz=>(hg _ _ Sz).elim⟩,λg Sz=>(hg _ _ Sz).elim⟩
  ·have ho:o∈(Tk n).getD l []:=ho
   rw [Zd] at ho;cases ho
  ·show ((Ze n).getD l []).length=n
   rw [mP hl];simp [ct]
  ·show ((Ze n).getD l []).getD l none=_
   rw [mP hl,oK hl,Ab rfl]
  ·replace e0:((Ze n).getD l []).getD y none=some t:=e0
   rw [mP hl,oK hl] at e0
   by_cases hy:l=y
   ·rw [Ab hy] at e0
    have e1:=Ba e0
    subst e1 hy
    exact ⟨Pm.id h1 h2,λi hi=>l5 (by omega),l5 hl, .id⟩
   ·rw [Ag hy] at e0;cases e0
theorem JR (n:Nat): ∀(k l:Nat),GBf k l (Tk n,Ze n)
 |0,_=>trivial
 |k+1,l=>⟨JR n k (l+1),by show ((Tk n).getD l []).length<=_;rw [Zd];exact Iq _⟩
theorem ta {n:Nat} (h1:1<=n) (h2:n<=20):V n n 0 (Tk n,Ze n):=⟨by simp [Tk],by simp [Ze],wb h1 h2 n 0 (by omega),JR n n 0⟩
def PmL (n:Nat) (gens:List PO):Prop:= ∀o∈gens,∃g,o=some g/\Pm n g
theorem EN {n:Nat} {gens:List PO} {j:Nat} (hj:j<gens.length):Up n (gens.take (j+1))=Hp n 0 (gens[j].getD []) (Up n (gens.take j)):=by
 unfold Up
 rw [Fw,Ac hj,Lt,Vw]
 rfl
theorem pb {n:Nat} (h1:1<=n) (h2:n<=20): ∀(gens:List PO) (s:Co×Co),PmL n gens->V n n 0 s->V n n 0 (gens.foldl (λs o=>Hp n 0 (o.getD []) s) s)/\
  Vz 0 s (gens.foldl (λs o=>Hp n 0 (o.getD []) s) s)/\(∀g,some g∈gens->Gn n ((gens.foldl (λs o=>Hp n 0 (o.getD []) s) s).1.getD 0 []) g)/\ ∀o∈(gens.foldl (λs o=>Hp n 0 (o.getD []) s) s).1.getD 0 [],o∈s.1.getD 0 []\/o∈gens
 | [],s,_,hv=>⟨hv,Vz.refl _ _,(λ_ hg=>by cases hg),λ_ ho=> .inl ho⟩
 |o::gens,s,hg,hv=>by
  obtain ⟨g,rfl,Tr⟩:=hg o (by simp)
  have ha:=zF h1 h2 n 0 g s (by omega) hv Tr (λi hi=>absurd hi (Dq _))
  obtain ⟨a1,a2,a3,a4⟩:=pb h1 h2 gens (Hp n 0 g s) (λo ho=>hg o (by simp [ho])) ha.v
  refine ⟨a1,ha.grow.trans a2 (Ao _),λg' Sz=>?_,λo ho=>?_⟩
  ·rcases Be.1 Sz with e|Sz
   ·cases e;exact ha.Akc.mono λg hg=>a2.yu _ _ hg
   ·exact a3 g' Sz
  ·rcases a4 o ho with h|h
   ·rcases ha.gens o h with h|h
    ·exact .inl h
    ·exact .inr (by simp [h])
   ·exact .inr (by simp [h])
theorem EM {n:Nat} (h1:1<=n) (h2:n<=20) {gens:List PO} (hg:PmL n gens):V n n 0 (Up n gens):=(pb h1 h2 gens _ hg (ta h1 h2)).1
theorem mh {n:Nat} (h1:1<=n) (h2:n<=20) {gens:List PO} (hg:PmL n gens) {p:List Int} (hp:Pm n p):Hy (Up n gens).2 n 0 p=true↔Gn n gens p:=by
 obtain ⟨a1,a2,a3,a4⟩:=pb h1 h2 gens _ hg (ta h1 h2)
 have hS:EI n λg=>some g∈gens:=⟨⟨h1,h2⟩,λg Sz=>by obtain ⟨g',e,h⟩:=hg _ Sz;cases e;exact h⟩
 have Qa: ∀g,some g∈(Up n gens).1.getD 0 []->some g∈gens:= λg Sz=>by
  rcases a4 _ Sz with h|h
  ·have h:some g∈(Tk n).getD 0 []:=h
   rw [Zd] at h;cases h
  ·exact h
 have hS':EI n λg=>some g∈(Up n gens).1.getD 0 []:=⟨⟨h1,h2⟩,λg Sz=>hS.2 g (Qa g Sz)⟩
 refine (Ug h1 h2 n 0 (Up n gens) (by omega) a1.2.2.1 p hp λi hi=>absurd hi (Dq _)).trans ⟨λh=>h.mono Qa,λh=>h.trans hS' λg Sz=>a3 g Sz⟩
theorem IP (n:Int) (gens:List (Option (List Int))) (h:(1<=n/\n<=20)/\List.length gens<=4294967296/\ ∀o∈(gens:List PO),∃g,o=some g/\Pm n.toNat g):
  fnMW cG (look [(105,Pv),(130,CH)]) jx Tryz.f98 (n,gens,()) (λ(z:(Int×List (List (Option (List Int)))×List (List (Option (List Int)))×Unit)×Unit)=>z=((n,(Up n.toNat gens).1,(Up n.toNat gens).2,()),())):=by
 obtain ⟨⟨h1,h2⟩,h3,hg⟩:=h
 obtain ⟨N,rfl⟩: ∃N:Nat,n=N:=⟨n.toNat,by omega⟩
 rw [Ai] at hg⊢
 have h1:1<=N:=by omega
 have h2:N<=20:=by omega
 refine Eq.mp (KT (N:Int) gens _) ?_
 have hm:((0:Int)<=(N:Int)/\(N:Int)<(Cq:Int)+1):=⟨by omega,by show (N:Int)<(4294967296:Int)+1;omega⟩
 simp only [hm,and_self,eq_self,true_and,Ai,Bv,Gd,Bi,Fz,Az,Nat.lt_add_one,Ax]
 refine Bf N (λv=>v.1) (λj v=>v=((j:Int),Tk N,(N:Int),(List.range j).map (ct N),())) rfl rfl ?_
 rintro j v K hj hi rfl hK
 dsimp only
 refine Br.dec (λhl=>?_) λhl=>?_
 ·refine ⟨_,Ab ⟨by show (1:Int)<=N;omega,by show (N:Int)<=20;omega⟩,⟨by omega,by omega⟩,by rw [Ai];omega,?_,?_⟩
  ·show _<=4294967296
   simp only [Dj,List.length_range]
   omega
  ·rw [Bh (by omega)]
   refine hK (by omega) _ rfl ?_
   rw [il,Kc]
   rfl
 ·have:j=N:=by omega
  subst this
  refine Bf gens.length (λv=>v.1) (λi v=>v=((i:Int),(Up j (gens.take i)).1,(j:Int),(Up j (gens.take i)).2,())) rfl rfl ?_
  rintro i v K' nK At2 rfl hK'
  dsimp only
  refine Br.dec (λKn=>?_) λKn=>?_
  ·have Kn:i<gens.length:=by omega
   obtain ⟨g,oZ,Tr⟩:=hg gens[i] (Aj Kn)
   have hv:=EM h1 h2 (gens:=gens.take i) λo ho=>hg o (Gp ho)
   refine ⟨_,Bq Kn,_,Ab ⟨j,0,g,oZ,h1,h2,rfl,rfl,Iq _,hv,Tr,λi hi=>absurd hi (Dq _)⟩,?_⟩
   rw [Bh (by omega)]
   refine hK' Kn _ rfl ?_
   rw [EN Kn]
   simp only [Int.sub_zero,Ai]
   rfl
  ·have:i=gens.length:=by omega
   subst this
   rw [Ap]
theorem sA:Ca Tryz.prog 98 jx:=
 Ca.ky wk (Av ss (Ep QA Bg)) mixed Tryz.func98 (by kernel_rfl) (by kernel_rfl) λx h=>IP x.1 x.2.1 h
noncomputable abbrev GV:MSpec:= {Jj:= [none,none],ins:= [(false, .Fm tI),(false, .Fm dI)],He:=false,Ih:= [none,none,none],outs:= [.Fm tI, .Bm tO wG false, .Bm tO wG false],fn:= λ_=>none,rp:=some 141}
def cK (n:Int) (g:List (List Int)):Co×Co:=Up n.toNat (g.map some)
noncomputable abbrev Yt:MSpec:=ky GV (λx=>(1<=x.1/\x.1<=20)/\List.length x.2.1<=4294967296/\ ∀g∈(x.2.1:List (List Int)),Pm x.1.toNat g)
 (λx=>((x.1,(cK x.1 x.2.1).1,(cK x.1 x.2.1).2,()),()))
noncomputable def Nu (p:PP) (s:List Int):Bool:=(Ea p&&Gl p.1 s)&&Hy (cK p.1 p.2.2.1).2 p.1.toNat 0 s
noncomputable abbrev Nm:Spec:=En (.pair Fb (.pair tL .unit)) .bool false true (λx=>Ei x.1/\short x.2.1) (λx=>Nu x.1 x.2.1)
theorem Cells.told {w:World} {S:Nat->Prop} {e:Ty} {cs:List Value} {xs:List e.den} (h:Cells w S (.slice e) cs xs): ∃o:Option (List e.den),Cells w S (.oslice e) cs o/\o.getD []=xs:=by
 simp only [Cells] at h
 obtain ⟨a,len,cap,rfl,h1,h2,h3⟩:=h
 cases a with
 |none=>
  rcases h3 with rfl|⟨g,o,h,_⟩
  ·refine ⟨none,?_,rfl⟩
   simp only [Cells]
   exact .inl ⟨trivial,cap,by rw [h1];rfl⟩
  ·cases h
 |some ad=>
  refine ⟨some xs,?_,rfl⟩
  simp only [Cells]
  exact .inr ⟨xs,ad,len,cap,rfl,rfl,h1,h2,h3.imp id λ⟨g,o,h,h4⟩=>⟨g,o,Ba h,h4⟩⟩
theorem LS {α β:Type} (Q:Nat->α->β->Prop): ∀(xs:List α),(∀i x,xs[i]?=some x-> ∃y,Q i x y)-> ∃ys:List β,ys.length=xs.length/\ ∀i x y,xs[i]?=some x->ys[i]?=some y->Q i x y:=by
 intro xs h
 refine ⟨List.ofFn λi:Fin xs.length=>Classical.choose (h i xs[i] (Ac i.2)),by simp,λi x y h1 h2=>?_⟩
 obtain ⟨hi,rfl⟩:=An.1 h1
 obtain ⟨nK,rfl⟩:=An.1 h2
 rw [List.getElem_ofFn]
 exact Classical.choose_spec (h i xs[i] (Ac hi))
theorem Ct.Ai9 {w:World} {S:Nat->Prop} {e:Ty} {v:Value} {xs:List (List e.den)} (h:Ct w S (.slice (.slice e)) v xs): ∃os:List (Option (List e.den)),Ct w S (.slice (.oslice e)) v os/\os.map (·.getD [])=xs:=by
 obtain ⟨cs,hc,rfl⟩:=h
 simp only [Cells] at hc
 obtain ⟨a,len,cap,rfl,h1,h2,h3⟩:=hc
 rcases h3 with rfl|⟨g,o,rfl,hg,hS,h4⟩
 ·refine ⟨[],⟨_,?_,rfl⟩,rfl⟩
  simp only [Cells]
  exact ⟨a,len,cap,rfl,h1,h2, .inl trivial⟩
 ·obtain ⟨os,e1,e2⟩:=LS (λi (x:List e.den) (y:Option (List e.den))=>y.getD []=x/\ ∃es:List Value,es.length=1/\(∀j u,es[j]?=some u->w.cell? ⟨g,o+i*1+j,none⟩=some u)/\Cells w S (.oslice e) es y) xs λi x hx=>by
   obtain ⟨es,k1,k2,k3⟩:=h4 i x hx
   obtain ⟨y,k4,k5⟩:=Cells.told (e:=e) (by simp only [Cells];exact k3)
   exact ⟨y,k5,es,k1,k2,k4⟩
  refine ⟨os,⟨_,?_,rfl⟩,?_⟩
  ·simp only [Cells]
   refine ⟨_,len,cap,rfl,by rw [h1,e1],h2, .inr ⟨g,o,rfl,hg,hS,λi y hy=>?_⟩⟩
   obtain ⟨hi,_⟩:=An.1 hy
   obtain ⟨_,es,k1,k2,k3⟩:=e2 i _ y (Ac (by omega)) hy
   simp only [Cells] at k3
   exact ⟨es,k1,k2,k3⟩
  ·refine List.ext_getElem (by simp [e1]) λi g1 g2=>?_
   rw [Sx]
   exact (e2 i _ _ (Ac g2) (Ac (by omega))).1
theorem vV:Ca Tryz.prog 98 Yt:=by
 have h:=sA
 refine ⟨h.enter,λw S π us x r o g vs h1 hg h2 h3 hS h4 h5=>?_⟩
 obtain ⟨n,gens,⟨⟩⟩:=x
 match us,h2 with
 |u1::u2::us,h2=>
  obtain ⟨h6,⟨h7,h8⟩,h9⟩:=h2
  obtain ⟨os,oY,gS⟩:=Ct.Ai9 (e:=tI) h8
  have gS:os.map (·.getD [])=(gens:List (List Int)):=gS
  have gU:(1<=n/\n<=20)/\List.length gens<=4294967296/\ ∀g∈(gens:List (List Int)),Pm n.toNat g:=Ce λhn=>by
   have:Yt.fn (n,gens,())=none:=Ag hn
   rw [this] at h5;cases h5
  have hos:os=gens.map some:=by
   rw [<-gS,List.map_map]
   refine (List.map_id os).symm.trans (El λx hx=>?_)
   cases x with
   |some y=>rfl
   |none=>
    have:=gU.2.2 [] (by rw [<-gS];exact Bj.2 ⟨none,hx,rfl⟩)
    have h1:=this.n1
    have h2:=this.1
    simp at h2
    omega
  have hv:Yt.fn (n,gens,())=some ((n,(cK n gens).1,(cK n gens).2,()),()):=Ab gU
  rw [hv] at h5
  have h5:=Ba h5
  refine h.calls w S π (u1::u2::us) (n,os,()) r o g vs h1 hg ⟨h6,⟨h7,oY⟩,h9⟩ h3 hS h4 ?_
  refine (Ab ⟨gU.1,by rw [hos,Dj];exact gU.2.1,λy hy=>?pp⟩).trans (Mf some ?qq)
  case pp=>
   replace hy:y∈os:=hy
   rw [hos] at hy
   obtain ⟨g,hg,rfl⟩:=Bj.1 hy
   exact ⟨g,rfl,gU.2.2 g hg⟩
  case qq=>subst hos;exact h5
theorem dR {p:PP} (hv:Valid p):(1<=p.1/\p.1<=20)/\List.length p.2.2.1<=4294967296/\ ∀g∈p.2.2.1,Pm p.1.toNat g:=
 ⟨hv.n,by have:=hv.wP;omega,λg hg=>⟨by have:=hv.len g hg;omega,fF (hv.perm g hg)⟩⟩
theorem ez {n:Nat} {g:List (List Int)} (h: ∀x∈g,Pm n x):PmL n (g.map some):= λo ho=>by
 obtain ⟨x,hx,rfl⟩:=Bj.1 ho
 exact ⟨x,rfl,h x hx⟩
theorem Aea {p:PP} (hv:Valid p):V p.1.toNat p.1.toNat 0 (cK p.1 p.2.2.1):=by
 have:=hv.n
 exact EM (by omega) (by omega) (ez (dR hv).2.2)
theorem ov {g:List (List Int)} {x:List Int} :some x∈g.map some↔x∈g:=by simp
theorem NW {n:Nat} {g:List (List Int)} {x:List Int} (h:Gn n (g.map some) x) {l:Int} (hl:l∈Aw g.length):Gn n (g.map some) (Al x (Bt g l)):=by
 obtain ⟨k,hk,rfl|rfl⟩:=So (Pr hl)
 ·rw [Ut hk];exact .mul h (ov.2 (Aj hk))
 ·rw [Us hk];exact .inv h (ov.2 (Aj hk))
theorem Vh {n k:Nat} (hk:k<n):(k:Int)+1∈Aw n/\ -((k:Int)+1)∈Aw n:=by
 unfold Aw
 exact ⟨Hl.2 ⟨k,Gh.2 hk,by simp⟩,Hl.2 ⟨k,Gh.2 hk,by simp⟩⟩
theorem Hg.nodup {m:Nat} {L:List (List Int)} {Mw:List Int} (h:Hg m L Mw):L.Nodup:=
 Ey.2 λi j hi hj iW e=>by have:=h.inj hi hj e;omega
theorem Jt {α:Type} {xs ys:List α} {i:Nat} {d:α} (h:i<xs.length):(xs++ys).getD i d=xs.getD i d:=by
 rw [Ak,Ak,As h]
theorem kd {α:Type} {xs:List α} {x d:α} :(xs++ [x]).getD xs.length d=x:=by
 rw [Ak,Ar (Ao _),Nat.sub_self];rfl
theorem Zm {α:Type} {xs:List α} {i:Nat} {d:α} (h:i<xs.length):xs.getD i d=xs[i]:=by
 rw [Ak,Ac h];rfl
structure Lv (g:List (List Int)) (ls:List Int) (k:Nat) (L:List (List Int)) (D:List Int):Prop where
 len:D.length=L.length
 pos:0<L.length
 mono: ∀i j,i<=j->j<L.length->D.getD i 0<=D.getD j 0
 Afb:k<L.length-> ∀j,j<L.length->D.getD j 0<=D.getD k 0+1
 par: ∀j,0<j->j<L.length-> ∃i l,i<j/\l∈ls/\L.getD j []=Al (L.getD i []) (Bt g l)/\D.getD j 0=D.getD i 0+1
 zero:D.getD 0 0=0
theorem Lv.add {g:List (List Int)} {ls:List Int} {k:Nat} {L:List (List Int)} {D:List Int} (h:Lv g ls k L D) (hk:k<L.length) {l:Int} (hl:l∈ls):
  Lv g ls k (L++ [Al (L.getD k []) (Bt g l)]) (D++ [D.getD k 0+1]):=by
 have hlen:=h.len
 have hD: ∀i,i<L.length->(D++ [D.getD k 0+1]).getD i 0=D.getD i 0:= λi hi=>Jt (by omega)
 have hDl:(D++ [D.getD k 0+1]).getD L.length 0=D.getD k 0+1:=by rw [<-hlen];exact kd
 refine ⟨by simp [hlen],by simp,λi j iW hj=>?_,λ_ j hj=>?_,λj h0 hj=>?_,?_⟩
 ·rw [Ax,By] at hj
  by_cases e:j=L.length
  ·subst e
   rw [hDl]
   by_cases e':i=L.length
   ·subst e';rw [hDl];exact Nx _
   ·rw [hD i (by omega)]
    exact h.Afb hk i (by omega)
  ·rw [hD i (by omega),hD j (by omega)]
   exact h.mono i j iW (by omega)
 ·rw [Ax,By] at hj
  rw [hD k hk]
  by_cases e:j=L.length
  ·subst e;rw [hDl];exact Nx _
  ·rw [hD j (by omega)];exact h.Afb hk j (by omega)
 ·rw [Ax,By] at hj
  by_cases e:j=L.length
  ·subst e
   exact ⟨k,l,hk,hl,by rw [kd,Jt hk],by rw [hDl,hD k hk]⟩
  ·obtain ⟨i,l',h1,h2,h3,h4⟩:=h.par j h0 (by omega)
   exact ⟨i,l',h1,h2,by rw [Jt (by omega),Jt (by omega)];exact h3,by rw [hD j (by omega),hD i (by omega)];exact h4⟩
 ·rw [hD 0 h.pos];exact h.zero
theorem tE {g:List (List Int)} {ls:List Int} {k:Nat} : ∀(TC:List Int) (L:List (List Int)) (D:List Int),(∀l∈TC,l∈ls)->Lv g ls k L D->k<L.length-> ∀ {x:List Int} {d:Int},x=L.getD k []->d=D.getD k 0->
  Lv g ls k (Mg g x d TC L D).1 (Mg g x d TC L D).2.1/\(∃A,(Mg g x d TC L D).1=L++A)/\(∃A,(Mg g x d TC L D).2.1=D++A)/\
  ((Mg g x d TC L D).2.2=true-> ∀l∈TC,∃j,j<(Mg g x d TC L D).1.length/\(Mg g x d TC L D).1.getD j []=Al x (Bt g l)/\(Mg g x d TC L D).2.1.getD j 0<=d+1)
 | [],L,D,_,h,_,x,d,_,_=>⟨h,⟨[],by simp [Mg]⟩,⟨[],by simp [Mg]⟩,λ_ l hl=>by cases hl⟩
 |l::TC,L,D,hs,h,hk,x,d,hx,hd=>by
  have GN: ∀l∈TC,l∈ls:= λl' h'=>hs l' (At _ h')
  have hlen:=h.len
  simp only [Mg]
  split
  ·rename_i hm
   obtain ⟨a1,⟨A,a2⟩,⟨A',a3⟩,a4⟩:=tE TC L D GN h hk hx hd
   refine ⟨a1,⟨A,a2⟩,⟨A',a3⟩,λe l' Kn=>?_⟩
   rcases Be.1 Kn with rfl|Kn
   ·obtain ⟨j,hj,hjx⟩:=Cl.1 hm
    refine ⟨j,by rw [a2,Ax];omega,by rw [a2,Jt hj,Zm hj];exact hjx,?_⟩
    rw [a3,Jt (by omega),hd]
    exact h.Afb hk j hj
   ·exact a4 e l' Kn
  ·split
   ·exact ⟨h,⟨[],by simp⟩,⟨[],by simp⟩,λe=>by cases e⟩
   ·have ZZ:=h.add hk (hs l (by simp))
    rw [<-hx,<-hd] at ZZ
    obtain ⟨a1,⟨A,a2⟩,⟨A',a3⟩,a4⟩:=tE TC (L++ [Al x (Bt g l)]) (D++ [d+1]) GN ZZ (by rw [Ax];omega) (x:=x) (d:=d) (by rw [Jt hk];exact hx) (by rw [Jt (by omega)];exact hd)
    refine ⟨a1,⟨_::A,by rw [a2,Dg];rfl⟩,⟨_::A',by rw [a3,Dg];rfl⟩,λe l' Kn=>?_⟩
    rcases Be.1 Kn with rfl|Kn
    ·refine ⟨L.length,by rw [a2,Ax,Ax];simp only [By];omega,?_,?_⟩
     ·rw [a2,Jt (by simp),kd]
     ·rw [a3,Jt (by simp [hlen]),<-hlen,kd]
      exact Nx _
    ·exact a4 e l' Kn
structure LP (g:List (List Int)) (ls:List Int) (L:List (List Int)) (D:List Int):Prop where
 len:D.length=L.length
 pos:0<L.length
 zero:D.getD 0 0=0
 par: ∀j,0<j->j<L.length-> ∃i l,i<j/\l∈ls/\L.getD j []=Al (L.getD i []) (Bt g l)/\D.getD j 0=D.getD i 0+1
 step: ∀i,i<L.length-> ∀l∈ls,∃j,j<L.length/\L.getD j []=Al (L.getD i []) (Bt g l)/\D.getD j 0<=D.getD i 0+1
theorem EZ {g:List (List Int)} {ls:List Int} : ∀(f k:Nat) (L:List (List Int)) (D:List Int),3001<=f+k->Lv g ls k L D->k<=L.length->
  (∀i,i<k-> ∀l∈ls,∃j,j<L.length/\L.getD j []=Al (L.getD i []) (Bt g l)/\D.getD j 0<=D.getD i 0+1)->
  (Ri g ls f k L D).2.2=true->(Ri g ls f k L D).1.length<=3000->LP g ls (Ri g ls f k L D).1 (Ri g ls f k L D).2.1
 |0,k,L,D,hf,h,hkL,hc,hw,h3=>by
  simp only [Ri] at h3⊢
  omega
 |f+1,k,L,D,hf,h,hkL,hc,hw,h3=>by
  simp only [Ri] at hw h3⊢
  split
  ·rename_i hk
   rw [Ab hk] at hw h3
   obtain ⟨a1,⟨A,a2⟩,⟨A',a3⟩,a4⟩:=tE (x:=L.getD k []) (d:=D.getD k 0) ls L D (λ_ h=>h) h hk rfl rfl
   have hlen:=h.len
   split
   ·rename_i L' D' he
    rw [he] at a1 a2 a3 a4
    simp only [he] at hw h3
    have a2:L'=L++A:=a2
    have a3:D'=D++A':=a3
    have a4:=a4 rfl
    dsimp only at a4
    have hLl:L.length<=L'.length:=by rw [a2,Ax];omega
    refine EZ f (k+1) L' D' (by omega) ⟨a1.len,a1.pos,a1.mono,λhk1 j hj=>?_,a1.par,a1.zero⟩ (by omega) (λi hi l hl=>?_) hw h3
    ·have h1:D'.getD j 0<=D'.getD k 0+1:=a1.Afb (show k<L'.length by omega) j hj
     have h2:D'.getD k 0<=D'.getD (k+1) 0:=a1.mono k (k+1) (by omega) hk1
     omega
    ·by_cases e:i=k
     ·subst e
      obtain ⟨j,b1,b2,b3⟩:=a4 l hl
      refine ⟨j,b1,?_,?_⟩
      ·rw [b2,a2,Jt (by omega)]
      ·rw [show D'.getD i 0=D.getD i 0 by rw [a3,Jt (by omega)]];exact b3
     ·obtain ⟨j,b1,b2,b3⟩:=hc i (by omega) l hl
      refine ⟨j,by omega,?_,?_⟩
      ·rw [a2,Jt (by omega),Jt (by omega)];exact b2
      ·rw [a3,Jt (by omega),Jt (by omega)];exact b3
   ·rename_i L' D' he
    simp only [he] at hw
    cases hw
  ·rename_i hk
   exact ⟨h.len,h.pos,h.zero,h.par,λi hi=>hc i (by have hi:i<L.length:=hi;omega)⟩
theorem LY {p:PP} {s:List Int} (hv:Ea p=true) (hs:s.length<=20) (hr: ∀y∈s,0<=y/\y<p.1) (hw:(Kr p.2.2.1 s).2.2=true):
  LP p.2.2.1 (Aw p.2.2.1.length) (Kr p.2.2.1 s).1 (Kr p.2.2.1 s).2.1:=by
 have hb:=(LZ hv hs hr).1.ok.wP
 refine EZ 3001 0 [s] [0] (by omega) ⟨rfl,by simp,λi j iW hj=>?_,λ_ j hj=>?_,λj h0 hj=>?_,rfl⟩ (Iq _) (λi hi=>absurd hi (Dq _)) hw hb
 ·have:j=0:=by simpa using hj
  subst this
  have:i=0:=by omega
  subst this
  exact Nx _
 ·have:j=0:=by simpa using hj
  subst this
  simp
 ·have:j=0:=by simpa using hj
  omega
theorem HG {p:PP} (hV:Valid p) {x:List Int} (hx: ∀y∈x,0<=y/\y<p.1) {l:Int} (hl:l∈Aw p.2.2.1.length):
  -l∈Aw p.2.2.1.length/\Al (Al x (Bt p.2.2.1 l)) (Bt p.2.2.1 (-l))=x:=by
 obtain ⟨k,hk,Se⟩:=So (Pr hl)
 have hg:=fF (hV.perm _ (Aj hk))
 have hgl:=hV.len _ (Aj hk)
 have hn:=hV.n
 have hp:Pm p.1.toNat (p.2.2.1[k]):=⟨by omega,hg⟩
 have key: ∀q r:List Int,Pm p.1.toNat q->Pm p.1.toNat r->Al q r=upto p.1.toNat->Al (Al x q) r=x:= λq r hq hr he=>by
  refine List.ext_getElem (by rw [Pj,Pj]) λi h1 h2=>?_
  have hxi:=hx _ (Aj h2)
  obtain ⟨xi,hxe⟩:=Qv hxi.1
  have hxn:xi<p.1.toNat:=by omega
  have e1:ap (Al q r) xi=ap (upto p.1.toNat) xi:=Mf (λz=>ap z xi) he
  rw [Lp hq hr hxn,l5 hxn] at e1
  simp only [Al,Sx,hxe]
  have h3:=(hq.aT hxn).1
  have h4:=(hr.aT (hq.lt hxn)).1
  rw [h3,h4,e1]
 rcases Se with rfl|rfl
 ·refine ⟨(Vh hk).2,?_⟩
  rw [Ut hk,Us hk]
  exact key _ _ hp hp.inv (nj hp)
 ·refine ⟨by rw [Int.neg_neg];exact (Vh hk).1,?_⟩
  rw [Int.neg_neg,Ut hk,Us hk]
  exact key _ _ hp.inv hp (eh hp)
structure eQ (g:List (List Int)) (ls:List Int) (L:List (List Int)) (S:List Int->Prop) (d:List Int->Int):Prop where
 nn: ∀x∈L,0<=d x
 zero: ∀x∈L,d x=0↔S x
 step: ∀x∈L,∀l∈ls,d (Al x (Bt g l))<=d x+1
 down: ∀x∈L,0<d x-> ∃l∈ls,d (Al x (Bt g l))=d x-1
structure zw (g:List (List Int)) (ls:List Int) (L:List (List Int)):Prop where
 next: ∀x∈L,∀l∈ls,Al x (Bt g l)∈L
 back: ∀x∈L,∀l∈ls,-l∈ls/\Al (Al x (Bt g l)) (Bt g (-l))=x
theorem eQ.le {g:List (List Int)} {ls:List Int} {L:List (List Int)} {S:List Int->Prop} {d d':List Int->Int} (hc:zw g ls L) (h:eQ g ls L S d) (h':eQ g ls L S d'):
  ∀(n:Nat) (x:List Int),x∈L->d' x=n->d x<=n
 |0,x,hx,e=>by
  have:=(h.zero x hx).2 ((h'.zero x hx).1 e)
  omega
 |n+1,x,hx,e=>by
  obtain ⟨l,hl,hd⟩:=h'.down x hx (by omega)
  obtain ⟨b1,b2⟩:=hc.back x hx l hl
  have h1:=eQ.le hc h h' n _ (hc.next x hx l hl) (by omega)
  have h2:=h.step _ (hc.next x hx l hl) _ b1
  rw [b2] at h2
  omega
theorem eQ.eq {g:List (List Int)} {ls:List Int} {L:List (List Int)} {S:List Int->Prop} {d d':List Int->Int} (hc:zw g ls L) (h:eQ g ls L S d) (h':eQ g ls L S d') {x:List Int} (hx:x∈L):d x=d' x:=by
 have n1:=h.nn x hx
 have n2:=h'.nn x hx
 have h1:=eQ.le hc h h' (d' x).toNat x hx (by omega)
 have h2:=eQ.le hc h' h (d x).toNat x hx (by omega)
 omega
theorem NJ {L:List (List Int)} (hn:L.Nodup) {j:Nat} (hj:j<L.length):L.idxOf (L.getD j [])=j:=by
 rw [Zm hj]
 exact hn.idxOf_getElem j hj
theorem ZW {L:List (List Int)} {j:Nat} (hj:j<L.length):L.getD j []∈L:=by rw [Zm hj];exact Aj hj
theorem x5 {p:PP} (hV:Valid p) {m:Nat} {L:List (List Int)} {D:List Int} (hb:aH p m L D) (h:LP p.2.2.1 (Aw p.2.2.1.length) L D):zw p.2.2.1 (Aw p.2.2.1.length) L where
 next x hx l hl:=by
  obtain ⟨i,hi,rfl⟩:=Cl.1 hx
  obtain ⟨j,h1,h2,_⟩:=h.step i hi l hl
  rw [Zm hi] at h2
  rw [<-h2]
  exact ZW h1
 back x hx l hl:=HG hV (hb.row x hx) hl
noncomputable abbrev bE:Spec:=En (.pair tL (.pair tL .unit)) tL false true (λx=>short x.2.1/\Mm (List.length x.1) x.2.1) (λx=>Ef x.1 x.2.1)
theorem YD (xs is:List Int) (P:List Int->Prop):(((0:Int)<=(↑is.length:Int)/\(↑is.length:Int)<(↑Cq:Int)+(1:Int))/\(↑is.length:Int)=(↑is.length:Int)/\0=0/\(List.replicate (↑is.length:Int).toNat (Int.ofNat (nat_lit 0))).length=(List.replicate (↑is.length:Int).toNat (Int.ofNat (nat_lit 0))).length/\Cz (λ(v3:Int×List Int×PUnit) (k4:Int×List Int×PUnit->Prop)=>Br (decide (v3.1<(↑is.length:Int))) (∃(y5:Int),idx is v3.1=some y5/\ ∃(y6:Int),idx xs y5=some y6/\((0:Int)<=v3.1/\v3.1<(↑v3.2.1.length:Int))/\0+v3.1.toNat<v3.2.1.length/\0=0/\v3.2.1.length=(v3.2.1.set (0+v3.1.toNat) y6).length/\k4 (IntKind.i64.wrap (v3.1+(1:Int)),v3.2.1.set (0+v3.1.toNat) y6,())) (P (List.take v3.2.1.length (List.drop 0 v3.2.1)))) ((0:Int),List.replicate (↑is.length:Int).toNat (Int.ofNat (nat_lit 0)),PUnit.unit))=fnW Ej (look []) bE Tryz.f80 (xs,is,()) P:=by kernel_rfl
theorem VG {p:List Int} (h:bN p):Jo p=true:=by
 refine Hq.2 ⟨h.pos,h.len,λj h1 h2=>?_⟩
 have:=h.row _ (Aj h2)
 exact ⟨by omega,by omega,λhm=>by
  obtain ⟨i,hi,e⟩:=Cl.1 hm
  have nK:i<j:=by rw [De] at hi;omega
  rw [List.getElem_take] at e
  exact (Ey.1 h.nodup i j (by omega) h2 nK) e⟩
theorem ub {p:PP} (hV:Valid p):EI p.1.toNat λg=>some g∈p.2.2.1.map some:=
 ⟨by have:=hV.n;omega,λg Sz=>by obtain ⟨g',e,h⟩:=ez (dR hV).2.2 _ Sz;cases e;exact h⟩
theorem Al7 {p:PP} (hV:Valid p) {x:List Int} (h:Pm p.1.toNat x):Gl p.1 x=true:=by
 have:=hV.n
 have:=h.1
 exact Hq.2 ⟨by omega,VG h.2⟩
theorem Ais {p:PP} (_hV:Valid p) {x:List Int} (h:Gl p.1 x=true):Pm p.1.toNat x:=by
 obtain ⟨h1,h2⟩:=Hq.1 h
 exact ⟨by omega,fF h2⟩
theorem Aim {b:Bool} (h:(!b)=true):b=false:=by cases b<;>simp_all
theorem tS {a b:List Int} :Ci a b=true↔a=b:=Ka
theorem WC (xs is:List Int) (h:short is/\Mm xs.length is):fnW Ej (look []) bE Tryz.f80 (xs,is,()) (λ(z:List Int)=>z=Ef xs is):=by
 obtain ⟨h,hr⟩:=h
 unfold short at h
 have Pe:(Ef xs is).length=is.length:=uZ xs is
 refine Eq.mp (YD xs is _) ⟨⟨by omega,by show (is.length:Int)<(4294967296:Int)+1;omega⟩,rfl,rfl,rfl,?_⟩
 refine Bf is.length (λv=>v.1) (λj v=>v.2.1.length=(Ef xs is).length/\v.2.1.take j=(Ef xs is).take j) rfl ⟨by rw [Pe];simp,by simp⟩ ?_
 rintro j ⟨i,ys,⟨⟩⟩ K hj hi ⟨h1,h2⟩ hK
 dsimp only at hi h1 h2⊢
 subst hi
 refine Br.dec (λhl=>?_) λhl=>?_
 ·have hl:j<is.length:=by omega
  have hx:=hr _ (Aj hl)
  obtain ⟨xn,hxe⟩:=Qv hx.1
  have Kn:j<(Ef xs is).length:=by rw [Pe];exact hl
  have e:xs[xn]'(by omega)=(Ef xs is)[j]:=by
   simp only [Ef,Sx,Nq,hxe,Ai]
   rw [Zm]
  refine ⟨_,Bq hl,xs[xn]'(by omega),by rw [hxe];exact Bq (by omega),⟨by omega,by omega⟩,by rw [Ai,Bv];omega,rfl,by rw [Bi],?_⟩
  rw [Bh (by omega),Ai,Bv,e]
  refine hK hl _ rfl ⟨by rw [Bi];exact h1,?_⟩
  rw [Fw,List.take_set_of_le (by omega),h2,List.getElem?_set_self (by omega),Fw,Ac Kn]
 ·have:j=is.length:=by omega
  subst this
  rw [Bx,<-Ap (l:=ys),h1,Pe,h2,<-Pe,Ap]
theorem xE:Sound Tryz.prog 80 bE:=
 Sound.En Db Bg mixed Tryz.func80 (by kernel_rfl) (by kernel_rfl) λx h=>WC x.1 x.2.1 h
theorem map_take {α β:Type} (f:α->β) {xs:List α} {j:Nat} (h:j<xs.length):(xs.take (j+1)).map f=(xs.take j).map f++ [f xs[j]]:=by
 rw [Fw,Ac h,Kc];rfl
theorem yI {α:Type} {P:α->Bool} : ∀(l:List α) (i:Nat),l.any P=true-> ∃k,∃h:k<l.length,Hs P l (i:Int)=((i+k:Nat):Int)/\P l[k]=true/\ ∀j (h:j<k),P (l[j]'(by omega))=false
 | [],i,h=>by simp at h
 |y::r,i,h=>by
  simp only [Hs]
  by_cases hy:P y=true
  ·rw [Ab hy]
   exact ⟨0,by simp,rfl,hy,λj hj=>absurd hj (Dq _)⟩
  ·rw [Ag hy]
   have hr:r.any P=true:=by
    rw [List.any_cons,Kb] at h
    exact h.resolve_left hy
   obtain ⟨k,hk,h1,h2,h3⟩:=yI r (i+1) hr
   refine ⟨k+1,by simpa using hk,?_,h2,λj hj=>?_⟩
   ·rw [show ((i:Int)+1)=((i+1:Nat):Int) by push_cast;rfl,h1]
    congr 1
    omega
   ·cases j with
    |zero=>exact Ii _|>.mp hy
    |succ j=>exact h3 j (by omega)
theorem jg {s q t:List Int} (h:Mm s.length t):Ef (Al s q) t=Al (Ef s t) q:=by
 unfold Ef Al
 rw [List.map_map]
 refine El λy hy=>?_
 obtain ⟨h1,h2⟩:=h y hy
 have hy':y.toNat<s.length:=by omega
 show Nq (s.map (Nq q)) y=Nq q (Nq s y)
 unfold Nq
 rw [Zm (by rw [Dj];exact hy'),Sx,Zm hy']
 try rfl
theorem WL {n:Nat} {t:List Int} (h: ∀y∈t,0<=y/\y<(n:Int)):Ef (upto n) t=t:=by
 unfold Ef
 refine (El λy hy=>?_).trans (List.map_id t)
 obtain ⟨h1,h2⟩:=h y hy
 obtain ⟨k,rfl⟩:=Qv h1
 have hk:k<n:=by omega
 show Nq (upto n) (k:Int)=(k:Int)
 unfold Nq
 rw [Ai,Ak,jN hk]
 rfl
noncomputable def mA (p:PP) (t:List Int):List (List Int):=(Kr p.2.2.1 t).1
noncomputable def Abf (p:PP) (t:List Int):List Int:=(Kr p.2.2.1 t).2.1
theorem KE {p:PP} {t:List Int} (ht:Gi p t=true): ∀y∈t,0<=y/\y<((p.1.toNat:Nat):Int):= λy hy=>by
 have h1:=(Jg ht).2 y hy
 have:=(valid (Sb.1 ht).1).n
 omega
theorem WK {p:PP} {t:List Int} (ht:Gi p t=true):(mA p t).getD 0 []=t/\t∈mA p t:=by
 obtain ⟨_,A,h⟩:=LZ (Sb.1 ht).1 (Jg ht).1 (Jg ht).2
 have h:mA p t=t::A:=h
 rw [h]
 exact ⟨rfl,by simp⟩
def known (row:Row):List (List Int):=row.filterMap id
mutual
def kP (n:Nat):Nat->Nat->List Int->Co×Co->Co×Co
 |0,_,_,s=>s
 |f+1,k,p,s=>if Hy s.2 (n-k) k p=true then s else
   ((known (s.2.getD k [])).map λu=>Al u p).foldl (λs q=>gm n f k q s) (s.1.set k (s.1.getD k []++ [some p]),s.2)
def gm (n:Nat):Nat->Nat->List Int->Co×Co->Co×Co
 |0,_,_,s=>s
 |f+1,k,p,s=>match (s.2.getD k []).getD (ap p k) none with
  |some t=>kP n f (k+1) (Al p (Bk t)) s
  |none=>((s.1.getD k []).map λo=>Al p (o.getD [])).foldl (λs q=>gm n f k q s) (s.1,s.2.set k ((s.2.getD k []).set (ap p k) (some p)))
end
structure Part (n k:Nat) (s:Co×Co):Prop where
 l1:s.1.length=n
 l2:s.2.length=n
 pg:PG n k (s.1.getD k [])
 row:Vc n k (s.1.getD k []) (s.2.getD k [])
 comp:kO n (n-(k+1)) (k+1) s
 gb:GBf (n-(k+1)) (k+1) s
 sub: ∀g,some g∈s.1.getD (k+1) []->Gn n (s.1.getD k []) g
def Hd (n k:Nat) (s:Co×Co) (q:List Int):Prop:= ∃t,(s.2.getD k []).getD (ap q k) none=some t/\Hy s.2 (n-(k+1)) (k+1) (Al q (Bk t))=true
structure cH (n k:Nat) (s s':Co×Co):Prop where
 grow:Vz k s s'
 same:s'.1.getD k []=s.1.getD k []
 part:Part n k s'
 Ex: ∀q,Pm n q->Fx k q->Hd n k s q->Hd n k s' q
 new: ∀y t,(s'.2.getD k []).getD y none=some t->(s.2.getD k []).getD y none=some t\/ ∀g,some g∈s.1.getD k []->Hd n k s' (Al t g)
theorem cH.refl {n k:Nat} {s:Co×Co} (h:Part n k s):cH n k s s:=⟨Vz.refl _ _,rfl,h,λ_ _ _ h=>h,λ_ _ h=> .inl h⟩
theorem Part.tg {n k:Nat} {s:Co×Co} (h:Part n k s) (hk:k<n) {y:Nat} {t g:List Int} (ht:(s.2.getD k []).getD y none=some t) (hg:some g∈s.1.getD k []):Pm n (Al t g)/\Fx k (Al t g)/\ap (Al t g) k=ap g y:=by
 obtain ⟨t1,t2,t3,t4⟩:=h.row.rt _ _ ht
 obtain ⟨g',e,g1,g2⟩:=h.pg _ hg
 cases e
 exact ⟨t1.comp g1,Fx.comp t1 g1 t2 g2 (by omega),by rw [Lp t1 g1 hk,t3]⟩
theorem cH.trans {n k:Nat} {a b c:Co×Co} (hk:k<n) (h:cH n k a b) (h':cH n k b c):cH n k a c:=by
 refine ⟨h.grow.trans h'.grow (Ao _),h'.same.trans h.same,h'.part,λq h1 h2 h3=>h'.Ex q h1 h2 (h.Ex q h1 h2 h3),λy t e=>?_⟩
 rcases h'.new y t e with e1|e1
 ·rcases h.new y t e1 with e2|e2
  ·exact .inl e2
  ·refine .inr λg hg=>?_
   obtain ⟨p1,p2,_⟩:=h.part.tg hk e1 (by rw [h.same];exact hg)
   exact h'.Ex _ p1 p2 (e2 g hg)
 ·exact .inr λg hg=>e1 g (by rw [h.same];exact hg)
theorem Part.pms {n k:Nat} {s:Co×Co} (h1:1<=n) (h2:n<=20) (h:Part n k s):EI n λg=>some g∈s.1.getD k []:=⟨⟨h1,h2⟩,λg hg=>by obtain ⟨g',e,h,_⟩:=h.pg _ hg;cases e;exact h⟩
theorem Part.v {n k:Nat} {s:Co×Co} (h:Part n k s):V n (n-(k+1)) (k+1) s:=⟨h.l1,h.l2,h.comp,h.gb⟩
theorem yp (row:Row):wK row+Lu row=row.length:=by
 induction row with
 |nil=>rfl
 |cons o r ih=>
  unfold wK Lu at*
  cases o<;>simp [List.countP_cons]<;>omega
theorem OF {a b:Row} (hl:b.length=a.length) (h: ∀y t,a.getD y none=some t->b.getD y none=some t):Lu b<=Lu a:=by
 have h1:=(pk a b hl.symm h).1
 have h2:=yp a
 have h3:=yp b
 omega
def TF (n k:Nat):Nat:=(n-k)*(n+2)+(n+1)
def mV (n k:Nat) (s:Co×Co):Nat:=(n-k)*(n+2)+Lu (s.2.getD k [])
theorem cH.mu {n k:Nat} {s s':Co×Co} (h:cH n k s s'):mV n k s'<=mV n k s:=by
 have:=OF (h.grow.Ac9 k) (h.grow.wq k)
 unfold mV;omega
theorem ka {n k f:Nat} (hk:k<n) {gs:List PO}
  (IH: ∀q s,Part n k s->s.1.getD k []=gs->Pm n q->Fx k q->Gn n gs q->mV n k s<=f->(cH n k s (gm n f k q s)/\Hd n k (gm n f k q s) q)/\ ∀f',f<=f'->gm n f' k q s=gm n f k q s):
  ∀(qs:List (List Int)) (s:Co×Co),Part n k s->s.1.getD k []=gs->(∀q∈qs,Pm n q/\Fx k q/\Gn n gs q)->mV n k s<=f->
   cH n k s (qs.foldl (λs q=>gm n f k q s) s)/\(∀q∈qs,Hd n k (qs.foldl (λs q=>gm n f k q s) s) q)/\ ∀f',f<=f'->qs.foldl (λs q=>gm n f' k q s) s=qs.foldl (λs q=>gm n f k q s) s
 | [],s,hp,_,_,_=>⟨cH.refl hp,λq hq=>(by cases hq),λ_ _=>rfl⟩
 |q::qs,s,hp,hg,hq,hm=>by
  obtain ⟨q1,q2,q3⟩:=hq q (by simp)
  obtain ⟨⟨a1,a2⟩,a3⟩:=IH q s hp hg q1 q2 q3 hm
  obtain ⟨b1,b2,b3⟩:=ka hk IH qs (gm n f k q s) a1.part (a1.same.trans hg) (λq' h=>hq q' (At _ h)) (Ix a1.mu hm)
  simp only [Ig]
  refine ⟨a1.trans hk b1,λq' kU=>?_,λf' hf=>?_⟩
  ·rcases Be.1 kU with rfl|kU
   ·exact b1.Ex _ q1 q2 a2
   ·exact b2 q' kU
  ·rw [a3 f' hf];exact b3 f' hf
theorem GC {n k:Nat} (h1:1<=n) (h2:n<=20) (hk:k<n) {s s':Co×Co} (hs:kO n (n-(k+1)) (k+1) s) (GN:kO n (n-(k+1)) (k+1) s') (hg:Vz k s s') {x:List Int} (hx:Pm n x) (hf:Fx (k+1) x)
  (h:Hy s.2 (n-(k+1)) (k+1) x=true):Hy s'.2 (n-(k+1)) (k+1) x=true:=
 (Ug h1 h2 _ (k+1) s' (by omega) GN x hx hf).2 (((Ug h1 h2 _ (k+1) s (by omega) hs x hx hf).1 h).mono λg yC=>hg.yu _ _ yC)
theorem kx {row:Row} {u:List Int} :u∈known row↔ ∃y,row.getD y none=some u:=by
 unfold known
 rw [List.mem_filterMap]
 constructor
 ·rintro ⟨o,ho,e⟩
  obtain ⟨y,hy,rfl⟩:=Cl.1 ho
  exact ⟨y,by rw [Ak,Ac hy];exact e⟩
 ·rintro ⟨y,hy⟩
  have hl:=nG hy
  rw [Ak,Ac hl] at hy
  exact ⟨row[y],Aj hl,hy⟩
theorem RS {n:Nat} (h1:1<=n) (h2:n<=20): ∀f:Nat,
  (∀k p s,k<=n->V n (n-k) k s->Pm n p->Fx k p->TF n k<=f->YV n (n-k) k s p (kP n f k p s)/\ ∀f',f<=f'->kP n f' k p s=kP n f k p s)/\
  (∀k q s,k<n->Part n k s->Pm n q->Fx k q->Gn n (s.1.getD k []) q->mV n k s<=f->(cH n k s (gm n f k q s)/\Hd n k (gm n f k q s) q)/\ ∀f',f<=f'->gm n f' k q s=gm n f k q s)
 |0=>⟨λk p s _ _ _ _ h=>by unfold TF at h;omega,λk q s hk _ _ _ _ h=>by
   unfold mV at h
   have:1*(n+2)<=(n-k)*(n+2):=Eo _ (by omega)
   omega⟩
 |f+1=>by
  obtain ⟨ihG,ihP⟩:=RS h1 h2 f
  refine ⟨λk p s hk hv hp hf hmu=>?_,λk q s hk cE hq hf LK hmu=>?_⟩
  ·
   have GQ: ∀f',f+1<=f'-> ∃LH,f'=LH+1/\f<=LH:= λf' h=>⟨f'-1,by omega,by omega⟩
   by_cases hh:Hy s.2 (n-k) k p=true
   ·have e: ∀f',kP n (f'+1) k p s=s:= λf'=>by simp only [kP];rw [Ab hh]
    rw [e f]
    refine ⟨⟨hv,Vz.refl _ _,(Ug h1 h2 _ k s (by omega) hv.2.2.1 p hp hf).1 hh,λo ho=> .inl ho⟩,λf' LJ=>?_⟩
    obtain ⟨LH,rfl,_⟩:=GQ f' LJ
    exact e LH
   have hkn:k<n:=by
    refine Nat.lt_of_le_of_ne hk λe=>hh ?_
    subst e
    rw [Nat.sub_self];rfl
   obtain ⟨v1,v2,hc,yA⟩:=hv
   have lk:=hc
   have Ay8:=yA
   obtain ⟨m,hm⟩: ∃m,n-k=m+1:=⟨n-k-1,by omega⟩
   have GL:n-(k+1)=m:=by omega
   rw [hm] at hc yA
   obtain ⟨c1,c2,c3⟩:=hc
   generalize nJ:s.1.getD k []++ [some p]=gs
   have a6:some p∈gs:=by rw [<-nJ];simp
   have Qa: ∀o∈s.1.getD k [],o∈gs:= λo ho=>by rw [<-nJ];exact Bc _ ho
   have hg:PG n k gs:= λo ho=>by
    rw [<-nJ] at ho
    rcases Bb.1 ho with ho|ho
    ·exact c2.pg o ho
    ·rw [Ae] at ho;exact ⟨p,ho,hp,hf⟩
   have hS:EI n λg=>some g∈gs:=⟨⟨h1,h2⟩,λg Sz=>by obtain ⟨g',e,h,_⟩:=hg _ Sz;cases e;exact h⟩
   have vB: ∀i,(s.1.set k gs).getD i []=if i=k then gs else s.1.getD i []:= λi=>by
    rw [Ky]
    by_cases e:k=i
    ·subst e;rw [Ab ⟨rfl,by omega⟩,Ab rfl]
    ·rw [Ag (λhh=>e hh.1),Ag (Gf e)]
   have yG: ∀i,k+1<=i->(s.1.set k gs).getD i []=s.1.getD i []/\s.2.getD i []=s.2.getD i []:= λi hi=>⟨by rw [vB i,Ag (by omega)],rfl⟩
   have GM:Part n k (s.1.set k gs,s.2):=by
    refine ⟨by simpa using v1,v2,?_,?_,?_,?_,λg Sz=>?_⟩
    ·show PG n k ((s.1.set k gs).getD k []);rw [vB k,Ab rfl];exact hg
    ·show Vc n k ((s.1.set k gs).getD k []) _
     rw [vB k,Ab rfl]
     exact ⟨c2.rl,c2.r0,λy t e=>⟨(c2.rt y t e).1,(c2.rt y t e).2.1,(c2.rt y t e).2.2.1,(c2.rt y t e).2.2.2.mono λg hg=>Qa _ hg⟩⟩
    ·rw [GL];exact Ur m (k+1) yG c1
    ·rw [GL];exact bY m (k+1) yG yA.1
    ·have Sz:some g∈(s.1.set k gs).getD (k+1) []:=Sz
     rw [(yG (k+1) (Ao _)).1] at Sz
     show Gn n ((s.1.set k gs).getD k []) g
     rw [vB k,Ab rfl]
     exact (c3 g Sz).mono λg hg=>Qa _ hg
   have ki:((s.1.set k gs,s.2):Co×Co).1.getD k []=gs:=by show (s.1.set k gs).getD k []=gs;rw [vB k,Ab rfl]
   have mj:Vz k s (s.1.set k gs,s.2):=by
    refine ⟨by simp,rfl,λi hi=>⟨?_,rfl⟩,λi o ho=>?_,λi y t e=>e,λi=>rfl⟩
    ·show (s.1.set k gs).getD i []=_;rw [vB i,Ag (by omega)]
    ·show o∈(s.1.set k gs).getD i []
     rw [vB i]
     split
     ·rename_i hi;subst hi;exact Qa o ho
     ·exact ho
   have hmP:mV n k (s.1.set k gs,s.2)<=f:=by
    have hn:=je (s.2.getD k [])
    have hr:=c2.rl
    unfold mV
    unfold TF at hmu
    show (n-k)*(n+2)+Lu (s.2.getD k [])<=f
    omega
   have VA: ∀q∈(known (s.2.getD k [])).map (λu=>Al u p),Pm n q/\Fx k q/\Gn n gs q:= λq hq=>by
    obtain ⟨u,hu,rfl⟩:=Bj.1 hq
    obtain ⟨y,hy⟩:=kx.1 hu
    obtain ⟨t1,t2,t3,t4⟩:=c2.rt _ _ hy
    exact ⟨t1.comp hp,Fx.comp t1 hp t2 hf hk, .mul (t4.mono λg hg=>Qa _ hg) a6⟩
   obtain ⟨r1,r2,r3⟩:=ka hkn (gs:=gs) (λq s nM Sz a b c d=>ihP k q s hkn nM a b (by rw [Sz];exact c) d) ((known (s.2.getD k [])).map λu=>Al u p) (s.1.set k gs,s.2) GM ki VA hmP
   have e: ∀f',kP n (f'+1) k p s=((known (s.2.getD k [])).map λu=>Al u p).foldl (λs q=>gm n f' k q s) (s.1.set k gs,s.2):= λf'=>by simp only [kP];rw [Ag hh,nJ]
   refine ⟨?_,λf' LJ=>by obtain ⟨LH,rfl,Aa5⟩:=GQ f' LJ;rw [e LH,e f];exact r3 LH Aa5⟩
   rw [e f]
   generalize ((known (s.2.getD k [])).map λu=>Al u p).foldl (λs q=>gm n f k q s) (s.1.set k gs,s.2)=s' at r1 r2
   have nM:=r1.part
   have MY:s'.1.getD k []=gs:=r1.same.trans ki
   have hHd: ∀y t g,(s'.2.getD k []).getD y none=some t->some g∈gs->Hd n k s' (Al t g):= λy t g ht yC=>by
    rcases r1.new y t ht with e1|e1
    ·have e1:(s.2.getD k []).getD y none=some t:=e1
     by_cases Tr:g=p
     ·subst Tr
      exact r2 _ (Bj.2 ⟨t,kx.2 ⟨y,e1⟩,rfl⟩)
     ·have YQ:some g∈s.1.getD k []:=by
       rw [<-nJ] at yC
       rcases Bb.1 yC with h|h
       ·exact h
       ·rw [Ae] at h;cases h;exact absurd rfl Tr
      obtain ⟨x1,x2,x3⟩:=GM.tg hkn e1 (by rw [ki];exact yC)
      refine r1.Ex _ x1 x2 ?_
      obtain ⟨t',yF⟩:=Tq.1 (c2.cl y t g e1 YQ)
      refine ⟨t',by show (s.2.getD k []).getD _ none=_;rw [x3];exact yF,?_⟩
      show Hy s.2 (n-(k+1)) (k+1) _=true
      rw [GL]
      exact c2.sg y t g t' e1 YQ yF
    ·exact e1 g (by rw [ki];exact yC)
   have Ajm:Lvl n k gs (s'.2.getD k []) (λq=>Hy s'.2 m (k+1) q=true):=by
    have hr:=nM.row
    rw [MY] at hr
    refine ⟨hg,hr.rl,hr.r0,hr.rt,λy t g ht yC=>?_,λy t g t' ht yC yF=>?_⟩
    ·obtain ⟨t',yF,_⟩:=hHd y t g ht yC
     obtain ⟨_,_,x3⟩:=nM.tg hkn ht (by rw [MY];exact yC)
     rw [<-x3,yF];simp
    ·obtain ⟨t'',Aol,hx⟩:=hHd y t g ht yC
     obtain ⟨_,_,x3⟩:=nM.tg hkn ht (by rw [MY];exact yC)
     rw [x3,yF] at Aol
     cases Aol
     rw [<-GL];exact hx
   have GF:kO n (m+1) k s':=⟨by rw [<-GL];exact nM.comp,by rw [MY];exact Ajm,λg yC=>nM.sub g yC⟩
   have iX:Gn n (s'.1.getD k []) p:=by rw [MY];exact cC.one hS a6
   have ui:=mj.trans r1.grow (Ao _)
   rw [hm]
   refine ⟨⟨nM.l1,nM.l2,GF,by rw [<-GL];exact nM.gb,?_⟩,ui,iX,λo ho=>?_⟩
   ·have hold:=yA.2
    obtain ⟨p1,p2⟩:=vd ui.Ac9 ui.wq (m+1) k
    have Ik:jh s.2 (m+1) k≠jh s'.2 (m+1) k:= λe=>by
     have:=cS (m+1) k p (p2 e)
     rw [(Ug h1 h2 (m+1) k s' (by omega) GF p hp hf).2 iX] at this
     rw [hm] at hh
     exact hh this.symm
    rw [MY,<-nJ,Ax,By]
    omega
   ·rw [MY,<-nJ] at ho
    rcases Bb.1 ho with ho|ho
    ·exact .inl ho
    ·rw [Ae] at ho;exact .inr ho
  ·
   have GQ: ∀f',f+1<=f'-> ∃LH,f'=LH+1/\f<=LH:= λf' h=>⟨f'-1,by omega,by omega⟩
   have hS:=cE.pms h1 h2
   have hmul:(n-k)*(n+2)=(n-(k+1))*(n+2)+(n+2):=by
    rw [show n-k=n-(k+1)+1 by omega,Dd,Si]
   cases Kq:(s.2.getD k []).getD (ap q k) none with
   |some t=>
    have e: ∀f',gm n (f'+1) k q s=kP n f' (k+1) (Al q (Bk t)) s:= λf'=>by simp only [gm];rw [Kq]
    obtain ⟨t1,t2,t3,t4⟩:=cE.row.rt _ _ Kq
    have hx:=hq.comp t1.inv
    have hfx:=Fx.div hq t1 hf t2 hk t3
    have hxg:Gn n (s.1.getD k []) (Al q (Bk t)):=cC.comp hS LK (cC.sR hS t4)
    obtain ⟨a1,a2⟩:=ihG (k+1) _ s (by omega) cE.v hx hfx (by unfold TF;unfold mV at hmu;omega)
    refine ⟨?_,λf' LJ=>by obtain ⟨LH,rfl,Aa5⟩:=GQ f' LJ;rw [e LH,e f];exact a2 LH Aa5⟩
    rw [e f]
    generalize kP n f (k+1) (Al q (Bk t)) s=s' at a1
    obtain ⟨av,ag,ai,ags⟩:=a1
    obtain ⟨w1,w2,w3,w4⟩:=av
    obtain ⟨lo1,lo2⟩:=ag.low k (by omega)
    have Atp:Part n k s':=⟨w1,w2,by rw [lo1];exact cE.pg,by rw [lo1,lo2];exact cE.row,w3,w4,λg yC=>by
     rw [lo1]
     rcases ags _ yC with h|h
     ·exact cE.sub g h
     ·cases h;exact hxg⟩
    refine ⟨⟨ag.Im (by omega),lo1,Atp,λq' q1 q2 ⟨t',e1,e2⟩=>?_,λy t e=> .inl (by rw [lo2] at e;exact e)⟩,t,by rw [lo2];exact Kq,?_⟩
    ·obtain ⟨u1,u2,u3,_⟩:=cE.row.rt _ _ e1
     exact ⟨t',by rw [lo2];exact e1,GC h1 h2 hk cE.comp w3 (ag.Im (by omega)) (q1.comp u1.inv) (Fx.div q1 u1 q2 u2 hk u3) e2⟩
    ·exact (Ug h1 h2 _ (k+1) s' (by omega) w3 _ hx hfx).2 ai
   |none=>
    have e: ∀f',gm n (f'+1) k q s=((s.1.getD k []).map λo=>Al q (o.getD [])).foldl (λs q=>gm n f' k q s) (s.1,s.2.set k ((s.2.getD k []).set (ap q k) (some q))):= λf'=>by simp only [gm];rw [Kq]
    have hy:ap q k<n:=hq.lt hk
    have hrl:=cE.row.rl
    have hyk:ap q k≠k:= λh=>by rw [h,cE.row.r0] at Kq;cases Kq
    have wD:=cE.l2
    generalize qV:(s.2.getD k []).set (ap q k) (some q)=Xg
    have dM: ∀y,Xg.getD y none=if ap q k=y then some q else (s.2.getD k []).getD y none:= λy=>by
     rw [<-qV,Ky]
     by_cases h:ap q k=y
     ·rw [Ab ⟨h,by omega⟩,Ab h]
     ·rw [Ag λhh=>h hh.1,Ag h]
    have s12: ∀i,(s.2.set k Xg).getD i []=if i=k then Xg else s.2.getD i []:= λi=>by
     rw [Ky]
     by_cases e:k=i
     ·subst e;rw [Ab ⟨rfl,by omega⟩,Ab rfl]
     ·rw [Ag (λhh=>e hh.1),Ag (Gf e)]
    have yG: ∀i,k+1<=i->s.1.getD i []=s.1.getD i []/\(s.2.set k Xg).getD i []=s.2.getD i []:= λi hi=>⟨rfl,by rw [s12 i,Ag (by omega)]⟩
    have hk2:((s.1,s.2.set k Xg):Co×Co).2.getD k []=Xg:=by show (s.2.set k Xg).getD k []=Xg;rw [s12 k,Ab rfl]
    have GM:Part n k (s.1,s.2.set k Xg):=by
     refine ⟨cE.l1,by simpa using wD,cE.pg,?_,Ur _ (k+1) yG cE.comp,bY _ (k+1) yG cE.gb,cE.sub⟩
     rw [hk2]
     refine ⟨by rw [<-qV,Bi];exact hrl,by rw [dM k,Ag hyk];exact cE.row.r0,λy t e=>?_⟩
     rw [dM y] at e
     split at e
     ·rename_i h
      cases e
      exact ⟨hq,hf,h,LK⟩
     ·exact cE.row.rt y t e
    have mj:Vz k s (s.1,s.2.set k Xg):=by
     refine ⟨rfl,by simp,λi hi=>⟨rfl,?_⟩,λi o ho=>ho,λi y t et=>?_,λi=>?_⟩
     ·show (s.2.set k Xg).getD i []=_;rw [s12 i,Ag (by omega)]
     ·show ((s.2.set k Xg).getD i []).getD y none=some t
      rw [s12 i]
      split
      ·rename_i hi
       subst hi
       rw [dM y]
       split
       ·rename_i h;rw [<-h,Kq] at et;cases et
       ·exact et
      ·exact et
     ·show ((s.2.set k Xg).getD i []).length=_
      rw [s12 i]
      split
      ·rename_i hi;subst hi;rw [<-qV,Bi]
      ·rfl
    have hnn:Lu Xg+1=Lu (s.2.getD k []):=by rw [<-qV];exact pL Kq (by omega)
    have hmP:mV n k (s.1,s.2.set k Xg)<=f:=by
     unfold mV
     rw [hk2]
     unfold mV at hmu
     omega
    have VA: ∀x∈(s.1.getD k []).map (λo=>Al q (o.getD [])),Pm n x/\Fx k x/\Gn n (s.1.getD k []) x:= λx hx=>by
     obtain ⟨o,ho,rfl⟩:=Bj.1 hx
     obtain ⟨g,rfl,g1,g2⟩:=cE.pg o ho
     exact ⟨hq.comp g1,Fx.comp hq g1 hf g2 (by omega), .mul LK ho⟩
    obtain ⟨r1,r2,r3⟩:=ka hk (gs:=s.1.getD k []) (λq s nM Sz a b c d=>ihP k q s hk nM a b (by rw [Sz];exact c) d) ((s.1.getD k []).map λo=>Al q (o.getD [])) (s.1,s.2.set k Xg) GM rfl VA hmP
    have e': ∀f',gm n (f'+1) k q s=((s.1.getD k []).map λo=>Al q (o.getD [])).foldl (λs q=>gm n f' k q s) (s.1,s.2.set k Xg):= λf'=>by rw [e f',qV]
    refine ⟨?_,λf' LJ=>by obtain ⟨LH,rfl,Aa5⟩:=GQ f' LJ;rw [e' LH,e' f];exact r3 LH Aa5⟩
    rw [e' f]
    generalize ((s.1.getD k []).map λo=>Al q (o.getD [])).foldl (λs q=>gm n f k q s) (s.1,s.2.set k Xg)=s' at r1 r2
    have GP:s'.1.getD k []=s.1.getD k []:=r1.same
    have Ajg: ∀x,Pm n x->Fx k x->Hd n k s x->Hd n k (s.1,s.2.set k Xg) x:= λx x1 x2 ⟨t',e1,e2⟩=>by
     obtain ⟨u1,u2,u3,_⟩:=cE.row.rt _ _ e1
     exact ⟨t',mj.wq k _ _ e1,GC h1 h2 hk cE.comp GM.comp mj (x1.comp u1.inv) (Fx.div x1 u1 x2 u2 hk u3) e2⟩
    have hqq:(s'.2.getD k []).getD (ap q k) none=some q:=r1.grow.wq k _ _ (by rw [hk2,dM,Ab rfl])
    refine ⟨⟨mj.trans r1.grow (Ao _),GP,r1.part,λx x1 x2 x3=>r1.Ex x x1 x2 (Ajg x x1 x2 x3),λy t ht=>?_⟩,q,hqq,?_⟩
    ·rcases r1.new y t ht with e1|e1
     ·rw [hk2,dM y] at e1
      split at e1
      ·cases e1
       refine .inr λg hg=>r2 _ (Bj.2 ⟨some g,hg,rfl⟩)
      ·exact .inl e1
     ·exact .inr e1
    ·rw [nj hq]
     exact (Ug h1 h2 _ (k+1) s' (by omega) r1.part.comp _ (Pm.id h1 h2) (λi hi=>l5 (by omega))).2 .id
theorem RQ {n f k:Nat} {p:List Int} {s:Co×Co} :kP n (f+1) k p s=if Hy s.2 (n-k) k p=true then s else
  ((known (s.2.getD k [])).map λu=>Al u p).foldl (λs q=>gm n f k q s) (s.1.set k (s.1.getD k []++ [some p]),s.2):=by simp only [kP]
theorem RR {n f k:Nat} {p:List Int} {s:Co×Co} :gm n (f+1) k p s=match (s.2.getD k []).getD (ap p k) none with
  |some t=>kP n f (k+1) (Al p (Bk t)) s
  |none=>((s.1.getD k []).map λo=>Al p (o.getD [])).foldl (λs q=>gm n f k q s) (s.1,s.2.set k ((s.2.getD k []).set (ap p k) (some p))):=by simp only [gm]<;>rfl
theorem Ai3 {n k:Nat} (h2:n<=20):(n-k)*(n+2)<=440:=Ix (dL (show n-k<=20 by omega) (show n+2<=22 by omega)) (by omega)
theorem Abk {n k f:Nat} (h2:n<=20) (hf:500<=f):TF n k<=f:=by have:=Ai3 (k:=k) h2;unfold TF;omega
theorem Akg {n k f:Nat} {s:Co×Co} (h2:n<=20) (hp:Part n k s) (hf:500<=f):mV n k s<=f:=by
 have:=Ai3 (k:=k) h2
 have h:=je (s.2.getD k [])
 have hr:=hp.row.rl
 unfold mV;omega
theorem Aig {n k:Nat} (h1:1<=n) (h2:n<=20) {p:List Int} {s:Co×Co} (hk:k<=n) (hv:V n (n-k) k s) (hp:Pm n p) (hf:Fx k p):YV n (n-k) k s p (kP n 1000 k p s):=
 ((RS h1 h2 1000).1 k p s hk hv hp hf (Abk h2 (by omega))).1
def iL (n k:Nat) (qs:List (List Int)) (s:Co×Co):Co×Co:=qs.foldl (λs q=>gm n 1000 k q s) s
theorem tZ {n k:Nat} (h1:1<=n) (h2:n<=20) (hk:k<n) {qs:List (List Int)} {s:Co×Co} (hp:Part n k s) (hq: ∀q∈qs,Pm n q/\Fx k q/\Gn n (s.1.getD k []) q):
  cH n k s (iL n k qs s)/\qs.foldl (λs q=>gm n 999 k q s) s=iL n k qs s:=by
 have h:=ka hk (f:=999) (gs:=s.1.getD k []) (λq s' nM Sz a b c d=>(RS h1 h2 999).2 k q s' hk nM a b (by rw [Sz];exact c) d) qs s hp rfl hq (Akg h2 hp (by omega))
 have e:=h.2.2 1000 (by omega)
 refine ⟨?_,e.symm⟩
 unfold iL
 rw [e];exact h.1
theorem u5 {n k:Nat} {qs:List (List Int)} {s:Co×Co} {j:Nat} (hj:j<qs.length):iL n k (qs.take (j+1)) s=gm n 1000 k qs[j] (iL n k (qs.take j) s):=by
 unfold iL
 rw [Fw,Ac hj,Lt,Vw]
 rfl
theorem EK {n k:Nat} (h1:1<=n) (h2:n<=20) {p:List Int} {s:Co×Co} (hkn:k<n) (hv:V n (n-k) k s) (hp:Pm n p) (hf:Fx k p):
  Part n k (s.1.set k (s.1.getD k []++ [some p]),s.2)/\ ∀q∈(known (s.2.getD k [])).map (λu=>Al u p),Pm n q/\Fx k q/\Gn n ((s.1.set k (s.1.getD k []++ [some p])).getD k []) q:=by
 obtain ⟨v1,v2,hc,yA⟩:=hv
 obtain ⟨m,hm⟩: ∃m,n-k=m+1:=⟨n-k-1,by omega⟩
 have GL:n-(k+1)=m:=by omega
 rw [hm] at hc yA
 obtain ⟨c1,c2,c3⟩:=hc
 generalize nJ:s.1.getD k []++ [some p]=gs
 have a6:some p∈gs:=by rw [<-nJ];simp
 have Qa: ∀o∈s.1.getD k [],o∈gs:= λo ho=>by rw [<-nJ];exact Bc _ ho
 have hg:PG n k gs:= λo ho=>by
  rw [<-nJ] at ho
  rcases Bb.1 ho with ho|ho
  ·exact c2.pg o ho
  ·rw [Ae] at ho;exact ⟨p,ho,hp,hf⟩
 have vB: ∀i,(s.1.set k gs).getD i []=if i=k then gs else s.1.getD i []:= λi=>by
  rw [Ky]
  by_cases e:k=i
  ·subst e;rw [Ab ⟨rfl,by omega⟩,Ab rfl]
  ·rw [Ag (λhh=>e hh.1),Ag (Gf e)]
 have yG: ∀i,k+1<=i->(s.1.set k gs).getD i []=s.1.getD i []/\s.2.getD i []=s.2.getD i []:= λi hi=>⟨by rw [vB i,Ag (by omega)],rfl⟩
 refine ⟨⟨by simpa using v1,v2,?_,?_,?_,?_,λg Sz=>?_⟩,λq hq=>?_⟩
 ·show PG n k ((s.1.set k gs).getD k []);rw [vB k,Ab rfl];exact hg
 ·show Vc n k ((s.1.set k gs).getD k []) _
  rw [vB k,Ab rfl]
  exact ⟨c2.rl,c2.r0,λy t e=>⟨(c2.rt y t e).1,(c2.rt y t e).2.1,(c2.rt y t e).2.2.1,(c2.rt y t e).2.2.2.mono λg hg=>Qa _ hg⟩⟩
 ·rw [GL];exact Ur m (k+1) yG c1
 ·rw [GL];exact bY m (k+1) yG yA.1
 ·have Sz:some g∈(s.1.set k gs).getD (k+1) []:=Sz
  rw [(yG (k+1) (Ao _)).1] at Sz
  show Gn n ((s.1.set k gs).getD k []) g
  rw [vB k,Ab rfl]
  exact (c3 g Sz).mono λg hg=>Qa _ hg
 ·rw [vB k,Ab rfl]
  obtain ⟨u,hu,rfl⟩:=Bj.1 hq
  obtain ⟨y,hy⟩:=kx.1 hu
  obtain ⟨t1,t2,t3,t4⟩:=c2.rt _ _ hy
  exact ⟨t1.comp hp,Fx.comp t1 hp t2 hf (by omega), .mul (t4.mono λg hg=>Qa _ hg) a6⟩
theorem ZG {n k:Nat} (h1:1<=n) (h2:n<=20) {p:List Int} {s:Co×Co} (hkn:k<n) (hv:V n (n-k) k s) (hp:Pm n p) (hf:Fx k p) (hh: ¬Hy s.2 (n-k) k p=true):
  kP n 1000 k p s=iL n k ((known (s.2.getD k [])).map λu=>Al u p) (s.1.set k (s.1.getD k []++ [some p]),s.2):=by
 obtain ⟨a1,a2⟩:=EK h1 h2 hkn hv hp hf
 rw [<-(tZ h1 h2 hkn a1 a2).2]
 exact (RQ (f:=999)).trans (Ag hh)
theorem RP {n k:Nat} {p:List Int} {s:Co×Co} (hh:Hy s.2 (n-k) k p=true):kP n 1000 k p s=s:=by
 exact (RQ (f:=999)).trans (Ab hh)
theorem ZI {n k:Nat} (h1:1<=n) (h2:n<=20) {q t:List Int} {s:Co×Co} (hk:k<n) (cE:Part n k s) (hq:Pm n q) (hf:Fx k q) (Kq:(s.2.getD k []).getD (ap q k) none=some t):
  gm n 1000 k q s=kP n 1000 (k+1) (Al q (Bk t)) s:=by
 obtain ⟨t1,t2,t3,t4⟩:=cE.row.rt _ _ Kq
 rw [((RS h1 h2 999).1 (k+1) _ s (by omega) cE.v (hq.comp t1.inv) (Fx.div hq t1 hf t2 hk t3) (Abk h2 (by omega))).2 1000 (by omega)]
 refine (RR (f:=999)).trans ?_
 rw [Kq]
theorem EL {n k:Nat} {q:List Int} {s:Co×Co} (hk:k<n) (cE:Part n k s) (hq:Pm n q) (hf:Fx k q) (LK:Gn n (s.1.getD k []) q) (Kq:(s.2.getD k []).getD (ap q k) none=none):
  Part n k (s.1,s.2.set k ((s.2.getD k []).set (ap q k) (some q)))/\ ∀x∈(s.1.getD k []).map (λo=>Al q (o.getD [])),Pm n x/\Fx k x/\Gn n (s.1.getD k []) x:=by
 have hrl:=cE.row.rl
 have hy:ap q k<n:=hq.lt hk
 have hyk:ap q k≠k:= λh=>by rw [h,cE.row.r0] at Kq;cases Kq
 have wD:=cE.l2
 generalize qV:(s.2.getD k []).set (ap q k) (some q)=Xg
 have dM: ∀y,Xg.getD y none=if ap q k=y then some q else (s.2.getD k []).getD y none:= λy=>by
  rw [<-qV,Ky]
  by_cases h:ap q k=y
  ·rw [Ab ⟨h,by omega⟩,Ab h]
  ·rw [Ag λhh=>h hh.1,Ag h]
 have s12: ∀i,(s.2.set k Xg).getD i []=if i=k then Xg else s.2.getD i []:= λi=>by
  rw [Ky]
  by_cases e:k=i
  ·subst e;rw [Ab ⟨rfl,by omega⟩,Ab rfl]
  ·rw [Ag (λhh=>e hh.1),Ag (Gf e)]
 have yG: ∀i,k+1<=i->s.1.getD i []=s.1.getD i []/\(s.2.set k Xg).getD i []=s.2.getD i []:= λi hi=>⟨rfl,by rw [s12 i,Ag (by omega)]⟩
 have hk2:((s.1,s.2.set k Xg):Co×Co).2.getD k []=Xg:=by show (s.2.set k Xg).getD k []=Xg;rw [s12 k,Ab rfl]
 refine ⟨⟨cE.l1,by simpa using wD,cE.pg,?_,Ur _ (k+1) yG cE.comp,bY _ (k+1) yG cE.gb,cE.sub⟩,λx hx=>?_⟩
 ·rw [hk2]
  refine ⟨by rw [<-qV,Bi];exact hrl,by rw [dM k,Ag hyk];exact cE.row.r0,λy t e=>?_⟩
  rw [dM y] at e
  split at e
  ·rename_i h
   cases e
   exact ⟨hq,hf,h,LK⟩
  ·exact cE.row.rt y t e
 ·obtain ⟨o,ho,rfl⟩:=Bj.1 hx
  obtain ⟨g,rfl,g1,g2⟩:=cE.pg o ho
  exact ⟨hq.comp g1,Fx.comp hq g1 hf g2 (by omega), .mul LK ho⟩
theorem ZH {n k:Nat} (h1:1<=n) (h2:n<=20) {q:List Int} {s:Co×Co} (hk:k<n) (cE:Part n k s) (hq:Pm n q) (hf:Fx k q) (LK:Gn n (s.1.getD k []) q) (Kq:(s.2.getD k []).getD (ap q k) none=none):
  gm n 1000 k q s=iL n k ((s.1.getD k []).map λo=>Al q (o.getD [])) (s.1,s.2.set k ((s.2.getD k []).set (ap q k) (some q))):=by
 obtain ⟨a1,a2⟩:=EL hk cE hq hf LK Kq
 rw [<-(tZ h1 h2 hk a1 a2).2]
 refine (RR (f:=999)).trans ?_
 rw [Kq]
def Px (n:Nat) (gens:List PO):Co×Co:=gens.foldl (λs o=>kP n 1000 0 (o.getD []) s) (Tk n,Ze n)
theorem zE {n:Nat} {gens:List PO} {j:Nat} (hj:j<gens.length):Px n (gens.take (j+1))=kP n 1000 0 (gens[j].getD []) (Px n (gens.take j)):=by
 unfold Px
 rw [Fw,Ac hj,Lt,Vw]
 rfl
theorem lZ {n:Nat} (h1:1<=n) (h2:n<=20): ∀(gens:List PO) (s:Co×Co),PmL n gens->V n n 0 s->V n n 0 (gens.foldl (λs o=>kP n 1000 0 (o.getD []) s) s)/\
  Vz 0 s (gens.foldl (λs o=>kP n 1000 0 (o.getD []) s) s)/\(∀g,some g∈gens->Gn n ((gens.foldl (λs o=>kP n 1000 0 (o.getD []) s) s).1.getD 0 []) g)/\ ∀o∈(gens.foldl (λs o=>kP n 1000 0 (o.getD []) s) s).1.getD 0 [],o∈s.1.getD 0 []\/o∈gens
 | [],s,_,hv=>⟨hv,Vz.refl _ _,(λ_ hg=>by cases hg),λ_ ho=> .inl ho⟩
 |o::gens,s,hg,hv=>by
  obtain ⟨g,rfl,Tr⟩:=hg o (by simp)
  have ha:=Aig h1 h2 (k:=0) (Iq _) (by rw [Nat.sub_zero];exact hv) Tr (λi hi=>absurd hi (Dq _))
  have SH:=ha.v
  rw [Nat.sub_zero] at SH
  obtain ⟨a1,a2,a3,a4⟩:=lZ h1 h2 gens (kP n 1000 0 g s) (λo ho=>hg o (by simp [ho])) SH
  refine ⟨a1,ha.grow.trans a2 (Ao _),λg' Sz=>?_,λo ho=>?_⟩
  ·rcases Be.1 Sz with e|Sz
   ·cases e;exact ha.Akc.mono λg hg=>a2.yu _ _ hg
   ·exact a3 g' Sz
  ·rcases a4 o ho with h|h
   ·rcases ha.gens o h with h|h
    ·exact .inl h
    ·exact .inr (by simp [h])
   ·exact .inr (by simp [h])
theorem yg {n:Nat} (h1:1<=n) (h2:n<=20) {gens:List PO} (hg:PmL n gens):V n n 0 (Px n gens):=(lZ h1 h2 gens _ hg (ta h1 h2)).1
theorem GB {n:Nat} (h1:1<=n) (h2:n<=20) {gens:List PO} (hg:PmL n gens) {p:List Int} (hp:Pm n p):Hy (Px n gens).2 n 0 p=true↔Gn n gens p:=by
 obtain ⟨a1,a2,a3,a4⟩:=lZ h1 h2 gens _ hg (ta h1 h2)
 have hS:EI n λg=>some g∈gens:=⟨⟨h1,h2⟩,λg Sz=>by obtain ⟨g',e,h⟩:=hg _ Sz;cases e;exact h⟩
 have Qa: ∀g,some g∈(Px n gens).1.getD 0 []->some g∈gens:= λg Sz=>by
  rcases a4 _ Sz with h|h
  ·have h:some g∈(Tk n).getD 0 []:=h
   rw [Zd] at h;cases h
  ·exact h
 have hS':EI n λg=>some g∈(Px n gens).1.getD 0 []:=⟨⟨h1,h2⟩,λg Sz=>hS.2 g (Qa g Sz)⟩
 refine (Ug h1 h2 n 0 (Px n gens) (by omega) a1.2.2.1 p hp λi hi=>absurd hi (Dq _)).trans ⟨λh=>h.mono Qa,λh=>h.trans hS' λg Sz=>a3 g Sz⟩
def Of (T:Co):Nat->Nat->List Int->List Int×Int×Unit
 |0,l,p=>(p,(l:Int),())
 |k+1,l,p=>match (T.getD l []).getD (Nq p (l:Int)).toNat none with
  |none=>(p,(l:Int),())
  |some t=>Of T k (l+1) (Al p (Bk t))
theorem vH {T:Co} : ∀(k l:Nat) (p:List Int),(Of T k l p).2.1=((l+k:Nat):Int)↔Hy T k l p=true
 |0,l,p=>by simp [Of,Hy]
 |k+1,l,p=>by
  unfold Of Hy
  cases (T.getD l []).getD (Nq p (l:Int)).toNat none with
  |none=>
   constructor
   ·intro h
    have h:(l:Int)=((l+(k+1):Nat):Int):=h
    omega
   ·intro h;cases h
  |some t=>
   have h:=vH (T:=T) k (l+1) (Al p (Bk t))
   rw [show l+1+k=l+(k+1) by omega] at h
   exact h
theorem NV {row:Row} {y:Nat} (h:y<row.length):known (row.take (y+1))=known (row.take y)++(row[y]).toList:=by
 unfold known
 rw [Ay h,List.filterMap_append]
 cases row[y]<;>rfl
theorem yO (row:Row):(known row).length<=row.length:=List.length_filterMap_le _ _
theorem yt {n k:Nat} (h1:1<=n) (h2:n<=20) (hk:k<n) {qs:List (List Int)} {s:Co×Co} (hp:Part n k s) (hq: ∀q∈qs,Pm n q/\Fx k q/\Gn n (s.1.getD k []) q) (j:Nat):cH n k s (iL n k (qs.take j) s):=
 (tZ h1 h2 hk hp λq h=>hq q (Gp h)).1
theorem OD {n k:Nat} {s:Co×Co} (hp:Part n k s):mV n k s<TF n k:=by
 have h:=je (s.2.getD k [])
 have hr:=hp.row.rl
 unfold mV TF
 omega
theorem Abl {n k:Nat} {s:Co×Co} (hk:k<n):TF n (k+1)<mV n k s:=by
 obtain ⟨m,hm⟩: ∃m,n-k=m+1:=⟨n-k-1,by omega⟩
 have GL:n-(k+1)=m:=by omega
 unfold TF mV
 rw [hm,GL,Nat.succ_mul]
 omega
theorem Afa {n k y:Nat} {s:Co×Co} {q:List Int} (hk:k<s.2.length) (hy:y<(s.2.getD k []).length) (h:(s.2.getD k []).getD y none=none):
  mV n k (s.1,s.2.set k ((s.2.getD k []).set y (some q)))+1=mV n k s:=by
 have h1:=pL (t:=q) h hy
 have h2:(s.2.set k ((s.2.getD k []).set y (some q))).getD k []=(s.2.getD k []).set y (some q):=by
  rw [Ky,Ab ⟨rfl,hk⟩]
 unfold mV
 show _+Lu ((s.2.set k ((s.2.getD k []).set y (some q))).getD k [])+1=_
 rw [h2]
 omega
def pj (n:Int) (g:List (List Int)):Co×Co:=Px n.toNat (g.map some)
abbrev BB:Type:=List TT×List (ByteArray->Option Int)×Unit
def XR:List (List Int)->List Int->(ByteArray->Option Int)->ByteArray->Option Int
 |x::xs,d::ds,m=>XR xs ds (jL m (Xn x) d)
 |_,_,m=>m
def Wm (t:TT):ByteArray->Option Int:=XR t.2.1 t.2.2.1 λ_=>none
def Dp (ts:List TT):BB:=(ts,ts.map Wm,())
structure TX (t:TT):Prop where
 wP:t.2.1.length<=3000
 len:t.2.2.1.length=t.2.1.length
 nodup:t.2.1.Nodup
 byte: ∀x∈t.2.1,gq x
 Aru: ∀d∈t.2.2.1,0<=d/\d<=3000
 tl:t.1.length<=20
 pl: ∀x∈t.2.1,x.length<=20
def aw (ts:List TT):Prop:=ts.length<=4/\ ∀t∈ts,TX t
def fq (t:TT) (s:List Int):Int:=t.2.2.1.getD (t.2.1.idxOf (Ef s t.1)) 0
def Uv (ts:List TT) (s:List Int):List Int:=ts.map λt=>fq t s
def Nb (ts:List TT) (s:List Int):Int:=(Uv ts s).foldl max 0
def dq (ts:List TT) (s:List Int):Prop:=s.length<=20/\ ∀t∈ts,Mm s.length t.1/\Ef s t.1∈t.2.1
noncomputable abbrev Vo:Spec:=En (.pair tb .unit) (.optr Wy) false false (λx=>aw x.1) (λx=>some (Dp x.1))
def YX (b:Option BB) (s:List Int):Prop:= ∃ts,aw ts/\b=some (Dp ts)/\dq ts s
def Abe (b:Option BB) (s:List Int):List Int:=match b with|some b=>Uv b.1 s|none=> []
def Qx (b:Option BB) (s:List Int):Int:=match b with|some b=>Nb b.1 s|none=>0
noncomputable abbrev zc:Spec:=En (.pair (.optr Wy) (.pair tL .unit)) tL false true (λx=>YX x.1 x.2.1) (λx=>Abe x.1 x.2.1)
noncomputable abbrev bn:Spec:=En (.pair (.optr Wy) (.pair tL .unit)) tI false true (λx=>YX x.1 x.2.1) (λx=>Qx x.1 x.2.1)
noncomputable abbrev eE:Spec:=En (.pair tb (.pair tL .unit)) tL false true (λx=>aw x.1/\dq x.1 x.2.1) (λx=>Uv x.1 x.2.1)
noncomputable abbrev bm:Spec:=En (.pair tb (.pair tL .unit)) tI false true (λx=>aw x.1/\dq x.1 x.2.1) (λx=>Nb x.1 x.2.1)
abbrev oM:Type:=Int×List Int×List (List Int)×List Int×List (List Int×List (List Int)×List Int×PUnit)×(ByteArray->Option Int)×List (ByteArray->Option Int)×PUnit
abbrev oO:Type:=Int×List (List Int×List (List Int)×List Int×PUnit)×List (ByteArray->Option Int)×PUnit
theorem KS (ts:List (List Int×List (List Int)×List Int×Unit)) (P:Option (List (List Int×List (List Int)×List Int×Unit)×List (ByteArray->Option Int)×Unit)->Prop):(0=0/\0=([]:List Int).length/\Cz (λ(v2:oO) (k3:oO->Prop)=>Br (decide (v2.1<(↑ts.length:Int))) (∃(y4:List Int×List (List Int)×List Int×PUnit),idx ts v2.1=some y4/\0=0/\v2.2.2.1.length=v2.2.2.1.length/\Cz (λ(v5:oM) (k6:oM->Prop)=>Br (decide (v5.1<(↑y4.2.1.length:Int))) (∃(y7:List Int),idx y4.2.1 v5.1=some y7/\ ∃(y8:ByteArray),Ki.fn (y7,())=some y8/\ ∃(y9:Int),idx v5.2.2.2.1 v5.1=some y9/\0=0/\v5.2.2.2.2.2.2.1.length=v5.2.2.2.2.2.2.1.length/\k6 (IntKind.i64.wrap (v5.1+(1:Int)),v5.2.1,v5.2.2.1,v5.2.2.2.1,v5.2.2.2.2.1,jL v5.2.2.2.2.2.1 y8 y9,v5.2.2.2.2.2.2.1,())) (0=0/\v5.2.2.2.2.2.2.1.length=v5.2.2.2.2.2.2.1.length/\v5.2.2.2.2.2.2.1.length+(List.take 1 (List.drop 0 [v5.2.2.2.2.2.1])).length<=Cq/\0=0/\(v5.2.2.2.2.2.2.1++List.take 1 (List.drop 0 [v5.2.2.2.2.2.1])).length=(v5.2.2.2.2.2.2.1++List.take 1 (List.drop 0 [v5.2.2.2.2.2.1])).length/\k3 (IntKind.i64.wrap (v2.1+(1:Int)),v5.2.2.2.2.1,v5.2.2.2.2.2.2.1++List.take 1 (List.drop 0 [v5.2.2.2.2.2.1]),()))) ((0:Int),y4.1,y4.2.1,y4.2.2.1,v2.2.1,λ(_:ByteArray)=>none,v2.2.2.1,PUnit.unit)) (P (some (v2.2.1,List.take v2.2.2.1.length (List.drop 0 v2.2.2.1),())))) ((0:Int),ts,[],PUnit.unit))=fnW (qv [au+101101]) (look [(79,Ki)]) Vo Tryz.f64 (ts,()) P:=by kernel_rfl
abbrev Acm:Type:=List (List Int×List (List Int)×List Int×PUnit)×List (ByteArray->Option Int)×PUnit
theorem Apz (b:Option (List (List Int×List (List Int)×List Int×Unit)×List (ByteArray->Option Int)×Unit)) (s:List Int) (P:List Int->Prop):(∃(y3:Acm),b=some y3/\0=0/\0=([]:List Int).length/\Cz (λ(v4:Int×List Int×PUnit) (k5:Int×List Int×PUnit->Prop)=>Br (decide (v4.1<(↑y3.1.length:Int))) (∃(y6:List Int×List (List Int)×List Int×PUnit),idx y3.1 v4.1=some y6/\ ∃(y7:Acm),b=some y7/\ ∃(y8:ByteArray->Option Int),idx y7.2.1 v4.1=some y8/\ ∃(y9:List Int),bE.fn (s,y6.1,())=some y9/\ ∃(Ly:ByteArray),Ki.fn (y9,())=some Ly/\0=0/\v4.2.1.length=v4.2.1.length/\v4.2.1.length+(List.take 1 (List.drop 0 [(y8 Ly).getD (Int.ofNat (nat_lit 0))])).length<=Cq/\0=0/\(v4.2.1++List.take 1 (List.drop 0 [(y8 Ly).getD (Int.ofNat (nat_lit 0))])).length=(v4.2.1++List.take 1 (List.drop 0 [(y8 Ly).getD (Int.ofNat (nat_lit 0))])).length/\k5 (IntKind.i64.wrap (v4.1+(1:Int)),v4.2.1++List.take 1 (List.drop 0 [(y8 Ly).getD (Int.ofNat (nat_lit 0))]),())) (P (List.take v4.2.1.length (List.drop 0 v4.2.1)))) ((0:Int),[],PUnit.unit))=fnW Ej (look [(79,Ki),(80,bE)]) zc Tryz.f59 (b,s,()) P:=by kernel_rfl
theorem Agd (b:Option (List (List Int×List (List Int)×List Int×Unit)×List (ByteArray->Option Int)×Unit)) (s:List Int) (P:Int->Prop):(∃(y3:List Int),zc.fn (b,s,())=some y3/\Cz (λ(v4:Int×Int×PUnit) (k5:Int×Int×PUnit->Prop)=>Br (decide (v4.2.1<(↑y3.length:Int))) (∃(y6:Int),idx y3 v4.2.1=some y6/\k5 (if true=true then if y6>v4.1 then y6 else v4.1 else if y6<v4.1 then y6 else v4.1,IntKind.i64.wrap (v4.2.1+(1:Int)),())) (P v4.1)) ((0:Int),(0:Int),PUnit.unit))=fnW Ej (look [(59,zc)]) bn Tryz.f52 (b,s,()) P:=by kernel_rfl
abbrev qp:Type:=List Int×List (List Int)×List Int×PUnit
theorem Adf (ts:List (List Int×List (List Int)×List Int×Unit)) (s:List Int) (P:List Int->Prop):(0=0/\0=([]:List Int).length/\Cz (λ(v3:Int×List Int×PUnit) (k4:Int×List Int×PUnit->Prop)=>Br (decide (v3.1<(↑ts.length:Int))) (∃(y5:qp),idx ts v3.1=some y5/\ ∃(y6:qp),idx ts v3.1=some y6/\ ∃(y7:qp),idx ts v3.1=some y7/\ ∃(y8:List Int),bF.fn (y7.1,s,())=some y8/\ ∃(y9:Int),Uz.fn (y6,y8,())=some y9/\ ∃(Ly:Int),idx y5.2.2.1 y9=some Ly/\0=0/\v3.2.1.length=v3.2.1.length/\v3.2.1.length+(List.take 1 (List.drop 0 [Ly])).length<=Cq/\0=0/\(v3.2.1++List.take 1 (List.drop 0 [Ly])).length=(v3.2.1++List.take 1 (List.drop 0 [Ly])).length/\k4 (IntKind.i64.wrap (v3.1+(1:Int)),v3.2.1++List.take 1 (List.drop 0 [Ly]),())) (P (List.take v3.2.1.length (List.drop 0 v3.2.1)))) ((0:Int),[],PUnit.unit))=fnW Ej (look [(78,bF),(77,Uz)]) eE Tryz.f57 (ts,s,()) P:=by kernel_rfl
theorem Agc (ts:List (List Int×List (List Int)×List Int×Unit)) (s:List Int) (P:Int->Prop):(∃(y3:List Int),eE.fn (ts,s,())=some y3/\Cz (λ(v4:Int×Int×PUnit) (k5:Int×Int×PUnit->Prop)=>Br (decide (v4.2.1<(↑y3.length:Int))) (∃(y6:Int),idx y3 v4.2.1=some y6/\k5 (if true=true then if y6>v4.1 then y6 else v4.1 else if y6<v4.1 then y6 else v4.1,IntKind.i64.wrap (v4.2.1+(1:Int)),())) (P v4.1)) ((0:Int),(0:Int),PUnit.unit))=fnW Ej (look [(57,eE)]) bm Tryz.f48 (ts,s,()) P:=by kernel_rfl
theorem TX.short {t:TT} (h:TX t):Oe t:=by
 have h1:=h.wP;have h2:=h.len;have h3:=h.tl
 exact ⟨by unfold _root_.Go.Proofs.YtfolipnappekaaaGreat.short;omega,⟨by omega,λr hr=>by have:=h.pl r hr;unfold _root_.Go.Proofs.YtfolipnappekaaaGreat.short;omega⟩,by unfold _root_.Go.Proofs.YtfolipnappekaaaGreat.short;omega⟩
theorem zt {p:PP} {t:TT} (h:Gz p t=true):TX t/\Gi p t.1=true/\(Kr p.2.2.1 t.1).2.2=true/\t.2.1=mA p t.1/\t.2.2.1=Abf p t.1:=by
 obtain ⟨h1,h2⟩:=Gm.1 h
 obtain ⟨h3,h4⟩:=ey.1 h1
 have h5:=pG.1 h2
 unfold Hr at h5
 rw [Ab h1] at h5
 have e1:t.2.1=mA p t.1:=(Mf (λz:TT=>z.2.1) h5).symm
 have e2:t.2.2.1=Abf p t.1:=(Mf (λz:TT=>z.2.2.1) h5).symm
 have hv:=(Sb.1 h3).1
 have hn:=(valid hv).n
 have iY:=BU h3
 have kR:=iY.ok.wP
 have hlen:=iY.len
 have LM:=iY.ok.short
 refine ⟨⟨by rw [e1];exact kR,by rw [e1,e2];exact hlen,by rw [e1];exact iY.ok.nodup,λx hx=>?_,λd hd=>?_,(Jg h3).1,λx hx=>?_⟩,h3,h4,e1,e2⟩
 ·rw [e1] at hx
  intro y hy
  have:=iY.row x hx y hy
  omega
 ·rw [e2] at hd
  obtain ⟨j,hj,rfl⟩:=Cl.1 hd
  have h6:=iY.dep j hj
  have sd:j<(Kr p.2.2.1 t.1).2.1.length:=hj
  exact ⟨h6.1,by have:=h6.2;show (Kr p.2.2.1 t.1).2.1[j]<=3000;omega⟩
 ·rw [e1] at hx
  have:=iY.ok.len x hx
  omega
theorem jJ {p:PP} {ts:List TT} (h:Gr p ts=true):Ea p=true/\aw ts/\ ∀t∈ts,Gz p t=true:=by
 unfold Gr at h
 rw [Af,Af,Bd,Ka] at h
 exact ⟨h.1.1,⟨h.1.2,λt ht=>(zt (h.2 t ht)).1⟩,h.2⟩
theorem KC: ∀(xs:List (List Int)) (ds:List Int) (m:ByteArray->Option Int) (x:List Int),xs.length=ds.length->xs.Nodup->(∀y∈xs,gq y)->gq x->XR xs ds m (Xn x)=if x∈xs then some (ds.getD (xs.idxOf x) 0) else m (Xn x)
 | [],ds,m,x,_,_,_,_=>by cases ds<;>simp [XR]
 |y::xs,[],m,x,hl,_,_,_=>by simp at hl
 |y::xs,d::ds,m,x,hl,hn,hb,hx=>by
  obtain ⟨hy,hn⟩:=Cd.1 hn
  simp only [XR]
  rw [KC xs ds _ x (by simpa using hl) hn (λz hz=>hb z (At _ hz)) hx]
  by_cases hm:x∈xs
  ·have Ik:y≠x:= λe=>hy (e▸hm)
   have hi:(y::xs).idxOf x=xs.idxOf x+1:=by rw [List.idxOf_cons,show (y==x)=false by simpa using Ik];rfl
   rw [Ab hm,Ab (At _ hm),hi]
   rfl
  ·rw [Ag hm]
   unfold jL
   by_cases e:Xn x=Xn y
   ·have:=key_inj hx (hb y (by simp)) e
    subst this
    rw [Ab e,Ab (by simp),List.idxOf_cons_self]
    rfl
   ·have Ik:x≠y:= λh=>e (by rw [h])
    rw [Ag e,Ag (by simp [Ik,hm])]
theorem Ad3 {t:TT} (h:TX t) {x:List Int} (hx:x∈t.2.1):Wm t (Xn x)=some (t.2.2.1.getD (t.2.1.idxOf x) 0):=by
 unfold Wm
 rw [KC _ _ _ _ h.len.symm h.nodup h.byte (h.byte x hx),Ab hx]
theorem IN (ts:List TT) (h:aw ts):fnW (qv [au+101101]) (look [(79,Ki)]) Vo Tryz.f64 (ts,()) (λ(z:Option BB)=>z=some (Dp ts)):=by
 obtain ⟨h4,hd⟩:=h
 refine Eq.mp (KS ts _) ⟨rfl,rfl,?_⟩
 refine Bf ts.length (λv=>v.1) (λi v=>v=((i:Int),ts,(ts.take i).map Wm,())) rfl rfl ?_
 rintro i v K hi hii rfl hK
 dsimp only
 refine Br.dec (λhl=>?_) λhl=>?_
 ·have hl:i<ts.length:=by omega
  have UQ:=hd _ (Aj hl)
  have kR:=UQ.wP
  have hlen:=UQ.len
  have Ak2:=UQ.short
  refine ⟨_,Bq hl,rfl,rfl,?_⟩
  refine Bf (ts[i]).2.1.length (λv=>v.1) (λj v=> ∃m,v=((j:Int),(ts[i]).1,(ts[i]).2.1,(ts[i]).2.2.1,ts,m,(ts.take i).map Wm,())/\XR ((ts[i]).2.1.drop j) ((ts[i]).2.2.1.drop j) m=Wm ts[i]) rfl ⟨_,rfl,by rw [Dn,Dn];rfl⟩ ?_
  rintro j v K1 hj hjj ⟨m,rfl,hm⟩ hK1
  dsimp only
  refine Br.dec (λkl=>?_) λkl=>?_
  ·have kl:j<(ts[i]).2.1.length:=by omega
   have wD:j<(ts[i]).2.2.1.length:=by omega
   rw [Cn kl,Cn wD] at hm
   refine ⟨_,Bq kl,_,Ab (Ak2.2.1.2 _ (Aj kl)),_,Bq wD,rfl,rfl,?_⟩
   rw [Bh (by omega)]
   exact hK1 kl _ rfl ⟨_,rfl,hm⟩
  ·have:j=(ts[i]).2.1.length:=by omega
   subst this
   rw [Ij] at hm
   have hm:m=Wm ts[i]:=by
    rw [<-hm]
    cases List.drop (ts[i]).2.1.length (ts[i]).2.2.1<;>rfl
   subst hm
   refine ⟨rfl,rfl,by show ((ts.take i).map Wm).length+1<=4294967296;rw [Dj,De];omega,rfl,rfl,?_⟩
   rw [Bh (by omega)]
   have hmm:(ts.take (i+1)).map Wm=(ts.take i).map Wm++ [Wm ts[i]]:=by
    rw [Fw,Ac hl,Lt,Kc]
    rfl
   refine hK hl _ rfl ?_
   rw [hmm]
   rfl
 ·have:i=ts.length:=by omega
  subst this
  rw [Bx,Ap]
  rfl
theorem sy:Sound Tryz.prog 64 Vo:=
 Sound.En (qw [au+101101]) (Av cr Bg) mixed Tryz.func64 (by kernel_rfl) (by kernel_rfl) λx h=>IN x.1 h
theorem ng (ts:List TT) (s:List Int):(Uv ts s).length=ts.length:=by unfold Uv;rw [Dj]
theorem MB {t:TT} (h:TX t) {s:List Int} (hs:Ef s t.1∈t.2.1):0<=fq t s/\fq t s<=3000:=by
 have hi:=List.idxOf_lt_length_of_mem hs
 have hl:=h.len
 unfold fq
 rw [Zm (by omega)]
 exact h.Aru _ (Aj _)
theorem UE {ts:List TT} (h:aw ts) {s:List Int} (hs:dq ts s): ∀d∈Uv ts s,0<=d/\d<=3000:= λd hd=>by
 obtain ⟨t,ht,rfl⟩:=Bj.1 hd
 exact MB (h.2 t ht) (hs.2 t ht).2
theorem yj {ts:List TT} {s:List Int} {i:Nat} (hl:i<ts.length):(Uv (ts.take (i+1)) s)=Uv (ts.take i) s++ [fq ts[i] s]:=by
 unfold Uv
 rw [Fw,Ac hl,Lt,Kc]
 rfl
theorem Apa (b:Option BB) (s:List Int) (h:YX b s):fnW Ej (look [(79,Ki),(80,bE)]) zc Tryz.f59 (b,s,()) (λ(z:List Int)=>z=Abe b s):=by
 obtain ⟨ts,⟨h4,hd⟩,rfl,hs⟩:=h
 refine Eq.mp (Apz _ s _) ⟨Dp ts,rfl,rfl,rfl,?_⟩
 show Cz _ _
 refine Bf ts.length (λv=>v.1) (λi v=>v=((i:Int),Uv (ts.take i) s,())) rfl rfl ?_
 rintro i v K hi hii rfl hK
 dsimp only
 refine Br.dec (λhl=>?_) λhl=>?_
 ·have hl:i<ts.length:=by have hl:(i:Int)<(ts.length:Int):=hl;omega
  have UQ:=hd _ (Aj hl)
  obtain ⟨fi,mU⟩:=hs.2 _ (Aj hl)
  have htl:=UQ.tl
  have km:=UQ.pl _ mU
  refine ⟨ts[i],Bq hl,Dp ts,rfl,Wm ts[i],?_,_,Ab ⟨by show (ts[i]).1.length<=4294967296;omega,fi⟩,_,Ab (by show (Ef s (ts[i]).1).length<=4294967296;omega),rfl,rfl,?_,rfl,rfl,?_⟩
  ·show idx (ts.map Wm) (i:Int)=_
   rw [Bq (by rw [Dj];exact hl),Sx]
  ·show (Uv (ts.take i) s).length+1<=4294967296
   rw [ng,De];omega
  ·rw [Bh (by omega)]
   refine hK hl _ rfl ?_
   rw [yj hl,show Wm ts[i] (Xn (Ef s (ts[i]).1))=some (fq ts[i] s) from Ad3 UQ mU]
   rfl
 ·have:i=ts.length:=by have hl: ¬(i:Int)<(ts.length:Int):=hl;omega
  subst this
  rw [Bx,Ap]
  rfl
theorem XB:Sound Tryz.prog 59 zc:=
 Sound.En Db (Av cr (Av xE Bg)) mixed Tryz.func59 (by kernel_rfl) (by kernel_rfl) λx h=>Apa x.1 x.2.1 h
theorem Abm (a b:Int):(if true=true then if b>a then b else a else if b<a then b else a)=max a b:=by
 rw [Ab rfl]
 by_cases h:b>a
 ·rw [Ab h,Int.max_eq_right (by omega)]
 ·rw [Ag h,Int.max_eq_left (by omega)]
theorem ZV {xs:List Int} {m:Int} (h: ∀x∈xs,0<=x/\x<=m) (hm:0<=m):0<=xs.foldl max 0/\xs.foldl max 0<=m:=by
 rcases lh xs 0 with h1|h1
 ·rw [h1];exact ⟨Nx _,hm⟩
 ·exact h _ h1
theorem sS {ts:List TT} (h:aw ts) {s:List Int} (hs:dq ts s):0<=Nb ts s/\Nb ts s<=3000:=ZV (UE h hs) (by omega)
theorem Afl (b:Option BB) (s:List Int) (h:YX b s):fnW Ej (look [(59,zc)]) bn Tryz.f52 (b,s,()) (λ(z:Int)=>z=Qx b s):=by
 obtain ⟨ts,ht,hb,hs⟩:=id h
 have hl4:=ht.1
 have hlen:=ng ts s
 obtain ⟨xs,hxs⟩: ∃xs,Abe b s=xs:=⟨_,rfl⟩
 have hxe:Qx b s=xs.foldl max 0:=by rw [<-hxs,hb];rfl
 have hxl:xs.length=ts.length:=by rw [<-hxs,hb];exact hlen
 refine Eq.mp (Agd b s _) ⟨xs,(Ab h).trans (Mf some hxs),?_⟩
 rw [hxe]
 refine Bf xs.length (λv=>v.2.1) (λi v=>v=((xs.take i).foldl max 0,(i:Int),())) rfl rfl ?_
 rintro i v K hi hii rfl hK
 dsimp only
 refine Br.dec (λhl=>?_) λhl=>?_
 ·have hl:i<xs.length:=by omega
  refine ⟨_,Bq hl,?_⟩
  rw [Bh (by omega)]
  refine hK hl _ rfl ?_
  rw [Fw,Ac hl,Lt,Vw,Abm]
  rfl
 ·have:i=xs.length:=by omega
  subst this
  rw [Ap]
theorem rE:Sound Tryz.prog 52 bn:=
 Sound.En Db (Av XB Bg) mixed Tryz.func52 (by kernel_rfl) (by kernel_rfl) λx h=>Afl x.1 x.2.1 h
theorem NL {L:List (List Int)} {x:List Int} (hn:L.Nodup) (hx:x∈L):Hs (λq=>decide (q=x)) L 0=((L.idxOf x:Nat):Int):=by
 obtain ⟨k,hk,h1,h2,_⟩:=yI (P:= λq=>decide (q=x)) L 0 (Kk.2 ⟨x,hx,Fu rfl⟩)
 have h3:L[k]=x:=Gt h2
 have h4:=NJ hn hk
 rw [Zm hk,h3] at h4
 rw [h4,<-Bv k]
 exact h1
theorem Abv (ts:List TT) (s:List Int) (h:aw ts/\dq ts s):fnW Ej (look [(78,bF),(77,Uz)]) eE Tryz.f57 (ts,s,()) (λ(z:List Int)=>z=Uv ts s):=by
 obtain ⟨⟨h4,hd⟩,hs⟩:=h
 refine Eq.mp (Adf ts s _) ⟨rfl,rfl,?_⟩
 refine Bf ts.length (λv=>v.1) (λi v=>v=((i:Int),Uv (ts.take i) s,())) rfl rfl ?_
 rintro i v K hi hii rfl hK
 dsimp only
 refine Br.dec (λhl=>?_) λhl=>?_
 ·have hl:i<ts.length:=by omega
  have UQ:=hd _ (Aj hl)
  obtain ⟨fi,mU⟩:=hs.2 _ (Aj hl)
  have htl:=UQ.tl
  have km:=UQ.pl _ mU
  have hix:=List.idxOf_lt_length_of_mem mU
  have hle:=UQ.len
  have he:Uz.fn (((ts[i]).1,(ts[i]).2.1,(ts[i]).2.2.1,()),Ef s (ts[i]).1,())=some (((ts[i]).2.1.idxOf (Ef s (ts[i]).1):Nat):Int):=
   (Ab ⟨UQ.short,by show (Ef s (ts[i]).1).length<=4294967296;omega⟩).trans (Mf some (NL UQ.nodup mU))
  refine ⟨_,Bq hl,_,Bq hl,_,Bq hl,_,Ab ⟨by show (ts[i]).1.length<=4294967296;omega,fi⟩,_,he,_,Bq (by omega),rfl,rfl,?_,rfl,rfl,?_⟩
  ·show (Uv (ts.take i) s).length+1<=4294967296
   rw [ng,De];omega
  ·rw [Bh (by omega)]
   refine hK hl _ rfl ?_
   rw [yj hl]
   unfold fq
   rw [Zm (by omega)]
   rfl
 ·have:i=ts.length:=by omega
  subst this
  rw [Bx,Ap]
theorem CQ:Sound Tryz.prog 57 eE:=
 Sound.En Db (Av xF (Av w7 Bg)) mixed Tryz.func57 (by kernel_rfl) (by kernel_rfl) λx h=>Abv x.1 x.2.1 h
theorem Afk (ts:List TT) (s:List Int) (h:aw ts/\dq ts s):fnW Ej (look [(57,eE)]) bm Tryz.f48 (ts,s,()) (λ(z:Int)=>z=Nb ts s):=by
 have hl4:=h.1.1
 have hlen:=ng ts s
 obtain ⟨xs,hxs⟩: ∃xs,Uv ts s=xs:=⟨_,rfl⟩
 have hxe:Nb ts s=xs.foldl max 0:=by rw [<-hxs];rfl
 have hxl:xs.length=ts.length:=by rw [<-hxs];exact hlen
 refine Eq.mp (Agc ts s _) ⟨xs,(Ab h).trans (Mf some hxs),?_⟩
 rw [hxe]
 refine Bf xs.length (λv=>v.2.1) (λi v=>v=((xs.take i).foldl max 0,(i:Int),())) rfl rfl ?_
 rintro i v K hi hii rfl hK
 dsimp only
 refine Br.dec (λhl=>?_) λhl=>?_
 ·have hl:i<xs.length:=by omega
  refine ⟨_,Bq hl,?_⟩
  rw [Bh (by omega)]
  refine hK hl _ rfl ?_
  rw [Fw,Ac hl,Lt,Vw,Abm]
  rfl
 ·have:i=xs.length:=by omega
  subst this
  rw [Ap]
theorem rD:Sound Tryz.prog 48 bm:=
 Sound.En Db (Av CQ Bg) mixed Tryz.func48 (by kernel_rfl) (by kernel_rfl) λx h=>Afk x.1 x.2.1 h
theorem oa {p:PP} {s:List Int} (h:Nu p s=true):Ea p=true/\Pm p.1.toNat s/\Gn p.1.toNat (p.2.2.1.map some) s:=by
 unfold Nu at h
 rw [Af,Af] at h
 obtain ⟨⟨hv,hg⟩,hh⟩:=h
 have hV:=valid hv
 have hn:=hV.n
 have hp:=Ais hV hg
 exact ⟨hv,hp,(mh (by omega) (by omega) (ez (dR hV).2.2) hp).1 hh⟩
theorem ZX {p:PP} {s:List Int} (hv:Ea p=true) (h:Gn p.1.toNat (p.2.2.1.map some) s):Nu p s=true:=by
 have hV:=valid hv
 have hn:=hV.n
 have hp:=cC.pm (ub hV) h
 unfold Nu
 rw [hv,Al7 hV hp,show Hy (cK p.1 p.2.2.1).2 p.1.toNat 0 s=true from (mh (by omega) (by omega) (ez (dR hV).2.2) hp).2 h]
 rfl
theorem MU {p:PP} {t s:List Int} (hv:Ea p=true) (hs:Pm p.1.toNat s) (ht:Gi p t=true):Mm s.length t:=by
 have h1:=hs.1
 have hn:=(valid hv).n
 intro y hy
 have:=(Jg ht).2 y hy
 omega
theorem Ait {p:PP} {t:List Int} (hv:Ea p=true) (ht:Gi p t=true) (hw:(Kr p.2.2.1 t).2.2=true) {s:List Int} (hs:Gn p.1.toNat (p.2.2.1.map some) s):Ef s t∈mA p t:=by
 have hV:=valid hv
 have hc:zw p.2.2.1 (Aw p.2.2.1.length) (mA p t):=x5 hV (BU ht) (LY hv (Jg ht).1 (Jg ht).2 hw)
 induction hs with
 |id=>rw [WL (KE ht)];exact (WK ht).2
 |mul h hg ih=>
  have hp:Pm p.1.toNat _:=cC.pm (ub hV) h
  obtain ⟨k,hk,rfl⟩:=Cl.1 (ov.1 hg)
  have:=hc.next _ ih _ (Vh hk).1
  rw [Ut hk] at this
  rw [jg (MU hv hp ht)]
  exact this
 |inv h hg ih=>
  have hp:Pm p.1.toNat _:=cC.pm (ub hV) h
  obtain ⟨k,hk,rfl⟩:=Cl.1 (ov.1 hg)
  have:=hc.next _ ih _ (Vh hk).2
  rw [Us hk] at this
  rw [jg (MU hv hp ht)]
  exact this
theorem PF {p:PP} {ts:List TT} {s:List Int} (hr:Nu p s=true) (ht:Gr p ts=true):dq ts s:=by
 obtain ⟨hv,hp,hg⟩:=oa hr
 obtain ⟨_,_,Kf⟩:=jJ ht
 have hn:=(valid hv).n
 refine ⟨by rw [hp.1];omega,λt uv=>?_⟩
 obtain ⟨_,h3,hw,e1,_⟩:=zt (Kf t uv)
 exact ⟨MU hv hp h3,by rw [e1];exact Ait hv h3 hw hg⟩
open Go.RowKit Go.Lib
abbrev xTS:CK:= .Hk Ku 58
noncomputable abbrev bp:MSpec:=cd [none] [(false, .Fm tb)] false [none] [xTS] (λx=>Gx x.1) (λx=>((x.1,()),()))
def Ag7 (t:TT):Nat:=t.1.length+Ed t.2.1+t.2.2.1.length
def Ln:List TT->Nat
 | []=>0
 |t::ts=>Ag7 t+Ln ts
noncomputable abbrev Lk:MSpec:=cd [none,none] [(false,xTS),(false, .Fm tI)] false [none] [.Fm tI] (λx=>Gx x.1/\low x.2.1/\low (x.2.1+Ln x.1)) (λx=>((x.2.1+Ln x.1,()),()))
abbrev JY:Type:=Int×List (List Int×List (List Int)×List Int×PUnit)×PUnit
theorem Agi (ts:List (List Int×List (List Int)×List Int×Unit)) (P:((List (List Int×List (List Int)×List Int×Unit)×Unit)×Unit)->Prop):(((0:Int)<=(↑ts.length:Int)/\(↑ts.length:Int)<(↑Cq:Int)+(1:Int))/\(↑ts.length:Int)=(↑ts.length:Int)/\0=0/\(List.replicate (↑ts.length:Int).toNat (([]:List Int),([]:List (List Int)),([]:List Int),())).length=(List.replicate (↑ts.length:Int).toNat (([]:List Int),([]:List (List Int)),([]:List Int),())).length/\Cz (λ(v2:JY) (k3:JY->Prop)=>Br (decide (v2.1<(↑ts.length:Int))) (∃(y4:List Int×List (List Int)×List Int×PUnit),idx ts v2.1=some y4/\ ∃(y5:(List Int×List (List Int)×List Int×PUnit)×PUnit),Yz.fn (y4.1,y4.2.1,y4.2.2.1,())=some y5/\((0:Int)<=v2.1/\v2.1<(↑v2.2.1.length:Int))/\0+v2.1.toNat<v2.2.1.length/\0=0/\v2.2.1.length=(v2.2.1.set (0+v2.1.toNat) (List.take y5.1.1.length (List.drop 0 y5.1.1),List.take y5.1.2.1.length (List.drop 0 y5.1.2.1),List.take y5.1.2.2.1.length (List.drop 0 y5.1.2.2.1),())).length/\k3 (IntKind.i64.wrap (v2.1+(1:Int)),v2.2.1.set (0+v2.1.toNat) (List.take y5.1.1.length (List.drop 0 y5.1.1),List.take y5.1.2.1.length (List.drop 0 y5.1.2.1),List.take y5.1.2.2.1.length (List.drop 0 y5.1.2.2.1),()),())) (P ((List.take v2.2.1.length (List.drop 0 v2.2.1),()),()))) ((0:Int),List.replicate (↑ts.length:Int).toNat (([]:List Int),([]:List (List Int)),([]:List Int),()),PUnit.unit))=fnMW (qv [jV+7]) (look [(50,Yz)]) bp Tryz.f17 (ts,()) P:=by kernel_rfl
theorem Afq (ts:List TT) (h:Gx ts):fnMW (qv [jV+7]) (look [(50,Yz)]) bp Tryz.f17 (ts,()) (λ(z:(List TT×Unit)×Unit)=>z=((ts,()),())):=by
 obtain ⟨h,h4⟩:=h
 refine Eq.mp (Agi ts _) ?_
 refine ⟨⟨by omega,by show (ts.length:Int)<(4294967296:Int)+1;omega⟩,rfl,rfl,rfl,?_⟩
 refine Bf ts.length (λv=>v.1) (λj v=>v.2.1.length=ts.length/\v.2.1.take j=ts.take j) rfl ⟨by simp,by simp⟩ ?_
 rintro j ⟨i,ys,⟨⟩⟩ K hj hi ⟨h1,h2⟩ hK
 dsimp only at hi h1 h2⊢
 subst hi
 refine Br.dec (λhl=>?_) λhl=>?_
 ·have hl:j<ts.length:=by omega
  refine ⟨_,Bq hl,_,Ab (h4 _ (Aj hl)),⟨by omega,by omega⟩,by rw [Ai];omega,rfl,by rw [Bi],?_⟩
  rw [Bh (by omega),Ai,Bv]
  simp only [Bx]
  exact hK hl _ rfl ⟨by rw [Bi];exact h1,Km hl h1 h2⟩
 ·have:j=ts.length:=by omega
  subst this
  rw [Ap,<-h1,Ap] at h2
  rw [Bx,h2]
theorem JO:Ca Tryz.prog 17 bp:=
 Ca.cd (qw [jV+7]) (Ep w9 Bg) mixed Tryz.func17 (by kernel_rfl) (by kernel_rfl) λx h=>Afq x.1 h
def IB (r:Option Real):Pi:= λl=>if l=Ds true 0 then r else none
theorem sX (r:Option Real):IB r (Ds true 0)=r:=Ab rfl
theorem o5 (r:Option Real) {l:Nat} (h:l≠Ds true 0):IB r l=none:=Ag h
theorem bx {r:Option Real} {l:Nat} {q:Real} (h:IB r l=some q):l=Ds true 0/\r=some q:=by
 unfold IB at h
 split at h
 ·exact ⟨by assumption,h⟩
 ·cases h
theorem wc {F:List Nat} {u:Value} {xs:List Int} {w:World} {k:Int} (h:Ch w F tL [u] xs) (hn:F.Nodup) (hs:short xs/\low k):
  Calls Tryz.prog 31 #[u, .int .i64 k] w λe w'=>e= .returned (.int .i64 (k+xs.length))/\Gy w.heap.size (· ∈F) w w':=by
 obtain ⟨r,r1,r2,r3,r4,r5⟩:=Ch.row h hn
 have It:=Ch.lt F _ _ _ h
 have a5: ∀b,Uf (IB r) b->b∈F:=by
  rintro b ⟨l,q,hl,hq⟩
  exact (r4 q (bx hl).2 b).1 hq
 have hc:=jB.calls w (λ_=>False) (IB r) [u, .int .i64 k] (xs,k,()) (k+xs.length,()) (La k xs.length,()) 0 [u, .int .i64 k] ⟨rfl,trivial⟩ (λh=>by cases h)
  ⟨⟨(sX r).symm▸r1,(sX r).symm▸r2 rfl _⟩,⟨o5 r (by decide),⟨[.int .i64 k],rfl,rfl⟩⟩,trivial⟩
  ⟨λl q b hl hq=>It b (a5 b ⟨l,q,hl,hq⟩),λl l' q q' b hl Kn _ _=>(bx hl).1.trans (bx Kn).1.symm⟩
  (λb hb=>hb.elim) (λl hl=>o5 r λhh=>by rw [hh] at hl;cases hl) (Ab hs)
 refine hc.mono λe w' ⟨v,Sf,ρ,he,hr,_,hb,_,ho,_⟩=>?_
 cases Sf with
 |nil=>exact ho.elim
 |cons v' Sf=>
 cases Sf with
 |cons _ _=>exact ho.2.elim
 |nil=>
 obtain ⟨⟨_,cs,s9,hv⟩,_⟩:=ho
 simp only [Cells] at s9
 subst s9
 have hv:v'= .int .i64 (k+xs.length):=hv
 subst hv
 obtain ⟨hr,_⟩:=hr
 rcases hr with hr|hr
 ·cases hr
  exact ⟨he,hb.os,hb.tape,hb.output,hb.size,λb iV hF=>hb.block b iV λhh=>by
   rcases hh with hh|hh
   ·exact hF (a5 b hh)
   ·cases hh.1⟩
 ·cases hr
theorem JS {F:List Nat} {u:Value} {xs:List (List Int)} {w:World} {k:Int} (h:Ch w F dI [u] xs) (hn:F.Nodup) (hs:Hc xs/\low k/\low (k+Ed xs)):
  Calls Tryz.prog 60 #[u, .int .i64 k] w λe w'=>e= .returned (.int .i64 (k+Ed xs))/\Gy w.heap.size (· ∈F) w w':=by
 obtain ⟨r,r1,r2,r3,r4,r5⟩:=Ch.row h hn
 have It:=Ch.lt F _ _ _ h
 have a5: ∀b,Uf (IB r) b->b∈F:=by
  rintro b ⟨l,q,hl,hq⟩
  exact (r4 q (bx hl).2 b).1 hq
 have hc:=oF.calls w (λ_=>False) (IB r) [u, .int .i64 k] (xs,k,()) (k+Ed xs,()) (Kg k xs,()) 0 [u, .int .i64 k] ⟨rfl,trivial⟩ (λh=>by cases h)
  ⟨⟨(sX r).symm▸r1,(sX r).symm▸r3 0⟩,⟨o5 r (by decide),⟨[.int .i64 k],rfl,rfl⟩⟩,trivial⟩
  ⟨λl q b hl hq=>It b (a5 b ⟨l,q,hl,hq⟩),λl l' q q' b hl Kn _ _=>(bx hl).1.trans (bx Kn).1.symm⟩
  (λb hb=>hb.elim) (λl hl=>o5 r λhh=>by rw [hh] at hl;cases hl) (Ab hs)
 refine hc.mono λe w' ⟨v,Sf,ρ,he,hr,_,hb,_,ho,_⟩=>?_
 cases Sf with
 |nil=>exact ho.elim
 |cons v' Sf=>
 cases Sf with
 |cons _ _=>exact ho.2.elim
 |nil=>
 obtain ⟨⟨_,cs,s9,hv⟩,_⟩:=ho
 simp only [Cells] at s9
 subst s9
 have hv:v'= .int .i64 (k+Ed xs):=hv
 subst hv
 obtain ⟨hr,_⟩:=hr
 rcases hr with hr|hr
 ·cases hr
  exact ⟨he,hb.os,hb.tape,hb.output,hb.size,λb iV hF=>hb.block b iV λhh=>by
   rcases hh with hh|hh
   ·exact hF (a5 b hh)
   ·cases hh.1⟩
 ·cases hr
theorem TE:Tryz.prog.follows .mixedOrders=true:=by kernel_rfl
structure Rem (w:World) (g o:Nat) (tid:TypeId) (cur:Array Value) (Fs:List (List Nat)) (ts:List TT) (j:Nat):Prop where
 Qm:w.heap[g]?=some (.cells cur tid (0,0))
 els: ∀(i:Nat) (t:TT) (F:List Nat),j<=i->ts[i]?=some t->Fs[i]?=some F-> ∃es:List Value,es.length=3/\(∀c u,es[c]?=some u->cur[(o+i)*3+c]?=some u)/\Ch w F Ku es t
theorem wu {ts:List TT} {j:Nat} (h:j<ts.length):Ln (ts.take (j+1))=Ln (ts.take j)+Ag7 ts[j]:=by
 induction ts generalizing j with
 |nil=>simp at h
 |cons t ts ih=>cases j with
  |zero=>simp [Ln]
  |succ j=>
   have h:j<ts.length:=by simpa using h
   simp only [List.take_succ_cons,Ln,ih h,aJ]
   omega
theorem Ad4 (ts:List TT) (j:Nat):Ln (ts.take j)<=Ln ts:=by
 induction ts generalizing j with
 |nil=>simp [Ln]
 |cons t ts ih=>cases j with
  |zero=>simp [Ln]
  |succ j=>simp only [List.take_succ_cons,Ln];have:=ih j;omega
theorem Ch.VH {w:World} {F:List Nat} {e:Ty} {cs:List Value} {x:List e.den} (h:Ch w F (.slice e) cs x):cs.length=1:=by
 simp only [Ch] at h
 obtain ⟨a,n,c,rfl,_⟩:=h
 rfl
theorem Rem.parts {w:World} {g o:Nat} {tid:TypeId} {cur:Array Value} {Fs:List (List Nat)} {ts:List TT} {j:Nat} (h:Rem w g o tid cur Fs ts j) (hl:Fs.length=ts.length) (hn:(g::List.flatten Fs).Nodup) (hj:j<ts.length):
  ∃u0 u1 u2 F0 F1 F2,w.cell? ⟨g,o*3+(j*3),none⟩=some u0/\w.cell? ⟨g,o*3+(j*3)+1,none⟩=some u1/\w.cell? ⟨g,o*3+(j*3)+2,none⟩=some u2/\Fs[j]?=some (F0++(F1++F2))/\(F0++(F1++F2)).Nodup/\g∉F0++(F1++F2)/\
   Ch w F0 tL [u0] ts[j].1/\Ch w F1 dI [u1] ts[j].2.1/\Ch w F2 tL [u2] ts[j].2.2.1:=by
 have hF:Fs[j]?=some (Fs[j]'(by omega)):=Ac (by omega)
 obtain ⟨es,e1,e2,e3⟩:=h.els j _ _ (Ao j) (Ac hj) hF
 generalize Fs[j]'(by omega)=F at hF e3
 simp only [Ch] at e3
 obtain ⟨x0,y0,F0,G0,rfl,rfl,t0,x1,y1,F1,G1,rfl,rfl,t1,x2,y2,F2,G2,rfl,rfl,t2,rfl,rfl⟩:=e3
 have b0:=Ch.VH t0
 have b1:=Ch.VH t1
 have b2:=Ch.VH t2
 obtain ⟨u0,rfl⟩:=Df.1 b0
 obtain ⟨u1,rfl⟩:=Df.1 b1
 obtain ⟨u2,rfl⟩:=Df.1 b2
 rw [List.append_nil] at hF
 have hnF:(F0++(F1++F2)).Nodup:=(Cd.1 hn).2.sublist (by
  have:=aF (List.singleton_sublist.2 (Bs hF))
  simpa using this)
 have cell: ∀c u,([u0]++([u1]++([u2]++ [])))[c]?=some u->w.cell? ⟨g,o*3+(j*3)+c,none⟩=some u:= λc u hc=>by
  rw [cellOf h.Qm,show o*3+j*3+c=(o+j)*3+c by rw [Dd]]
  exact e2 c u hc
 exact ⟨u0,u1,u2,F0,F1,F2,cell 0 u0 rfl,cell 1 u1 rfl,cell 2 u2 rfl,hF,hnF,λhh=>(Cd.1 hn).1 (Fg.2 ⟨_,Bs hF,hh⟩),t0,t1,t2⟩
theorem tq {w w1:World} {F:List Nat} {g x:Nat} (hb:Gy w.heap.size (· ∈F) w w1) (hg:g<w.heap.size) (h:g∉F) {u:Value} (hc:w.cell? ⟨g,x,none⟩=some u):w1.cell? ⟨g,x,none⟩=some u:=by
 have:=hb.block g hg h
 unfold World.cell? at hc⊢
 rw [this]
 exact hc
theorem mY {w w1:World} {F F':List Nat} (hb:Gy w.heap.size (· ∈F) w w1) (h: ∀b∈F',b∉F) {τ:Ty} {cs:List Value} {x:τ.den} (hc:Ch w F' τ cs x):Ch w1 F' τ cs x:=
 Ch.Ex F' τ cs x hc hb.size λb iV=>hb.block b (Ch.lt F' τ cs x hc b iV) (h b iV)
theorem Rem.adv {w w1:World} {g o:Nat} {tid:TypeId} {cur:Array Value} {Fs:List (List Nat)} {ts:List TT} {i j:Nat} {F G:List Nat} (hR:Rem w g o tid cur Fs ts i) (iW:i<=j) (hb:Gy w.heap.size (· ∈F) w w1) (hn:(g::List.flatten Fs).Nodup) {m:Nat} (hm:Fs[m]?=some G) (hG: ∀b∈F,b∈G) (hmj:m<j):Rem w1 g o tid cur Fs ts j:=by
 have yC: ∀b∈F,b∈List.flatten Fs:= λb hb=>Fg.2 ⟨G,Bs hm,hG b hb⟩
 refine ⟨(hb.block g (Fk hR.Qm) λh=>(Cd.1 hn).1 (yC _ h)).trans hR.Qm,λk t F' hk ht hF'=>?_⟩
 obtain ⟨es,e1,e2,e3⟩:=hR.els k t F' (by omega) ht hF'
 refine ⟨es,e1,e2,mY hb (λb iV hF=>?_) e3⟩
 have:=dv Fs m k G F' b (Cd.1 hn).2 hm hF' (hG b hF) iV
 omega
theorem pc {w wr w1:World} {F:List Nat} {Fs:List (List Nat)} (h:Gy w.heap.size (λb=>b∈List.flatten Fs) w wr) (hb:Gy wr.heap.size (· ∈F) wr w1) {m:Nat} {G:List Nat} (hm:Fs[m]?=some G) (hG: ∀b∈F,b∈G):Gy w.heap.size (λb=>b∈List.flatten Fs) w w1:=
 h.trans ⟨hb.os,hb.tape,hb.output,hb.size,λb iV hF=>hb.block b (Di iV h.size) λhh=>hF (Fg.2 ⟨G,Bs hm,hG b hh⟩)⟩
set_option maxHeartbeats 4000000 in
set_option maxRecDepth 100000 in
theorem KY (g o cap:Nat) (tid:TypeId) (cur:Array Value) (Fs:List (List Nat)) (ts:List TT) (k0:Int) (w:World) (hl:Fs.length=ts.length) (hn:(g::List.flatten Fs).Nodup) (hs:Gx ts) (hk:low k0/\low (k0+Ln ts)) (hr:Rem w g o tid cur Fs ts 0):
  Calls Tryz.prog 30 #[.slice (some ⟨g,o*3,none⟩) ts.length cap, .int .i64 k0] w λe w'=>e= .returned (.int .i64 (k0+Ln ts))/\Gy w.heap.size (λb=>b∈List.flatten Fs) w w':=by
 have mixed:=TE
 have hlen:ts.length<=4294967296:=hs.1
 go_enter Tryz.func30,Tryz.ntmps30
 go_wp2
 go_loopw [1,5] (λk i wr=> ∃j:Nat,j<=ts.length/\i= .int .i64 j/\k= .int .i64 (k0+Ln (ts.take j))/\Rem wr g o tid cur Fs ts j/\Gy w.heap.size (λb=>b∈List.flatten Fs) w wr)
  (λ_ i _=>ts.length-(RowKit.intOf i).toNat)
 case atStart=>exact ⟨0,Iq _,rfl,by simp [Ln],hr,Gy.refl _ _ _⟩
 case round=>
  obtain ⟨j,hj,rfl,rfl,hR,hB⟩:=hrel
  by_cases hjl:j<ts.length
  ·obtain ⟨u0,u1,u2,F0,F1,F2,c0,c1,c2,q0,q1,q2,t0,t1,t2⟩:=hR.parts hl hn hjl
   obtain ⟨n0,n12,_⟩:=Cy.1 q1
   obtain ⟨n1,n2,_⟩:=Cy.1 n12
   have hT:=hs.2 _ (Aj hjl)
   have hle:=Ad4 ts (j+1)
   rw [wu hjl] at hle
   obtain ⟨⟨k1,k2⟩,k3,k4⟩:=hk
   have Au5:Ag7 ts[j]=ts[j].1.length+Ed ts[j].2.1+ts[j].2.2.1.length:=rfl
   have hg:g<wr.heap.size:=Fk hR.Qm
   have l1:low (k0+(Ln (ts.take j):Nat)):=⟨by omega,by omega⟩
   have l2:low (k0+(Ln (ts.take j):Nat)+(ts[j].1.length:Nat)):=⟨by omega,by omega⟩
   have l3:low (k0+(Ln (ts.take j):Nat)+(ts[j].1.length:Nat)+(Ed ts[j].2.1:Nat)):=⟨by omega,by omega⟩
   clear hr hle
   have g0:g∉F0:= λh=>q2 (Bc _ h)
   have g1:g∉F1:= λh=>q2 (Bu _ (Bc _ h))
   have d01: ∀b∈F1,b∉F0:= λb h h'=>(Cy.1 q1).2.2 b h' b (Bc _ h) rfl
   have d02: ∀b∈F2,b∉F0:= λb h h'=>(Cy.1 q1).2.2 b h' b (Bu _ h) rfl
   have d12: ∀b∈F2,b∉F1:= λb h h'=>(Cy.1 n12).2.2 b h' b h rfl
   have s0: ∀b∈F0,b∈F0++(F1++F2):= λb h=>Bc _ h
   have s1: ∀b∈F1,b∈F0++(F1++F2):= λb h=>Bu _ (Bc _ h)
   have s2: ∀b∈F2,b∈F0++(F1++F2):= λb h=>Bu _ (Bu _ h)
   go_wp2_with (first
    |(go_at_call 31;refine (wc Auz n2 ⟨hT.2.2,l3⟩).mono ?_;rintro e3 w3 ⟨rfl,hb3⟩)
    |(go_at_call 60;refine (JS t1' n1 ⟨hT.2.1,l2,l3⟩).mono ?_;rintro e2 w2 ⟨rfl,hb2⟩;have Ax9:=tq hb2 hg1 g1 c2';have Auz:=mY hb2 d12 t2')
    |(go_at_call 31;refine (wc t0 n0 ⟨hT.1,l1⟩).mono ?_;rintro e1 w1 ⟨rfl,AA⟩;have c1':=tq AA hg g0 c1;have c2':=tq AA hg g0 c2;have t1':=mY AA d01 t1;have t2':=mY AA d02 t2;have hg1:g<w1.heap.size:=Di hg AA.size))
   refine ⟨⟨j+1,by omega,by go_num,?_,((hR.adv (Nat.le_succ j) AA hn q0 s0 (Nat.lt_succ_self j)).adv (Ao _) hb2 hn q0 s1 (Nat.lt_succ_self j)).adv (Ao _) hb3 hn q0 s2 (Nat.lt_succ_self j),pc (pc (pc hB AA q0 s0) hb2 q0 s1) hb3 q0 s2⟩,by simp [RowKit.intOf];omega⟩
   rw [wu hjl,Au5]
   congr 1
   push_cast
   omega
  ·have hjl:j=ts.length:=by omega
   subst hjl
   clear hr hn
   go_wp2
   all_goals go_ret
   exact ⟨by rw [Ap];rfl,hB⟩
set_option maxHeartbeats 4000000 in
set_option maxRecDepth 100000 in
theorem EC (base:Option Addr) (cap:Nat) (k0:Int) (w:World):
  Calls Tryz.prog 30 #[.slice base 0 cap, .int .i64 k0] w λe w'=>e= .returned (.int .i64 k0)/\w'=w:=by
 have mixed:=TE
 go_enter Tryz.func30,Tryz.ntmps30
 go_wp2
 go_loop [1,5] (λk i=>k= .int .i64 k0/\i= .int .i64 0) (λ_ _=>0)
 case atStart=>exact ⟨rfl,rfl⟩
 case round=>
  obtain ⟨rfl,rfl⟩:=hrel
  go_wp2
  all_goals go_ret
  exact ⟨rfl,rfl⟩
theorem CR:Ca Tryz.prog 30 Lk:=by
 refine ⟨bS Tryz.func30 (by kernel_rfl) (by kernel_rfl),λw S π us x r o g vs hA _ hIn hP hS hno hfn=>?_⟩
 obtain ⟨ts,k,⟨⟩⟩:=x
 have hp:Gx ts/\low k/\low (k+Ln ts):=Ce λhn=>by
  have:Lk.fn (ts,k,())=none:=Ag hn
  rw [this] at hfn;cases hfn
 have hv:Lk.fn (ts,k,())=some ((k+Ln ts,()),()):=Ab hp
 rw [hv] at hfn
 cases hfn
 cases us with
 |nil=>exact hIn.elim
 |cons u us=>
 cases us with
 |nil=>exact hIn.2.elim
 |cons u1 us=>
 cases us with
 |cons u2 us=>exact hIn.2.2.elim
 |nil=>
 obtain ⟨⟨hO,hR⟩,⟨_,hI⟩,_⟩:=hIn
 obtain ⟨rfl,_⟩:=hA
 have hu1:u1= .int .i64 k:=by
  obtain ⟨cs,hc,rfl⟩:=hI
  simp only [Cells] at hc
  subst hc;rfl
 subst hu1
 have fin: ∀(w':World),Gy w.heap.size (λb=>Uf π b\/Lk.gv g b) w w'-> ∀e,e=Ending.returned (.int .i64 (k+Ln ts))->
   ∃v Sf ρ,e= .returned v/\qy Lk w' ρ (Sf.drop Lk.aa) v/\ib Lk π w' g Sf ()/\Gy w.heap.size (λb=>Uf π b\/Lk.gv g b) w w'/\Lo w' (gQ S π ρ) π 0 Lk.ins ()/\Jb w' (gQ S π ρ) ρ 0 Lk.outs (k+Ln ts,()) Sf/\
    eS ρ (λb=>b<w'.heap.size/\(w.heap.size<=b\/ ∃l q,l<Bn/\π l=some q/\q.Cu b))/\(∀l,(∀k,k<Lk.Ua->l≠Jp k)->ρ l=none)/\(∀kj∈Lk.keeps,yf w w' (π (Ds false kj.1)) (ρ (Jp kj.2)) (Lk.Ex (ts,k,()))):=by
  intro w' hb e he
  exact ⟨_,[.int .i64 (k+Ln ts)],λ_=>none,he,⟨.inl rfl,trivial⟩,trivial,hb,trivial,⟨⟨rfl,⟨[.int .i64 (k+Ln ts)],rfl,rfl⟩⟩,trivial⟩,⟨(λ_ _ _ hl _=>by cases hl),(λ_ _ _ _ _ hl _ _ _=>by cases hl)⟩,λ_ _=>rfl,λ_ hk=>by cases hk⟩
 show Calls Tryz.prog _ #[u, .int .i64 k] w _
 by_cases h0:ts= []
 ·subst h0
  have hu: ∃base cap,u= .slice base 0 cap:=by
   cases hq:π (Ds false 0) with
   |none=>rw [hq] at hO;exact ⟨none,0,hO.1⟩
   |some q=>rw [hq] at hO;obtain ⟨ad,h1,_⟩:=hO;exact ⟨some ad,_,h1⟩
  obtain ⟨base,cap,rfl⟩:=hu
  refine (EC base cap k w).mono λe w' ⟨he,hw⟩=>?_
  subst hw
  exact fin _ (Gy.refl _ _ _) e (by rw [he];simp [Ln])
 ·cases hq:π (Ds false 0) with
  |none=>
   rw [hq] at hR
   exact absurd hR h0
  |some q=>
   rw [hq] at hO hR
   obtain ⟨ad,hu,ho,MV⟩:=hO
   obtain ⟨f1,cur,ti,f3,f4,f5,f6,Fs,t1,t2,t3,t4⟩:=hR
   have hlen:0<ts.length:=List.length_pos_iff.2 h0
   have MV:=MV (Di hlen f6)
   subst MV
   have hu:u= .slice (some ⟨q.g,q.o*3,none⟩) ts.length q.cap:=hu
   subst hu
   refine (KY q.g q.o q.cap ti cur Fs ts k w t1 t2 hp.1 hp.2 ⟨f3,λi t F _ ht hF=>t4 i t F ht hF⟩).mono λe w' ⟨he,hb⟩=>?_
   exact fin w' ⟨hb.os,hb.tape,hb.output,hb.size,λb iV hn=>hb.block b iV λhh=>hn (.inl ⟨_,q,hq,t3 b hh⟩)⟩ e he
theorem rK: ∀(ts:List TT) (room:Int),roomy room-> ¬cv ts room<0->((Ln ts:Nat):Int)<=room-cv ts room/\roomy (cv ts room)
 | [],room,hr,_=>⟨by simp [Ln,cv],hr⟩
 |t::ts,room,hr,h=>by
  simp only [cv] at h⊢
  split at h
  ·exact absurd (show (-1:Int)<0 by decide) h
  ·rename_i h1
   rw [Ag h1]
   obtain ⟨a,b⟩:=Ack hr h1
   obtain ⟨c,d⟩:=rK ts _ b h
   refine ⟨?_,d⟩
   simp only [Ln,Ag7]
   omega
theorem XM {ts:List TT} {room:Int} (hr:roomy room) (h: ¬cc ts room<0):((Ln ts:Nat):Int)<=room-cc ts room/\roomy (cc ts room):=by
 unfold cc at h⊢
 split at h
 ·exact absurd (show (-1:Int)<0 by decide) h
 ·rename_i h1
  rw [Ag h1]
  obtain ⟨h2,h3⟩:=hr
  obtain ⟨a,b⟩:=rK ts _ (show roomy (room-ts.length) from ⟨by omega,by omega⟩) h
  exact ⟨by omega,b⟩
theorem HL (ts:List TT):decide (ts=ts)=true:=Fu rfl
end Go.Proofs.YtfolipnappekaaaGreat
