/-
  Part 42 of the proof that the statement FnExactInSubgroup holds.
-/
import Derived.Test.YtjbdmibbbpdnnaaCInSubgroup40
namespace Go.Proofs.Ytjbdmibbbpdnnaa
open Go.RowKit
def ap (p:List Int) (i:Nat):Nat:=(Mi p (i:Int)).toNat
def Pm (n:Nat) (p:List Int):Prop:=p.length=n/\Sx p
theorem Pm.n1 {n:Nat} {p:List Int} (h:Pm n p):1<=n:=h.1▸h.2.pos
theorem Pm.n2 {n:Nat} {p:List Int} (h:Pm n p):n<=20:=h.1▸h.2.len
theorem Pm.Om {n:Nat} {p:List Int} (h:Pm n p) {i:Nat} (hi:i<n):Mi p (i:Int)=(ap p i:Int)/\ap p i<n:=by
 have ga:i<p.length:=by rw [h.1];exact hi
 have:=h.2.row _ (List.getElem_mem ga)
 unfold ap
 rw [Hk ga]
 have h1:=h.1
 omega
theorem Pm.lt {n:Nat} {p:List Int} (h:Pm n p) {i:Nat} (hi:i<n):ap p i<n:=(h.Om hi).2
theorem Pm.ext {n:Nat} {p q:List Int} (h:Pm n p) (k:Pm n q) (e: ∀i,i<n->ap p i=ap q i):p=q:=by
 refine List.ext_getElem (by rw [h.1,k.1]) λi h1 h2=>?_
 have hi:i<n:=by rw [<-h.1];exact h1
 have a:=(h.Om hi).1
 have b:=(k.Om hi).1
 rw [Hk h1] at a
 rw [Hk h2] at b
 rw [a,b,e i hi]
theorem Pm.inj {n:Nat} {p:List Int} (h:Pm n p) {i j:Nat} (hi:i<n) (hj:j<n) (e:ap p i=ap p j):i=j:=
 h.2.inj i j (by rw [h.1];exact hi) (by rw [h.1];exact hj) e
theorem Pm.CQ {n:Nat} {p:List Int} (h:Pm n p) {k:Nat} (hk:k<n): ∃i,i<n/\ap p i=k:=by
 obtain ⟨i,h1,h2⟩:=h.2.CQ k (by rw [h.1];exact hk)
 exact ⟨i,by rw [<-h.1];exact h1,h2⟩
theorem Pm.of {n:Nat} {p:List Int} (hl:p.length=n) (h1:1<=n) (h2:n<=20) (f:Nat->Nat) (hf: ∀i,i<n->p[i]?=some (f i:Int)/\f i<n) (hi: ∀i j,i<n->j<n->f i=f j->i=j):Pm n p:=by
 refine ⟨hl,by omega,by omega,λy hy=>?_,?_⟩
 ·obtain ⟨i,hi,rfl⟩:=List.mem_iff_getElem.1 hy
  obtain ⟨h3,h4⟩:=hf i (by omega)
  rw [List.getElem?_eq_getElem hi] at h3
  rw [Option.some.inj h3]
  omega
 ·refine List.pairwise_iff_getElem.2 λi j h3 h4 h5 h6=>?_
  have a:=(hf i (by omega)).1
  have b:=(hf j (by omega)).1
  rw [List.getElem?_eq_getElem h3] at a
  rw [List.getElem?_eq_getElem h4] at b
  rw [Option.some.inj a,Option.some.inj b] at h6
  have:=hi i j (by omega) (by omega) (by omega)
  omega
theorem rV {n:Nat} {p q:List Int} (hp:Pm n p) (hq:Pm n q) {i:Nat} (hi:i<n):(Ac p q)[i]?=some (ap q (ap p i):Int):=by
 have h1:i<p.length:=by rw [hp.1];exact hi
 unfold Ac
 rw [List.getElem?_map,List.getElem?_eq_getElem h1]
 have a:=(hp.Om hi).1
 rw [Hk h1] at a
 simp only [Option.map_some,a]
 rw [(hq.Om (hp.Om hi).2).1]
theorem Pm.comp {n:Nat} {p q:List Int} (hp:Pm n p) (hq:Pm n q):Pm n (Ac p q):=
 Pm.of (by rw [Uh,hp.1]) hp.n1 hp.n2 (λi=>ap q (ap p i)) (λi hi=>⟨rV hp hq hi,hq.lt (hp.lt hi)⟩) λi j hi hj e=>hp.inj hi hj (hq.inj (hp.lt hi) (hp.lt hj) e)
theorem AJ {p:List Int} {i k:Nat} (h:p[i]?=some (k:Int)):ap p i=k:=by
 unfold ap Mi
 rw [Int.toNat_natCast,List.getD_eq_getElem?_getD,h]
 simp
theorem Fg {n:Nat} {p q:List Int} (hp:Pm n p) (hq:Pm n q) {i:Nat} (hi:i<n):ap (Ac p q) i=ap q (ap p i):=AJ (rV hp hq hi)
theorem ub {n i:Nat} (hi:i<n):(upto n)[i]?=some (i:Int):=by simp [upto,hi]
theorem eC {n i:Nat} (hi:i<n):ap (upto n) i=i:=AJ (ub hi)
theorem Pm.id {n:Nat} (h1:1<=n) (h2:n<=20):Pm n (upto n):=Pm.of (by simp [upto]) h1 h2 (λi=>i) (λi hi=>⟨ub hi,hi⟩) λ_ _ _ _ e=>e
theorem xI {n:Nat} {p:List Int} (hp:Pm n p) {i:Nat} (hi:i<n):(Aj p)[ap p i]?=some (i:Int):=BX hp.2 (by rw [hp.1];exact hi)
theorem c5 {n:Nat} {p:List Int} (hp:Pm n p) {i:Nat} (hi:i<n):ap (Aj p) (ap p i)=i:=AJ (xI hp hi)
theorem p8 {n:Nat} {p:List Int} (hp:Pm n p) {k:Nat} (hk:k<n):ap p (ap (Aj p) k)=k:=by
 obtain ⟨i,hi,rfl⟩:=hp.CQ hk
 rw [c5 hp hi]
theorem Pm.inv {n:Nat} {p:List Int} (hp:Pm n p):Pm n (Aj p):=by
 refine Pm.of (by rw [jO,hp.1]) hp.n1 hp.n2 (λk=>ap (Aj p) k) (λk hk=>?_) λi j hi hj e=>?_
 ·obtain ⟨i,hi,rfl⟩:=hp.CQ hk
  rw [c5 hp hi]
  exact ⟨xI hp hi,hi⟩
 ·rw [<-p8 hp hi,<-p8 hp hj,e]
theorem Dn {n:Nat} {p q r:List Int} (hp:Pm n p) (hq:Pm n q) (hr:Pm n r):Ac (Ac p q) r=Ac p (Ac q r):=
 ((hp.comp hq).comp hr).ext (hp.comp (hq.comp hr)) λi hi=>by rw [Fg (hp.comp hq) hr hi,Fg hp hq hi,Fg hp (hq.comp hr) hi,Fg hq hr (hp.lt hi)]
theorem comp_id {n:Nat} {p:List Int} (hp:Pm n p):Ac p (upto n)=p:=
 (hp.comp (Pm.id hp.n1 hp.n2)).ext hp λi hi=>by rw [Fg hp (Pm.id hp.n1 hp.n2) hi,eC (hp.lt hi)]
theorem id_comp {n:Nat} {p:List Int} (hp:Pm n p):Ac (upto n) p=p:=
 ((Pm.id hp.n1 hp.n2).comp hp).ext hp λi hi=>by rw [Fg (Pm.id hp.n1 hp.n2) hp hi,eC hi]
theorem eJ {n:Nat} {p:List Int} (hp:Pm n p):Ac p (Aj p)=upto n:=
 (hp.comp hp.inv).ext (Pm.id hp.n1 hp.n2) λi hi=>by rw [Fg hp hp.inv hi,c5 hp hi,eC hi]
theorem Wl {n:Nat} {p:List Int} (hp:Pm n p):Ac (Aj p) p=upto n:=
 (hp.inv.comp hp).ext (Pm.id hp.n1 hp.n2) λi hi=>by rw [Fg hp.inv hp hi,p8 hp hi,eC hi]
theorem kT {n:Nat} {p q:List Int} (hp:Pm n p) (hq:Pm n q) (h:Ac p q=upto n):Aj p=q:=by
 rw [<-comp_id hp.inv,<-h,<-Dn hp.inv hp hq,Wl hp,id_comp hq]
theorem inv_mul {n:Nat} {p q:List Int} (hp:Pm n p) (hq:Pm n q):Aj (Ac p q)=Ac (Aj q) (Aj p):=
 kT (hp.comp hq) (hq.inv.comp hp.inv) (by
  rw [Dn hp hq (hq.inv.comp hp.inv),<-Dn hq hq.inv hp.inv,eJ hq,id_comp hp.inv,eJ hp])
theorem inv_inv {n:Nat} {p:List Int} (hp:Pm n p):Aj (Aj p)=p:=kT hp.inv hp (Wl hp)
theorem BY {n:Nat} (h1:1<=n) (h2:n<=20):Aj (upto n)=upto n:=kT (Pm.id h1 h2) (Pm.id h1 h2) (comp_id (Pm.id h1 h2))
inductive Vq (n:Nat) (S:List Int->Prop):List Int->Prop where
 |id:Vq n S (upto n)
 |mul {p g:List Int} :Vq n S p->S g->Vq n S (Ac p g)
 |inv {p g:List Int} :Vq n S p->S g->Vq n S (Ac p (Aj g))
def x9 (n:Nat) (S:List Int->Prop):Prop:=(1<=n/\n<=20)/\ ∀g,S g->Pm n g
theorem Vq.pm {n:Nat} {S:List Int->Prop} (hS:x9 n S) {p:List Int} (h:Vq n S p):Pm n p:=by
 induction h with
 |id=>exact Pm.id hS.1.1 hS.1.2
 |mul _ hg ih=>exact ih.comp (hS.2 _ hg)
 |inv _ hg ih=>exact ih.comp (hS.2 _ hg).inv
theorem Vq.comp {n:Nat} {S:List Int->Prop} (hS:x9 n S) {p q:List Int} (hp:Vq n S p) (hq:Vq n S q):Vq n S (Ac p q):=by
 induction hq with
 |id=>rw [comp_id (hp.pm hS)];exact hp
 |mul hq hg ih=>rw [<-Dn (hp.pm hS) (hq.pm hS) (hS.2 _ hg)];exact .mul ih hg
 |inv hq hg ih=>rw [<-Dn (hp.pm hS) (hq.pm hS) (hS.2 _ hg).inv];exact .inv ih hg
theorem Vq.one {n:Nat} {S:List Int->Prop} (hS:x9 n S) {g:List Int} (hg:S g):Vq n S g:=by
 have:=Vq.mul (n:=n) (S:=S) .id hg
 rwa [id_comp (hS.2 g hg)] at this
theorem Vq.MQ {n:Nat} {S:List Int->Prop} (hS:x9 n S) {g:List Int} (hg:S g):Vq n S (Aj g):=by
 have:=Vq.inv (n:=n) (S:=S) .id hg
 rwa [id_comp (hS.2 g hg).inv] at this
theorem Vq.pI {n:Nat} {S:List Int->Prop} (hS:x9 n S) {p:List Int} (hp:Vq n S p):Vq n S (Aj p):=by
 induction hp with
 |id=>rw [BY hS.1.1 hS.1.2];exact .id
 |mul hq hg ih=>rw [inv_mul (hq.pm hS) (hS.2 _ hg)];exact (Vq.MQ hS hg).comp hS ih
 |inv hq hg ih=>rw [inv_mul (hq.pm hS) (hS.2 _ hg).inv,inv_inv (hS.2 _ hg)];exact (Vq.one hS hg).comp hS ih
theorem Vq.trans {n:Nat} {S S':List Int->Prop} (PT:x9 n S') (h: ∀g,S g->Vq n S' g) {p:List Int} (hp:Vq n S p):Vq n S' p:=by
 induction hp with
 |id=>exact .id
 |mul _ hg ih=>exact ih.comp PT (h _ hg)
 |inv _ hg ih=>exact ih.comp PT ((h _ hg).pI PT)
abbrev PO:=Option (List Int)
abbrev Row:=List PO
abbrev Cp:=List Row
def Hd (row:Row):List Int:=(upto row.length).filter λy=>(row.getD y.toNat none).isSome
def Ib (T:Cp):Nat->Nat->List Int->Bool
 |0,_,_=>true
 |k+1,i,p=>match (T.getD i []).getD (Mi p (i:Int)).toNat none with
  |none=>false
  |some t=>Ib T k (i+1) (Ac p (Aj t))
def Kl (row:Row):Nat:=row.countP (·.isNone)
def Rt (x:Int) (s:Row×List Int) (o:PO):Row×List Int:=
 match s.1.getD (Mi (o.getD []) x).toNat none with
 |some _=>s
 |none=>(s.1.set (Mi (o.getD []) x).toNat (some (Ac ((s.1.getD x.toNat none).getD []) (o.getD []))),s.2++ [Mi (o.getD []) x])
def Ri (x:Int) (gs:List PO) (s:Row×List Int):Row×List Int:=gs.foldl (Rt x) s
def Rb (gs:List PO):Nat->List Int->Row->Row
 |0,_,row=>row
 |_+1,[],row=>row
 |f+1,x::q,row=>Rb gs f (Ri x gs (row,q)).2 (Ri x gs (row,q)).1
def Qc (gs:List PO) (row:Row):Row:=Rb gs 100 (Hd row) row
def Ly (row:Row) (y:Int) (g:PO):List Int:=
 Ac (Ac ((row.getD y.toNat none).getD []) (g.getD [])) (Aj ((row.getD (Mi (g.getD []) y).toNat none).getD []))
def Zw (row:Row) (gs:List PO):List (List Int):=(Hd row).flatMap λy=>gs.map λg=>Ly row y g
def De:Nat->Nat->List Int->Cp×Cp->Cp×Cp
 |0,_,_,s=>s
 |k+1,l,p,s=>
  if Ib s.2 (k+1) l p=true then s else
   (Zw (Qc (s.1.getD l []++ [some p]) (s.2.getD l [])) (s.1.getD l []++ [some p])).foldl (λs q=>De k (l+1) q s)
    (s.1.set l (s.1.getD l []++ [some p]),s.2.set l (Qc (s.1.getD l []++ [some p]) (s.2.getD l [])))
def Fx (l:Nat) (p:List Int):Prop:= ∀i,i<l->ap p i=i
def Gn (n:Nat) (gs:List PO):List Int->Prop:=Vq n λg=>some g∈gs
structure FC (n l:Nat) (gs:List PO) (row:Row) (H:List Int->Prop):Prop where
 pg: ∀o∈gs,∃g,o=some g/\Pm n g/\Fx l g
 rl:row.length=n
 r0:row.getD l none=some (upto n)
 rt: ∀y t,row.getD y none=some t->Pm n t/\Fx l t/\ap t l=y/\Gn n gs t
 cl: ∀y t g,row.getD y none=some t->some g∈gs->row.getD (ap g y) none≠none
 sg: ∀y t g t',row.getD y none=some t->some g∈gs->row.getD (ap g y) none=some t'->H (Ac (Ac t g) (Aj t'))
def dy (n:Nat):Nat->Nat->Cp×Cp->Prop
 |0,l,s=>s.1.getD l []= []
 |k+1,l,s=>dy n k (l+1) s/\FC n l (s.1.getD l []) (s.2.getD l []) (λq=>Ib s.2 k (l+1) q=true)/\ ∀g,some g∈s.1.getD (l+1) []->Gn n (s.1.getD l []) g
theorem HK {l1 l2:List Nat} (hn:l1.Nodup) (hs: ∀x∈l1,x∈l2) (hl:l2.length<=l1.length): ∀x∈l2,x∈l1:=by
 induction l1 generalizing l2 with
 |nil=>
  intro x hx
  have:l2= []:=List.eq_nil_of_length_eq_zero (by simpa using hl)
  rw [this] at hx;cases hx
 |cons a l ih=>
  intro x hx
  obtain ⟨h1,h2⟩:=List.nodup_cons.1 hn
  have ha:=hs a (by simp)
  by_cases e:x=a
  ·subst e;simp
  ·refine List.mem_cons_of_mem _ (ih (l2:=l2.erase a) h2 (λy hy=>?_) ?_ x ((List.mem_erase_of_ne e).2 hx))
   ·have ZK:y≠a:= λe'=>h1 (by rw [<-e'];exact hy)
    exact (List.mem_erase_of_ne ZK).2 (hs y (by simp [hy]))
   ·rw [List.length_erase_of_mem ha]
    simp only [List.length_cons] at hl
    omega
theorem vY {n:Nat} {g:List Int} (hg:Pm n g) (D:Nat->Bool) (h: ∀y,y<n->D y=true->D (ap g y)=true) {y:Nat} (hy:y<n) (hD:D y=true): ∃x,x<n/\D x=true/\ap g x=y:=by
 have:=HK (l1:=((List.range n).filter D).map (ap g)) (l2:=(List.range n).filter D) ?_ ?_ (by simp) y (List.mem_filter.2 ⟨List.mem_range.2 hy,hD⟩)
 ·obtain ⟨x,hx,e⟩:=List.mem_map.1 this
  obtain ⟨h1,h2⟩:=List.mem_filter.1 hx
  exact ⟨x,List.mem_range.1 h1,h2,e⟩
 ·refine List.pairwise_map.2 (List.Pairwise.imp_of_mem ?_ (List.nodup_range.filter D))
  intro a b ha hb Ev e
  exact Ev (hg.inj (List.mem_range.1 (List.mem_filter.1 ha).1) (List.mem_range.1 (List.mem_filter.1 hb).1) e)
 ·intro x hx
  obtain ⟨z,hz,rfl⟩:=List.mem_map.1 hx
  obtain ⟨h1,h2⟩:=List.mem_filter.1 hz
  exact List.mem_filter.2 ⟨List.mem_range.2 (hg.lt (List.mem_range.1 h1)),h z (List.mem_range.1 h1) h2⟩
theorem jJ {row:Row} {y:Nat} {t:List Int} (h:row.getD y none=some t):y<row.length:=by
 rw [List.getD_eq_getElem?_getD] at h
 refine Classical.byContradiction λhn=>?_
 rw [List.getElem?_eq_none (by omega)] at h
 cases h
theorem FC.pms {n l:Nat} {gs:List PO} {row:Row} {H:List Int->Prop} (h:FC n l gs row H):x9 n λg=>some g∈gs:=by
 refine ⟨?_,λg hg=>?_⟩
 ·have:=(h.rt l _ h.r0).1
  exact ⟨this.n1,this.n2⟩
 ·obtain ⟨g',e,h1,_⟩:=h.pg _ hg
  cases e;exact h1
theorem Fx.inv {n l:Nat} {p:List Int} (hp:Pm n p) (h:Fx l p) (hl:l<=n):Fx l (Aj p):= λi hi=>by
 have:=c5 hp (i:=i) (by omega)
 rwa [h i hi] at this
theorem Fx.comp {n l:Nat} {p q:List Int} (hp:Pm n p) (hq:Pm n q) (h1:Fx l p) (h2:Fx l q) (hl:l<=n):Fx l (Ac p q):= λi hi=>by
 rw [Fg hp hq (by omega),h1 i hi,h2 i hi]
theorem Fx.all {n:Nat} {p:List Int} (hp:Pm n p) (h:Fx n p):p=upto n:=hp.ext (Pm.id hp.n1 hp.n2) λi hi=>by rw [h i hi,eC hi]
theorem Fx.div {n l:Nat} {p t:List Int} (hp:Pm n p) (ht:Pm n t) (h1:Fx l p) (h2:Fx l t) (hl:l<n) (e:ap t l=ap p l):Fx (l+1) (Ac p (Aj t)):= λi hi=>by
 rw [Fg hp ht.inv (by omega)]
 by_cases hil:i<l
 ·rw [h1 i hil];exact h2.inv ht (by omega) i hil
 ·have:i=l:=by omega
  subst this
  rw [<-e,c5 ht hl]
theorem fa {n:Nat} (h1:1<=n) (h2:n<=20): ∀(k l:Nat) (s:Cp×Cp),l+k=n->dy n k l s-> ∀p,Pm n p->Fx l p->(Ib s.2 k l p=true↔Gn n (s.1.getD l []) p)
 |0,l,s,hk,hc,p,hp,hf=>by
  have hl:l=n:=by omega
  subst hl
  rw [hf.all hp]
  exact ⟨λ_=> .id,λ_=>rfl⟩
 |k+1,l,s,hk,hc,p,hp,hf=>by
  obtain ⟨c1,c2,c3⟩:=hc
  have hS:=c2.pms
  have ih:=fa h1 h2 k (l+1) s (by omega) c1
  have WK:x9 n λg=>some g∈s.1.getD (l+1) []:=⟨⟨h1,h2⟩,λg hg=>(c3 g hg).pm hS⟩
  have Zp:l<n:=by omega
  constructor
  ·intro h
   simp only [Ib] at h
   rw [show (Mi p (l:Int)).toNat=ap p l from rfl] at h
   split at h
   ·cases h
   ·rename_i t ht
    obtain ⟨t1,t2,t3,t4⟩:=c2.rt _ _ ht
    have IV:=Fx.div hp t1 hf t2 Zp t3
    have hg:=((ih _ (hp.comp t1.inv) IV).1 h).trans hS c3
    have:=Vq.comp hS hg t4
    rwa [Dn hp t1.inv t1,Wl t1,comp_id hp] at this
  ·intro h
   have key: ∀q,Gn n (s.1.getD l []) q-> ∃t,(s.2.getD l []).getD (ap q l) none=some t/\Gn n (s.1.getD (l+1) []) (Ac q (Aj t)):=by
    intro q hq
    induction hq with
    |id=>
     refine ⟨upto n,by rw [eC Zp];exact c2.r0,?_⟩
     rw [BY h1 h2,comp_id (Pm.id h1 h2)]
     exact .id
    | @mul q g hq hg ZM=>
     obtain ⟨t,e1,e2⟩:=ZM
     have JH:=Vq.pm hS hq
     have Oi:=hS.2 _ hg
     obtain ⟨t1,t2,t3,t4⟩:=c2.rt _ _ e1
     cases e3:(s.2.getD l []).getD (ap g (ap q l)) none with
     |none=>exact absurd e3 (c2.cl _ _ _ e1 hg)
     |some t'=>
      obtain ⟨u1,u2,u3,u4⟩:=c2.rt _ _ e3
      have ZA:=c2.sg _ _ _ _ e1 hg e3
      have XL:Fx (l+1) (Ac (Ac t g) (Aj t')):=Fx.div (t1.comp Oi) u1 (Fx.comp t1 Oi t2 (by obtain ⟨g',e,_,h⟩:=c2.pg _ hg;cases e;exact h) (by omega)) u2 Zp (by rw [u3,Fg t1 Oi Zp,t3])
      have LC:=(ih _ ((t1.comp Oi).comp u1.inv) XL).1 ZA
      refine ⟨t',by rw [Fg JH Oi Zp];exact e3,?_⟩
      have:=Vq.comp WK e2 LC
      rwa [show Ac (Ac q (Aj t)) (Ac (Ac t g) (Aj t'))=Ac (Ac q g) (Aj t') by
       rw [Dn JH t1.inv ((t1.comp Oi).comp u1.inv),Dn t1 Oi u1.inv,<-Dn t1.inv t1 (Oi.comp u1.inv),Wl t1,id_comp (Oi.comp u1.inv),Dn JH Oi u1.inv]] at this
    | @inv q g hq hg ZM=>
     obtain ⟨t,e1,e2⟩:=ZM
     have JH:=Vq.pm hS hq
     have Oi:=hS.2 _ hg
     obtain ⟨t1,t2,t3,t4⟩:=c2.rt _ _ e1
     have hy:ap q l<n:=JH.lt Zp
     obtain ⟨x,hx,hD,he⟩:=vY Oi (λy=>((s.2.getD l []).getD y none).isSome) (λy hy hd=>by
      obtain ⟨t0,RR⟩:=Option.isSome_iff_exists.1 hd
      exact Option.ne_none_iff_isSome.1 (c2.cl _ _ _ RR hg)) hy (by rw [e1];rfl)
     obtain ⟨t',e3⟩:=Option.isSome_iff_exists.1 hD
     obtain ⟨u1,u2,u3,u4⟩:=c2.rt _ _ e3
     have ZA:=c2.sg _ _ _ _ e3 hg (by rw [he];exact e1)
     have XL:Fx (l+1) (Ac (Ac t' g) (Aj t)):=Fx.div (u1.comp Oi) t1 (Fx.comp u1 Oi u2 (by obtain ⟨g',e,_,h⟩:=c2.pg _ hg;cases e;exact h) (by omega)) t2 Zp (by rw [t3,Fg u1 Oi Zp,u3,he])
     have LC:=Vq.pI WK ((ih _ ((u1.comp Oi).comp t1.inv) XL).1 ZA)
     have hax:ap (Aj g) (ap q l)=x:=by rw [<-he,c5 Oi hx]
     refine ⟨t',by rw [Fg JH Oi.inv Zp,hax];exact e3,?_⟩
     have:=Vq.comp WK e2 LC
     rwa [show Ac (Ac q (Aj t)) (Aj (Ac (Ac t' g) (Aj t)))=Ac (Ac q (Aj g)) (Aj t') by
      rw [inv_mul (u1.comp Oi) t1.inv,inv_inv t1,inv_mul u1 Oi,Dn JH t1.inv (t1.comp (Oi.inv.comp u1.inv)),<-Dn t1.inv t1 (Oi.inv.comp u1.inv),Wl t1,id_comp (Oi.inv.comp u1.inv),Dn JH Oi.inv u1.inv]] at this
   obtain ⟨t,e1,e2⟩:=key p h
   obtain ⟨t1,t2,t3,t4⟩:=c2.rt _ _ e1
   simp only [Ib]
   rw [show (Mi p (l:Int)).toNat=ap p l from rfl,e1]
   exact (ih _ (hp.comp t1.inv) (Fx.div hp t1 hf t2 Zp t3)).2 e2
end Go.Proofs.Ytjbdmibbbpdnnaa

namespace Go.Proofs.Ytjbdmibbbpdnnaa
open Go.RowKit
theorem Oz {α:Type} (xs:List α) (i j:Nat) (x d:α):(xs.set i x).getD j d=if i=j/\i<xs.length then x else xs.getD j d:=by
 rw [List.getD_eq_getElem?_getD,List.getElem?_set,List.getD_eq_getElem?_getD]
 by_cases e:i=j
 ·subst e
  by_cases h:i<xs.length
  ·rw [if_pos rfl,if_pos h,if_pos ⟨rfl,h⟩];rfl
  ·rw [if_pos rfl,if_neg h,if_neg (λhh=>h hh.2),List.getElem?_eq_none (by omega)]
 ·rw [if_neg e,if_neg (λhh=>e hh.1)]
theorem Vq.mono {n:Nat} {S S':List Int->Prop} (h: ∀g,S g->S' g) {p:List Int} (hp:Vq n S p):Vq n S' p:=by
 induction hp with
 |id=>exact .id
 |mul _ hg ih=>exact .mul ih (h _ hg)
 |inv _ hg ih=>exact .inv ih (h _ hg)
structure Qh (n l:Nat) (gs:List PO) (row:Row):Prop where
 rl:row.length=n
 r0:row.getD l none=some (upto n)
 rt: ∀y t,row.getD y none=some t->Pm n t/\Fx l t/\ap t l=y/\Gn n gs t
def PG (n l:Nat) (gs:List PO):Prop:= ∀o∈gs,∃g,o=some g/\Pm n g/\Fx l g
structure Ext (n l:Nat) (gs:List PO) (row:Row) (q:List Int) (s':Row×List Int):Prop where
 ok:Qh n l gs s'.1
 mono: ∀y t,row.getD y none=some t->s'.1.getD y none=some t
 OU:s'.2.length+Kl s'.1=q.length+Kl row
 mo: ∀y∈q,y∈s'.2
 new: ∀y∈s'.2,y∈q\/ ∃yn:Nat,y=yn/\s'.1.getD yn none≠none
 src: ∀y:Nat,s'.1.getD y none≠none->row.getD y none≠none\/(y:Int)∈s'.2
theorem Ext.refl {n l:Nat} {gs:List PO} {row:Row} {q:List Int} (h:Qh n l gs row):Ext n l gs row q (row,q):=⟨h,λ_ _ h=>h,rfl,λ_ h=>h,λ_ h=> .inl h,λ_ h=> .inl h⟩
theorem Yh {a b:Row} (h: ∀y t,a.getD y none=some t->b.getD y none=some t) {y:Nat} (hy:a.getD y none≠none):b.getD y none≠none:=by
 cases e:a.getD y none with
 |none=>exact absurd e hy
 |some t=>rw [h y t e];simp
theorem Ext.trans {n l:Nat} {gs:List PO} {row:Row} {q:List Int} {s1 s2:Row×List Int} (h:Ext n l gs row q s1) (k:Ext n l gs s1.1 s1.2 s2):Ext n l gs row q s2:=by
 refine ⟨k.ok,λy t e=>k.mono y t (h.mono y t e),k.OU.trans h.OU,λy hy=>k.mo y (h.mo y hy),λy hy=>?_,λy hy=>?_⟩
 ·rcases k.new y hy with h1|h1
  ·rcases h.new y h1 with h2|⟨yn,h2,h3⟩
   ·exact .inl h2
   ·exact .inr ⟨yn,h2,Yh k.mono h3⟩
  ·exact .inr h1
 ·rcases k.src y hy with h1|h1
  ·exact (h.src y h1).imp id λh2=>k.mo _ h2
  ·exact .inr h1
theorem yP {row:Row} {i:Nat} {t:List Int} (h:row.getD i none=none) (hi:i<row.length):Kl (row.set i (some t))+1=Kl row:=by
 unfold Kl
 have e:row[i]=none:=by
  rw [List.getD_eq_getElem?_getD,List.getElem?_eq_getElem hi] at h
  exact h
 have h1:=List.countP_set (p:= λo:PO=>o.isNone) (l:=row) (i:=i) (a:=some t) hi
 have vz:0<row.countP (·.isNone):=List.countP_pos_iff.2 ⟨row[i],List.getElem_mem hi,by rw [e];rfl⟩
 rw [h1,e]
 simp
 omega
theorem HJ {n l:Nat} {gs:List PO} (Zp:l<n) (hg:PG n l gs) {row:Row} {q:List Int} (h:Qh n l gs row) {x:Nat} {t:List Int} (hx:row.getD x none=some t) {g:List Int} (ho:some g∈gs):
  Ext n l gs row q (Rt (x:Int) (row,q) (some g))/\(Rt (x:Int) (row,q) (some g)).1.getD (ap g x) none≠none:=by
 obtain ⟨g',e,Oi,KZ⟩:=hg _ ho
 cases e
 obtain ⟨t1,t2,t3,t4⟩:=h.rt _ _ hx
 have RY:x<n:=by rw [<-h.rl];exact jJ hx
 obtain ⟨a1,a2⟩:=Oi.Om RY
 unfold Rt
 simp only [Option.getD_some,a1,Int.toNat_natCast]
 cases e:row.getD (ap g x) none with
 |some u=>exact ⟨Ext.refl h,by simp only;rw [e];simp⟩
 |none=>
  simp only [hx,Option.getD_some]
  have hl:ap g x<row.length:=by rw [h.rl];exact a2
  have hS:x9 n λg=>some g∈gs:=⟨⟨t1.n1,t1.n2⟩,λg Xg=>by obtain ⟨g',e,h1,_⟩:=hg _ Xg;cases e;exact h1⟩
  have Ad: ∀y,(row.set (ap g x) (some (Ac t g))).getD y none=if ap g x=y/\ap g x<row.length then some (Ac t g) else row.getD y none:= λy=>Oz _ _ _ _ _
  have Ev: ∀y u,row.getD y none=some u->ap g x≠y:= λy u hu e'=>by rw [<-e',e] at hu;cases hu
  refine ⟨⟨⟨by simp [h.rl],?_,λy u hu=>?_⟩,λy u hu=>?_,?_,λy hy=>List.mem_append_left _ hy,λy hy=>?_,λy hy=>?_⟩,?_⟩
  ·rw [Ad,if_neg (λhh=>Ev l _ h.r0 hh.1)];exact h.r0
  ·rw [Ad] at hu
   split at hu
   ·rename_i hc
    cases hu
    exact ⟨t1.comp Oi,Fx.comp t1 Oi t2 KZ (by omega),by rw [Fg t1 Oi Zp,t3];exact hc.1, .mul t4 ho⟩
   ·exact h.rt y u hu
  ·show (row.set (ap g x) (some (Ac t g))).getD y none=some u
   rw [Ad,if_neg (λhh=>Ev y u hu hh.1)];exact hu
  ·have:=yP (t:=Ac t g) e hl
   simp only [List.length_append,List.length_cons,List.length_nil]
   omega
  ·rcases List.mem_append.1 hy with hy|hy
   ·exact .inl hy
   ·simp only [List.mem_singleton] at hy
    exact .inr ⟨ap g x,hy,by show (row.set (ap g x) (some (Ac t g))).getD (ap g x) none≠none;rw [Ad,if_pos ⟨rfl,hl⟩];simp⟩
  ·have hy:(row.set (ap g x) (some (Ac t g))).getD y none≠none:=hy
   rw [Ad] at hy
   split at hy
   ·rename_i hc
    exact .inr (by show (y:Int)∈q++ [(ap g x:Int)];rw [<-hc.1];simp)
   ·exact .inl hy
  ·show (row.set (ap g x) (some (Ac t g))).getD (ap g x) none≠none
   rw [Ad,if_pos ⟨rfl,hl⟩];simp
theorem DC {n l:Nat} {gs:List PO} (Zp:l<n) (hg:PG n l gs): ∀(IG:List PO) {row:Row} {q:List Int},(∀o∈IG,o∈gs)->Qh n l gs row-> ∀ {x:Nat} {t:List Int},row.getD x none=some t->
  Ext n l gs row q (Ri (x:Int) IG (row,q))/\ ∀g,some g∈IG->(Ri (x:Int) IG (row,q)).1.getD (ap g x) none≠none
 | [],row,q,_,h,x,t,hx=>⟨Ext.refl h,λg hg=>by cases hg⟩
 |o::IG,row,q,hs,h,x,t,hx=>by
  obtain ⟨g,rfl,_,_⟩:=hg o (hs o (by simp))
  obtain ⟨e1,e2⟩:=HJ (q:=q) Zp hg h hx (hs (some g) (by simp))
  obtain ⟨f1,f2⟩:=DC Zp hg IG (q:=(Rt (x:Int) (row,q) (some g)).2) (λo ho=>hs o (by simp [ho])) e1.ok (e1.mono x t hx)
  have hb:Ri (x:Int) (some g::IG) (row,q)=Ri (x:Int) IG ((Rt (x:Int) (row,q) (some g)).1,(Rt (x:Int) (row,q) (some g)).2):=rfl
  rw [hb]
  refine ⟨e1.trans f1,λg' Xg=>?_⟩
  rcases List.mem_cons.1 Xg with e|Xg
  ·cases e;exact Yh f1.mono e2
  ·exact f2 g' Xg
def xZ (gs:List PO) (q:List Int) (row:Row):Prop:=
 (∀y∈q,∃yn:Nat,y=yn/\row.getD yn none≠none)/\ ∀y:Nat,row.getD y none≠none->(y:Int)∈q\/ ∀g,some g∈gs->row.getD (ap g y) none≠none
theorem wg {n l:Nat} {gs:List PO} (Zp:l<n) (hg:PG n l gs) {x:Int} {q:List Int} {row:Row} (h:Qh n l gs row) (hq:xZ gs (x::q) row):
  Ext n l gs row q (Ri x gs (row,q))/\xZ gs (Ri x gs (row,q)).2 (Ri x gs (row,q)).1/\ ∃(xn:Nat) (t:List Int),x=xn/\row.getD xn none=some t:=by
 obtain ⟨xn,rfl,hx⟩:=hq.1 x (by simp)
 cases e:row.getD xn none with
 |none=>exact absurd e hx
 |some t=>
  obtain ⟨e1,e2⟩:=DC Zp hg gs (q:=q) (λo ho=>ho) h e
  refine ⟨e1,⟨λy hy=>?_,λy hy=>?_⟩,xn,t,rfl,e⟩
  ·rcases e1.new y hy with h1|h1
   ·obtain ⟨yn,h2,h3⟩:=hq.1 y (by simp [h1])
    exact ⟨yn,h2,Yh e1.mono h3⟩
   ·exact h1
  ·rcases e1.src y hy with h1|h1
   ·rcases hq.2 y h1 with h2|h2
    ·rcases List.mem_cons.1 h2 with h2|h2
     ·have:y=xn:=by omega
      subst this
      exact .inr λg Xg=>e2 g Xg
     ·exact .inl (e1.mo _ h2)
    ·exact .inr λg Xg=>Yh e1.mono (h2 g Xg)
   ·exact .inl h1
theorem DH {n l:Nat} {gs:List PO} (Zp:l<n) (hg:PG n l gs): ∀(f:Nat) (q:List Int) (row:Row),q.length+Kl row<=f->Qh n l gs row->xZ gs q row->
  Qh n l gs (Rb gs f q row)/\(∀y t,row.getD y none=some t->(Rb gs f q row).getD y none=some t)/\ ∀y t g,(Rb gs f q row).getD y none=some t->some g∈gs->(Rb gs f q row).getD (ap g y) none≠none
 |0,q,row,hf,h,hq=>by
  have:q= []:=List.eq_nil_of_length_eq_zero (by omega)
  subst this
  exact ⟨h,λ_ _ h=>h,λy t g e Xg=>by
   rcases hq.2 y (by rw [show row.getD y none=some t from e];simp) with h1|h1
   ·cases h1
   ·exact h1 g Xg⟩
 |f+1,[],row,hf,h,hq=>⟨h,λ_ _ h=>h,λy t g e Xg=>by
   rcases hq.2 y (by rw [show row.getD y none=some t from e];simp) with h1|h1
   ·cases h1
   ·exact h1 g Xg⟩
 |f+1,x::q,row,hf,h,hq=>by
  obtain ⟨e1,e2,_⟩:=wg Zp hg h hq
  obtain ⟨r1,r2,r3⟩:=DH Zp hg f _ _ (by have:=e1.OU;simp only [List.length_cons] at hf;omega) e1.ok e2
  exact ⟨r1,λy t e=>r2 y t (e1.mono y t e),r3⟩
theorem Mb {row:Row} {y:Int} :y∈Hd row↔ ∃yn:Nat,y=yn/\row.getD yn none≠none:=by
 unfold Hd
 rw [List.mem_filter,Jk]
 constructor
 ·rintro ⟨h1,h2⟩
  exact ⟨y.toNat,by omega,Option.ne_none_iff_isSome.2 h2⟩
 ·rintro ⟨yn,rfl,h⟩
  obtain ⟨t,ht⟩:=Option.ne_none_iff_exists'.1 h
  exact ⟨by have:=jJ ht;omega,by simpa using Option.ne_none_iff_isSome.1 h⟩
theorem q6 (row:Row):(Hd row).length<=row.length:=by
 unfold Hd
 refine Nat.le_trans (List.length_filter_le _ _) (by simp [upto])
theorem tg (row:Row):Kl row<=row.length:=List.countP_le_length
theorem tn {n l:Nat} {gs:List PO} (Zp:l<n) (h2:n<=20) (hg:PG n l gs) {row:Row} (h:Qh n l gs row):
  Qh n l gs (Qc gs row)/\(∀y t,row.getD y none=some t->(Qc gs row).getD y none=some t)/\ ∀y t g,(Qc gs row).getD y none=some t->some g∈gs->(Qc gs row).getD (ap g y) none≠none:=
 DH Zp hg 100 _ _ (by have:=q6 row;have:=tg row;have:=h.rl;omega) h ⟨λy hy=>Mb.1 hy,λy hy=> .inl (Mb.2 ⟨y,rfl,hy⟩)⟩
theorem rO {n l:Nat} {gs:List PO} (Zp:l<n) (hg:PG n l gs): ∀(f:Nat) (q:List Int) (row:Row),q.length+Kl row<=f->Qh n l gs row->xZ gs q row->Rb gs f q row=Rb gs (q.length+Kl row) q row
 |0,q,row,hf,_,_=>by
  have:q.length+Kl row=0:=by omega
  rw [this]
 |f+1,[],row,hf,_,_=>by
  cases h:([]:List Int).length+Kl row with
  |zero=>rfl
  |succ m=>rfl
 |f+1,x::q,row,hf,h,hq=>by
  obtain ⟨e1,e2,_⟩:=wg Zp hg h hq
  have GH:=e1.OU
  have:(x::q).length+Kl row=(q.length+Kl row)+1:=by simp only [List.length_cons];omega
  rw [this]
  simp only [Rb]
  rw [rO Zp hg f _ _ (by simp only [List.length_cons] at hf;omega) e1.ok e2,GH]
def rU (row:Row):Nat:=row.countP (·.isSome)
theorem nO: ∀(a b:Row),a.length=b.length->(∀y t,a.getD y none=some t->b.getD y none=some t)->rU a<=rU b/\(rU a=rU b->a=b)
 | [],[],_,_=>⟨Nat.le_refl _,λ_=>rfl⟩
 | [],_::_,h,_=>by simp at h
 |_::_,[],h,_=>by simp at h
 |x::a,y::b,h,hm=>by
  obtain ⟨h1,h2⟩:=nO a b (by simpa using h) λi t e=>by simpa using hm (i+1) t (by simpa using e)
  unfold rU at h1 h2⊢
  cases x with
  |none=>
   cases y with
   |none=>simp only [List.countP_cons];exact ⟨by simpa using h1,λe=>by rw [h2 (by simpa using e)]⟩
   |some u=>
    simp only [List.countP_cons,Option.isSome_none,Option.isSome_some]
    simp only [if_true,Bool.false_eq_true,if_false]
    exact ⟨by omega,λe=>by omega⟩
  |some t=>
   have:=hm 0 t (by simp)
   simp only [List.getD_cons_zero] at this
   subst this
   simp only [List.countP_cons]
   exact ⟨by simpa using h1,λe=>by rw [h2 (by simpa using e)]⟩
def ed (T:Cp):Nat->Nat->Nat
 |0,_=>0
 |k+1,l=>rU (T.getD l [])+ed T k (l+1)
def PB:Nat->Nat->Cp×Cp->Prop
 |0,_,_=>True
 |k+1,l,s=>PB k (l+1) s/\(s.1.getD l []).length<=ed s.2 (k+1) l
structure Vc (l0:Nat) (s s':Cp×Cp):Prop where
 SM:s'.1.length=s.1.length
 kY:s'.2.length=s.2.length
 low: ∀i,i<l0->s'.1.getD i []=s.1.getD i []/\s'.2.getD i []=s.2.getD i []
 xp: ∀i o,o∈s.1.getD i []->o∈s'.1.getD i []
 ED: ∀i y t,(s.2.getD i []).getD y none=some t->(s'.2.getD i []).getD y none=some t
 ND: ∀i,(s'.2.getD i []).length=(s.2.getD i []).length
theorem Vc.refl (l0:Nat) (s:Cp×Cp):Vc l0 s s:=⟨rfl,rfl,λ_ _=>⟨rfl,rfl⟩,λ_ _ h=>h,λ_ _ _ h=>h,λ_=>rfl⟩
theorem Vc.trans {l0 l1:Nat} {a b c:Cp×Cp} (h:Vc l0 a b) (k:Vc l1 b c) (hl:l0<=l1):Vc l0 a c:=
 ⟨k.SM.trans h.SM,k.kY.trans h.kY,λi hi=>⟨(k.low i (by omega)).1.trans (h.low i hi).1,(k.low i (by omega)).2.trans (h.low i hi).2⟩,λi o ho=>k.xp i o (h.xp i o ho),λi y t e=>k.ED i y t (h.ED i y t e),λi=>(k.ND i).trans (h.ND i)⟩
theorem Vc.Ek {l0 l1:Nat} {a b:Cp×Cp} (h:Vc l1 a b) (hl:l0<=l1):Vc l0 a b:=(Vc.refl l0 a).trans h hl
theorem aT {T T':Cp} : ∀(k l:Nat) (p:List Int),(∀i,l<=i->i<l+k->T'.getD i []=T.getD i [])->Ib T' k l p=Ib T k l p
 |0,_,_,_=>rfl
 |k+1,l,p,h=>by
  simp only [Ib]
  rw [h l (Nat.le_refl _) (by omega)]
  split
  ·rfl
  ·exact aT k (l+1) _ λi h1 h2=>h i (by omega) (by omega)
theorem dH {n:Nat} {s s':Cp×Cp} : ∀(k l:Nat),(∀i,l<=i->s'.1.getD i []=s.1.getD i []/\s'.2.getD i []=s.2.getD i [])->dy n k l s->dy n k l s'
 |0,l,h,hc=>by simp only [dy] at hc⊢;rw [(h l (Nat.le_refl _)).1];exact hc
 |k+1,l,h,hc=>by
  simp only [dy] at hc⊢
  obtain ⟨c1,c2,c3⟩:=hc
  refine ⟨dH k (l+1) (λi hi=>h i (by omega)) c1,?_,?_⟩
  ·rw [(h l (Nat.le_refl _)).1,(h l (Nat.le_refl _)).2]
   have e:(λq=>Ib s'.2 k (l+1) q=true)= λq=>Ib s.2 k (l+1) q=true:=funext λq=>by rw [aT k (l+1) q λi h1 h2=>(h i (by omega)).2]
   rw [e];exact c2
  ·rw [(h (l+1) (by omega)).1,(h l (Nat.le_refl _)).1];exact c3
theorem oA {T T':Cp} : ∀(k l:Nat),(∀i,l<=i->T'.getD i []=T.getD i [])->ed T' k l=ed T k l
 |0,_,_=>rfl
 |k+1,l,h=>by simp only [ed];rw [h l (Nat.le_refl _),oA k (l+1) λi hi=>h i (by omega)]
theorem kF {s s':Cp×Cp} : ∀(k l:Nat),(∀i,l<=i->s'.1.getD i []=s.1.getD i []/\s'.2.getD i []=s.2.getD i [])->PB k l s->PB k l s'
 |0,_,_,_=>trivial
 |k+1,l,h,hg=>⟨kF k (l+1) (λi hi=>h i (by omega)) hg.1,by
  rw [(h l (Nat.le_refl _)).1,oA (k+1) l λi hi=>(h i hi).2];exact hg.2⟩
theorem tD {T T':Cp} (hl: ∀i,(T'.getD i []).length=(T.getD i []).length) (hm: ∀i y t,(T.getD i []).getD y none=some t->(T'.getD i []).getD y none=some t):
  ∀(k l:Nat),ed T k l<=ed T' k l/\(ed T k l=ed T' k l-> ∀i,l<=i->i<l+k->T'.getD i []=T.getD i [])
 |0,l=>⟨Nat.le_refl _,λ_ i h1 h2=>by omega⟩
 |k+1,l=>by
  obtain ⟨h1,h2⟩:=tD hl hm k (l+1)
  obtain ⟨h3,h4⟩:=nO (T.getD l []) (T'.getD l []) (hl l).symm (hm l)
  simp only [ed]
  refine ⟨by omega,λe i g1 g2=>?_⟩
  by_cases hi:i=l
  ·subst hi;exact (h4 (by omega)).symm
  ·exact h2 (by omega) i (by omega) (by omega)
def V (n k l:Nat) (s:Cp×Cp):Prop:=s.1.length=n/\s.2.length=n/\dy n k l s/\PB k l s
structure OZ (n k l:Nat) (s:Cp×Cp) (p:List Int) (s':Cp×Cp):Prop where
 v:V n k l s'
 grow:Vc l s s'
 SI:Gn n (s'.1.getD l []) p
 gens: ∀o∈s'.1.getD l [],o∈s.1.getD l []\/o=some p
theorem FC.row {n l:Nat} {gs:List PO} {row:Row} {H:List Int->Prop} (h:FC n l gs row H):Qh n l gs row:=⟨h.rl,h.r0,h.rt⟩
theorem bF {row:Row} {y:Nat} {t g t':List Int} (h1:row.getD y none=some t) (h2:row.getD (ap g y) none=some t'):Ly row (y:Int) (some g)=Ac (Ac t g) (Aj t'):=by
 unfold Ly
 rw [Int.toNat_natCast,h1,Option.getD_some,Option.getD_some,show (Mi g (y:Int)).toNat=ap g y from rfl,h2,Option.getD_some]
theorem gK {n l:Nat} {gs:List PO} {row:Row} (hg:PG n l gs) (_h:Qh n l gs row) (hc: ∀y t g,row.getD y none=some t->some g∈gs->row.getD (ap g y) none≠none) {q:List Int} :
  q∈Zw row gs↔ ∃(y:Nat) (t g t':List Int),row.getD y none=some t/\some g∈gs/\row.getD (ap g y) none=some t'/\q=Ac (Ac t g) (Aj t'):=by
 unfold Zw
 rw [List.mem_flatMap]
 constructor
 ·rintro ⟨y,hy,hq⟩
  obtain ⟨o,ho,rfl⟩:=List.mem_map.1 hq
  obtain ⟨yn,rfl,JM⟩:=Mb.1 hy
  obtain ⟨t,ht⟩:=Option.ne_none_iff_exists'.1 JM
  obtain ⟨g,rfl,Oi,_⟩:=hg o ho
  obtain ⟨t',yA⟩:=Option.ne_none_iff_exists'.1 (hc yn t g ht ho)
  exact ⟨yn,t,g,t',ht,ho,yA,bF ht yA⟩
 ·rintro ⟨y,t,g,t',h1,h2,h3,rfl⟩
  obtain ⟨g',e,Oi,_⟩:=hg _ h2
  cases e
  exact ⟨(y:Int),Mb.2 ⟨y,rfl,by rw [h1];simp⟩,List.mem_map.2 ⟨some g,h2,bF h1 h3⟩⟩
theorem p6 {n:Nat} (h1:1<=n) (h2:n<=20): ∀(k l:Nat) (p:List Int) (s:Cp×Cp),l+k=n->V n k l s->Pm n p->Fx l p->OZ n k l s p (De k l p s)
 |0,l,p,s,hk,hv,hp,hf=>by
  have hl:l=n:=by omega
  subst hl
  exact ⟨hv,Vc.refl _ _,by rw [hf.all hp];exact .id,λo ho=> .inl ho⟩
 |k+1,l,p,s,hk,hv,hp,hf=>by
  have Zp:l<n:=by omega
  obtain ⟨v1,v2,hc,zQ⟩:=hv
  have dP:=hc
  obtain ⟨c1,c2,c3⟩:=hc
  unfold De
  by_cases hh:Ib s.2 (k+1) l p=true
  ·rw [if_pos hh]
   exact ⟨⟨v1,v2,dP,zQ⟩,Vc.refl _ _,(fa h1 h2 (k+1) l s hk dP p hp hf).1 hh,λo ho=> .inl ho⟩
  rw [if_neg hh]
  generalize xw:s.1.getD l []++ [some p]=gs
  have Wk:some p∈gs:=by rw [<-xw];simp
  have Mj: ∀o∈s.1.getD l [],o∈gs:= λo ho=>by rw [<-xw];exact List.mem_append_left _ ho
  have hg:PG n l gs:= λo ho=>by
   rw [<-xw] at ho
   rcases List.mem_append.1 ho with ho|ho
   ·exact c2.pg o ho
   ·rw [List.mem_singleton] at ho;exact ⟨p,ho,hp,hf⟩
  have RK:Qh n l gs (s.2.getD l []):=⟨c2.rl,c2.r0,λy t e=>⟨(c2.rt y t e).1,(c2.rt y t e).2.1,(c2.rt y t e).2.2.1,(c2.rt y t e).2.2.2.mono λg hg=>Mj _ hg⟩⟩
  obtain ⟨r1,r2,r3⟩:=tn Zp h2 hg RK
  generalize hR:Qc gs (s.2.getD l [])=R at r1 r2 r3
  have hS:x9 n λg=>some g∈gs:=⟨⟨h1,h2⟩,λg Xg=>by obtain ⟨g',e,h,_⟩:=hg _ Xg;cases e;exact h⟩
  have HF: ∀i,((s.1.set l gs).getD i []=if i=l then gs else s.1.getD i [])/\(s.2.set l R).getD i []=if i=l then R else s.2.getD i []:= λi=>by
   rw [Oz,Oz]
   by_cases e:l=i
   ·subst e;rw [if_pos ⟨rfl,by omega⟩,if_pos rfl,if_pos ⟨rfl,by omega⟩,if_pos rfl];exact ⟨rfl,rfl⟩
   ·rw [if_neg (λhh=>e hh.1),if_neg (Ne.symm e),if_neg (λhh=>e hh.1),if_neg (Ne.symm e)];exact ⟨rfl,rfl⟩
  have JL: ∀i,l+1<=i->(s.1.set l gs).getD i []=s.1.getD i []/\(s.2.set l R).getD i []=s.2.getD i []:= λi hi=>by
   rw [(HF i).1,(HF i).2,if_neg (by omega),if_neg (by omega)];exact ⟨rfl,rfl⟩
  have jN:V n k (l+1) (s.1.set l gs,s.2.set l R):=⟨by simpa using v1,by simpa using v2,dH k (l+1) JL c1,kF k (l+1) JL zQ.1⟩
  have LD:Vc l s (s.1.set l gs,s.2.set l R):=by
   refine ⟨by simp,by simp,λi hi=>?_,λi o ho=>?_,λi y t e=>?_,λi=>?_⟩
   ·rw [(HF i).1,(HF i).2,if_neg (by omega),if_neg (by omega)];exact ⟨rfl,rfl⟩
   ·rw [(HF i).1]
    split
    ·rename_i hi;subst hi;exact Mj o ho
    ·exact ho
   ·rw [(HF i).2]
    split
    ·rename_i hi;subst hi;exact r2 y t e
    ·exact e
   ·rw [(HF i).2]
    split
    ·rename_i hi;subst hi;rw [r1.rl,c2.rl]
    ·rfl
  have hq: ∀q∈Zw R gs,Pm n q/\Fx (l+1) q/\Gn n gs q:= λq hq=>by
   obtain ⟨y,t,g,t',e1,e2,e3,rfl⟩:=(gK hg r1 r3).1 hq
   obtain ⟨t1,t2,t3,t4⟩:=r1.rt _ _ e1
   obtain ⟨u1,u2,u3,u4⟩:=r1.rt _ _ e3
   obtain ⟨g',e,Oi,KZ⟩:=hg _ e2
   cases e
   exact ⟨(t1.comp Oi).comp u1.inv,Fx.div (t1.comp Oi) u1 (Fx.comp t1 Oi t2 KZ (by omega)) u2 Zp (by rw [u3,Fg t1 Oi Zp,t3]),Vq.comp hS (.mul t4 e2) (Vq.pI hS u4)⟩
  have fold: ∀(qs:List (List Int)) (s1:Cp×Cp),(∀q∈qs,Pm n q/\Fx (l+1) q)->V n k (l+1) s1->
    V n k (l+1) (qs.foldl (λs q=>De k (l+1) q s) s1)/\Vc (l+1) s1 (qs.foldl (λs q=>De k (l+1) q s) s1)/\
     (∀q∈qs,Gn n ((qs.foldl (λs q=>De k (l+1) q s) s1).1.getD (l+1) []) q)/\ ∀o∈(qs.foldl (λs q=>De k (l+1) q s) s1).1.getD (l+1) [],o∈s1.1.getD (l+1) []\/ ∃q∈qs,o=some q:=by
   intro qs
   induction qs with
   |nil=>exact λs1 _ hv=>⟨hv,Vc.refl _ _,(λq hq=>by cases hq),λo ho=>Or.inl ho⟩
   |cons q qs ih=>
    intro s1 GJ hv
    have ha:=p6 h1 h2 k (l+1) q s1 (by omega) hv (GJ q (by simp)).1 (GJ q (by simp)).2
    obtain ⟨g1,g2,g3,g4⟩:=ih (De k (l+1) q s1) (λq' cR=>GJ q' (by simp [cR])) ha.v
    simp only [List.foldl_cons]
    refine ⟨g1,ha.grow.trans g2 (Nat.le_refl _),λq' cR=>?_,λo ho=>?_⟩
    ·rcases List.mem_cons.1 cR with rfl|cR
     ·exact ha.SI.mono λg hg=>g2.xp _ _ hg
     ·exact g3 q' cR
    ·rcases g4 o ho with h|⟨q',cR,h⟩
     ·rcases ha.gens o h with h|h
      ·exact .inl h
      ·exact .inr ⟨q,by simp,h⟩
     ·exact .inr ⟨q',by simp [cR],h⟩
  obtain ⟨f1,f2,f3,f4⟩:=fold (Zw R gs) (s.1.set l gs,s.2.set l R) (λq h=>⟨(hq q h).1,(hq q h).2.1⟩) jN
  generalize (Zw R gs).foldl (λs q=>De k (l+1) q s) (s.1.set l gs,s.2.set l R)=s' at f1 f2 f3 f4
  obtain ⟨w1,w2,w3,w4⟩:=f1
  have PE:s'.1.getD l []=gs:=by rw [(f2.low l (by omega)).1,(HF l).1,if_pos rfl]
  have el2:s'.2.getD l []=R:=by rw [(f2.low l (by omega)).2,(HF l).2,if_pos rfl]
  have BD:=LD.trans f2 (by omega)
  have YG:FC n l gs R (λq=>Ib s'.2 k (l+1) q=true):=⟨hg,r1.rl,r1.r0,r1.rt,r3,λy t g t' e1 e2 e3=>by
   have hm:=(gK hg r1 r3).2 ⟨y,t,g,t',e1,e2,e3,rfl⟩
   exact (fa h1 h2 k (l+1) s' (by omega) w3 _ (hq _ hm).1 (hq _ hm).2.1).2 (f3 _ hm)⟩
  have IS:dy n (k+1) l s':=⟨w3,by rw [PE,el2];exact YG,λg Xg=>by
   rw [PE]
   rcases f4 _ Xg with h|⟨q,cR,h⟩
   ·rw [(JL (l+1) (Nat.le_refl _)).1] at h
    exact (c3 g h).mono λg hg=>Mj _ hg
   ·cases h;exact (hq _ cR).2.2⟩
  have Ud:Gn n (s'.1.getD l []) p:=by rw [PE];exact Vq.one hS Wk
  refine ⟨⟨w1,w2,IS,w4,?_⟩,BD,Ud,λo ho=>?_⟩
  ·have hold:=zQ.2
   obtain ⟨p1,p2⟩:=tD BD.ND BD.ED (k+1) l
   have Ev:ed s.2 (k+1) l≠ed s'.2 (k+1) l:= λe=>by
    have:=aT (k+1) l p (p2 e)
    rw [(fa h1 h2 (k+1) l s' hk IS p hp hf).2 Ud] at this
    exact hh this.symm
   rw [PE,<-xw,List.length_append,List.length_singleton]
   omega
  ·rw [PE,<-xw] at ho
   rcases List.mem_append.1 ho with ho|ho
   ·exact .inl ho
   ·rw [List.mem_singleton] at ho;exact .inr ho
end Go.Proofs.Ytjbdmibbbpdnnaa

namespace Go.Proofs.Ytjbdmibbbpdnnaa
open Go.RowKit
theorem CY {n l:Nat} {gs:List PO} {R:Row} (Zp:l<n) (hg:PG n l gs) (r1:Qh n l gs R) (r3: ∀y t g,R.getD y none=some t->some g∈gs->R.getD (ap g y) none≠none): ∀q∈Zw R gs,Pm n q/\Fx (l+1) q:=by
 intro q hq
 obtain ⟨y,t,g,t',e1,e2,e3,rfl⟩:=(gK hg r1 r3).1 hq
 obtain ⟨t1,t2,t3,t4⟩:=r1.rt _ _ e1
 obtain ⟨u1,u2,u3,u4⟩:=r1.rt _ _ e3
 obtain ⟨g',e,Oi,KZ⟩:=hg _ e2
 cases e
 exact ⟨(t1.comp Oi).comp u1.inv,Fx.div (t1.comp Oi) u1 (Fx.comp t1 Oi t2 KZ (by omega)) u2 Zp (by rw [u3,Fg t1 Oi Zp,t3])⟩
theorem V.lower {n k l:Nat} {s:Cp×Cp} (h:V n (k+1) l s) (gs:List PO) (R:Row):V n k (l+1) (s.1.set l gs,s.2.set l R):=by
 obtain ⟨v1,v2,hc,zQ⟩:=h
 have JL: ∀i,l+1<=i->(s.1.set l gs).getD i []=s.1.getD i []/\(s.2.set l R).getD i []=s.2.getD i []:= λi hi=>by
  rw [Oz,Oz,if_neg (by omega),if_neg (by omega)];exact ⟨rfl,rfl⟩
 exact ⟨by simpa using v1,by simpa using v2,dH k (l+1) JL hc.1,kF k (l+1) JL zQ.1⟩
theorem xk {n k l:Nat} (h1:1<=n) (h2:n<=20) (hk:l+k=n): ∀(qs:List (List Int)) (s1:Cp×Cp),(∀q∈qs,Pm n q/\Fx l q)->V n k l s1->
  V n k l (qs.foldl (λs q=>De k l q s) s1)/\Vc l s1 (qs.foldl (λs q=>De k l q s) s1)
 | [],s1,_,hv=>⟨hv,Vc.refl _ _⟩
 |q::qs,s1,GJ,hv=>by
  have ha:=p6 h1 h2 k l q s1 hk hv (GJ q (by simp)).1 (GJ q (by simp)).2
  obtain ⟨g1,g2⟩:=xk h1 h2 hk qs (De k l q s1) (λq' cR=>GJ q' (by simp [cR])) ha.v
  exact ⟨g1,ha.grow.trans g2 (Nat.le_refl _)⟩
theorem DB {n:Nat} {s:Cp×Cp} : ∀(k l:Nat),dy n k l s->ed s.2 k l<=n*k
 |0,_,_=>by simp [ed]
 |k+1,l,hc=>by
  have h1:=DB k (l+1) hc.1
  have h2:rU (s.2.getD l [])<=n:=by
   have:=hc.2.1.rl
   have h3:rU (s.2.getD l [])<=(s.2.getD l []).length:=List.countP_le_length
   omega
  simp only [ed]
  rw [Nat.mul_succ]
  omega
theorem FM {n k l:Nat} {s:Cp×Cp} (h2:n<=20) (hk:l+(k+1)=n) (h:V n (k+1) l s):(s.1.getD l []).length<=400:=by
 have h3:=h.2.2.2.2
 have h4:=DB (k+1) l h.2.2.1
 have h5:n*(k+1)<=20*20:=Nat.mul_le_mul h2 (by omega)
 omega
theorem V.lvl {n k l:Nat} {s:Cp×Cp} (h:V n (k+1) l s):FC n l (s.1.getD l []) (s.2.getD l []) (λq=>Ib s.2 k (l+1) q=true):=h.2.2.1.2.1
theorem V.pg {n k l:Nat} {s:Cp×Cp} (h:V n (k+1) l s) {p:List Int} (hp:Pm n p) (hf:Fx l p):PG n l (s.1.getD l []++ [some p]):= λo ho=>by
 rcases List.mem_append.1 ho with ho|ho
 ·exact h.lvl.pg o ho
 ·rw [List.mem_singleton] at ho;exact ⟨p,ho,hp,hf⟩
theorem V.ZU {n k l:Nat} {s:Cp×Cp} (h:V n (k+1) l s) (p:List Int):Qh n l (s.1.getD l []++ [some p]) (s.2.getD l []):=
 ⟨h.lvl.rl,h.lvl.r0,λy t e=>⟨(h.lvl.rt y t e).1,(h.lvl.rt y t e).2.1,(h.lvl.rt y t e).2.2.1,(h.lvl.rt y t e).2.2.2.mono λ_ hg=>List.mem_append_left _ hg⟩⟩
theorem nh {α:Type} (xs:List (List α)) (i:Nat) (h:i<xs.length):xs.set i (xs.getD i [])=xs:=by
 refine List.ext_getElem (by simp) λj h1 h2=>?_
 rw [List.getElem_set]
 split
 ·rename_i e;subst e;rw [List.getD_eq_getElem?_getD,List.getElem?_eq_getElem h];rfl
 ·rfl
theorem cL {α:Type} (xs:List (List α)) (i:Nat) (h:i<xs.length) (r:List α):(xs.set i r).getD i []=r:=by
 rw [Oz,if_pos ⟨rfl,h⟩]
end Go.Proofs.Ytjbdmibbbpdnnaa

namespace Go.Proofs.Ytjbdmibbbpdnnaa
open Go.RowKit
noncomputable abbrev Jt:MSpec:=yN [none] [(false, .Gh OV)] false [none] [.row tI 2] (λx=>List.length x.1<=20) (λx=>((Hd x.1,()),()))
noncomputable abbrev Pk:Spec:=Dl (.pair tL (.pair tL .unit)) tO false true (λx=>(0<x.1.length/\x.1.length<=20)/\Oj x.2.1.length x.1) (λx=>some (Ac x.1 x.2.1))
noncomputable abbrev Yv:Spec:=Dl (.pair tL (.pair tL .unit)) tL false false (λx=>x.1.length<=20/\Oj x.2.1.length x.1) (λx=>Ac x.1 x.2.1)
noncomputable abbrev My:Spec:=Dl (.pair tI .unit) tL false true (λx=>0<=x.1/\x.1<=20) (λx=>upto x.1.toNat)
noncomputable abbrev Ut:Spec:=Dl (.pair tI .unit) tO false true (λx=>1<=x.1/\x.1<=20) (λx=>some (upto x.1.toNat))
abbrev JW:TypeId:=22
structure jR (N L:Nat) (n:Int) (G T:Cp) (l:Int) (p:List Int):Prop where
 n1:1<=N
 n2:N<=20
 en:n=N
 el:l=L
 le:L<=N
 v:V N (N-L) L (G,T)
 pm:Pm N p
 fx:Fx L p
noncomputable abbrev oI:Spec:=Dl (.pair (.ptr qP) (.pair tI (.pair tL .unit))) .bool false true (λx=> ∃N L,jR N L x.1.1 x.1.2.1 x.1.2.2.1 x.2.1 x.2.2.1) (λx=>Ib x.1.2.2.1 (x.1.1-x.2.1).toNat x.2.1.toNat x.2.2.1)
noncomputable abbrev JQ:MSpec:= {ptr:=some (179,3),Gg:= [none,none],ins:= [(false, .Gh tI),(false, .Ai tO JW true),(false, .Ai tO JW true),(false, .Gh tI),(false, .Gh tO)],Dt:=false,Fk:= [],outs:= [.Gh tI, .Ai tO JW false, .Ai tO JW false],fn:= λ_=>none,keeps:= [(1,1),(2,2)],Cj:= λx=>x.2.2.2.1.toNat}
noncomputable abbrev Nx (m:Nat):MSpec:=uy JQ (λx=>(∃N L q,x.2.2.2.2.1=some q/\jR N L x.1 x.2.1 x.2.2.1 x.2.2.2.1 q)/\(x.1-x.2.2.2.1).toNat<m)
 (λx=>((x.1,(De (x.1-x.2.2.2.1).toNat x.2.2.2.1.toNat (x.2.2.2.2.1.getD []) (x.2.1,x.2.2.1)).1,(De (x.1-x.2.2.2.1).toNat x.2.2.2.1.toNat (x.2.2.2.2.1.getD []) (x.2.1,x.2.2.1)).2,()),()))
theorem ug (n:Int) (P:List Int->Prop):(((0:Int)<=n/\n<(↑Bs:Int)+(1:Int))/\n=n/\0=0/\(List.replicate n.toNat (Int.ofNat (nat_lit 0))).length=(List.replicate n.toNat (Int.ofNat (nat_lit 0))).length/\Co (λ(v2:Int×List Int×PUnit) (k3:Int×List Int×PUnit->Prop)=>Br (decide (v2.1<(↑(List.replicate n.toNat (Int.ofNat (nat_lit 0))).length:Int))) (((0:Int)<=v2.1/\v2.1<(↑v2.2.1.length:Int))/\0+v2.1.toNat<v2.2.1.length/\0=0/\v2.2.1.length=(v2.2.1.set (0+v2.1.toNat) v2.1).length/\k3 (IntKind.i64.wrap (v2.1+(1:Int)),v2.2.1.set (0+v2.1.toNat) v2.1,())) (P (List.take v2.2.1.length (List.drop 0 v2.2.1)))) ((0:Int),List.replicate n.toNat (Int.ofNat (nat_lit 0)),PUnit.unit))=fnW Cy (look []) My Try.f127 (n,()) P:=by kernel_rfl
theorem zI (row:List (Option (List Int))) (P:(List Int×Unit)×Unit->Prop):(0=0/\0=([]:List Int).length/\Co (λ(v2:Int×List Int×PUnit) (k3:Int×List Int×PUnit->Prop)=>Br (decide (v2.1<(↑row.length:Int))) (∃(y4:Option (List Int)),idx row v2.1=some y4/\Br (!y4.isNone) (0=0/\v2.2.1.length=v2.2.1.length/\v2.2.1.length+(List.take 1 (List.drop 0 [v2.1])).length<=Bs/\0=0/\(v2.2.1++List.take 1 (List.drop 0 [v2.1])).length=(v2.2.1++List.take 1 (List.drop 0 [v2.1])).length/\k3 (IntKind.i64.wrap (v2.1+(1:Int)),v2.2.1++List.take 1 (List.drop 0 [v2.1]),())) (0=0/\v2.2.1.length=v2.2.1.length/\k3 (IntKind.i64.wrap (v2.1+(1:Int)),v2.2.1,()))) (P ((List.take v2.2.1.length (List.drop 0 v2.2.1),()),()))) ((0:Int),[],PUnit.unit))=fnMW Sj (look []) Jt Try.f174 (row,()) P:=by kernel_rfl
theorem TO (c:Int×List (List (Option (List Int)))×List (List (Option (List Int)))×Unit) (l:Int) (p:List Int) (P:Bool->Prop):(Co (λ(v4:List Int×Int×PUnit) (k5:List Int×Int×PUnit->Prop)=>Br (decide (v4.2.1<c.1)) (∃(y6:List (Option (List Int))),idx c.2.2.1 v4.2.1=some y6/\ ∃(y7:Int),idx v4.1 v4.2.1=some y7/\ ∃(y8:Option (List Int)),idx y6 y7=some y8/\Br y8.isNone (P false) (∃(y9:List Int),Ec.fn (y8.getD [],())=some y9/\ ∃(zL:List Int),Yv.fn (v4.1,y9,())=some zL/\k5 (zL,IntKind.i64.wrap (v4.2.1+(1:Int)),()))) (P true)) (p,l,PUnit.unit))=fnW Sj (look [(175,Ec),(156,Yv)]) oI Try.f183 (c,l,p,()) P:=by kernel_rfl
theorem Sound.loose {P:Program} {f:FuncId} {arg res:Ty} {pre:arg.den->Prop} {val:arg.den->res.den} (h:Sound P f (Go.Proofs.Ytjbdmibbbpdnnaa.Dl arg res false true pre val)):Sound P f (Go.Proofs.Ytjbdmibbbpdnnaa.Dl arg res false false pre val):=
 ⟨h.enter,λw S vs x y h1 h2 h3=>Calls.mono (h.calls w S vs x y h1 h2 h3) λe' w' hr=>by
  obtain ⟨v,g1,g2,g3⟩:=hr
  exact ⟨v,g1,g2,Aw.Ek (S:= λb=>S b\/(true=true/\b<w.heap.size)) g3 λk _ hk=>hk.elim .inl λhh=>absurd (show false=true from hh.1) (by simp)⟩⟩
theorem lG:Sound Try.prog 156 Yv:=Sound.loose Nz
theorem lH:Sound Try.prog 156 Pk:=Sound.VQ Nz λx h=>⟨⟨h.1.2,h.2⟩,λe=>by
 have:=Uh x.1 x.2.1
 rw [e] at this
 have:=h.1.1
 simp only [List.length_nil] at*
 omega⟩
theorem tt (n:Int) (h:0<=n/\n<=20):fnW Cy (look []) My Try.f127 (n,()) (λ(z:List Int)=>z=upto n.toNat):=by
 refine Eq.mp (ug n _) ⟨⟨by omega,by show n<(4294967296:Int)+1;omega⟩,rfl,rfl,rfl,?_⟩
 refine Ba n.toNat (λv=>v.1) (λj v=>v.2.1.length=n.toNat/\v.2.1.take j=upto j) rfl ⟨by simp,by simp [upto]⟩ ?_
 rintro j ⟨i,ys,⟨⟩⟩ K hj hi ⟨h1,h2⟩ hK
 dsimp only at hi h1 h2⊢
 subst hi
 rw [List.length_replicate]
 simp only [Int.toNat_natCast,Nat.zero_add]
 refine Br.dec (λhl=>⟨⟨by omega,by omega⟩,by omega,trivial,by rw [List.length_set],?_⟩) λhl=>?_
 ·rw [Au (by omega)]
  refine hK (by omega) _ rfl ⟨by rw [List.length_set];exact h1,?_⟩
  rw [List.take_add_one,List.take_set_of_le (by omega),h2,List.getElem?_set_self (by omega),Xd]
  rfl
 ·have:j=ys.length:=by omega
  subst this
  rw [List.take_length] at h2
  rw [List.drop_zero,List.take_length,h2,h1]
theorem a6:Sound Try.prog 127 My:=
 Sound.Dl Bz Ax mixed Try.func127 (by kernel_rfl) (by kernel_rfl) λx h=>tt x.1 h
theorem HS {n:Int} (h:1<=n/\n<=20):(0<=n/\n<=20)/\upto n.toNat≠ []:=⟨by omega,λe=>by
 have:=congrArg List.length e
 simp [upto] at this
 omega⟩
theorem jv:Sound Try.prog 127 Ut:=Sound.VQ a6 λ_ h=>HS h
theorem tm {row:Row} {j:Nat} :(upto (j+1)).filter (λy=>(row.getD y.toNat none).isSome)=(upto j).filter (λy=>(row.getD y.toNat none).isSome)++if (row.getD j none).isSome=true then [(j:Int)] else []:=by
 rw [Xd,List.filter_append]
 congr 1
 simp only [List.filter_cons,List.filter_nil,Int.toNat_natCast]
theorem z6 (row:List (Option (List Int))) (h:List.length row<=20):fnMW Sj (look []) Jt Try.f174 (row,()) (λ(z:(List Int×Unit)×Unit)=>z=((Hd row,()),())):=by
 refine Eq.mp (zI row _) ⟨rfl,rfl,?_⟩
 refine Ba row.length (λv=>v.1) (λj v=>v.2.1=(upto j).filter (λy=>(row.getD y.toNat none).isSome)) rfl rfl ?_
 rintro j ⟨i,ys,⟨⟩⟩ K hj hi h1 hK
 dsimp only at hi h1⊢
 subst hi
 refine Br.dec (λhl=>?_) λhl=>?_
 ·have hl:j<row.length:=by omega
  have hlen:ys.length<=j:=by rw [h1];refine Nat.le_trans (List.length_filter_le _ _) (by simp [upto])
  have hg:row.getD j none=row[j]:=by rw [List.getD_eq_getElem?_getD,List.getElem?_eq_getElem hl];rfl
  refine ⟨_,Bf hl,Br.of (λhb=>⟨rfl,rfl,?_,rfl,rfl,?_⟩) λhb=>⟨rfl,rfl,?_⟩⟩
  ·show ys.length+1<=4294967296
   omega
  ·rw [Au (by omega)]
   refine hK hl _ rfl ?_
   show ys++ [(j:Int)]=_
   rw [tm,hg,h1,if_pos (by cases e:row[j] with
    |none=>rw [e] at hb;simp at hb
    |some t=>rfl)]
  ·rw [Au (by omega)]
   refine hK hl _ rfl ?_
   show ys=_
   rw [tm,hg,h1,if_neg (by cases e:row[j] with
    |none=>simp
    |some t=>rw [e] at hb;simp at hb),List.append_nil]
 ·have:j=row.length:=by omega
  subst this
  rw [List.drop_zero,List.take_length,h1]
  rfl
theorem dd:Du Try.prog 174 Jt:=
 Du.yN iq Ax mixed Try.func174 (by kernel_rfl) (by kernel_rfl) λx h=>z6 x.1 h
theorem eK {n:Nat} {s:Cp×Cp} : ∀(k l:Nat),dy n k l s-> ∀i,l<=i->i<l+k->FC n i (s.1.getD i []) (s.2.getD i []) (λq=>Ib s.2 (l+k-i-1) (i+1) q=true)
 |0,_,_,i,h1,h2=>by omega
 |k+1,l,hc,i,h1,h2=>by
  obtain ⟨c1,c2,_⟩:=hc
  by_cases e:i=l
  ·subst e
   rw [show i+(k+1)-i-1=k by omega]
   exact c2
  ·have:=eK k (l+1) c1 i (by omega) (by omega)
   rwa [show l+1+k-i-1=l+(k+1)-i-1 by omega] at this
theorem sm {α:Type} {xs:List (List α)} {i:Nat} (h:i<xs.length):xs.getD i []=xs[i]:=by
 rw [List.getD_eq_getElem?_getD,List.getElem?_eq_getElem h];rfl
theorem AT {α:Type} {xs:List (Option α)} {i:Nat} (h:i<xs.length):xs.getD i none=xs[i]:=by
 rw [List.getD_eq_getElem?_getD,List.getElem?_eq_getElem h];rfl
theorem Pm.row {n:Nat} {p:List Int} (h:Pm n p):Oj n p:=by
 have:=h.2.row
 rwa [h.1] at this
theorem SW (c:Int×List (List (Option (List Int)))×List (List (Option (List Int)))×Unit) (l:Int) (p:List Int) (h: ∃N L,jR N L c.1 c.2.1 c.2.2.1 l p):
  fnW Sj (look [(175,Ec),(156,Yv)]) oI Try.f183 (c,l,p,()) (λ(z:Bool)=>z=Ib c.2.2.1 (c.1-l).toNat l.toNat p):=by
 obtain ⟨n,G,T,⟨⟩⟩:=c
 obtain ⟨N,L,h⟩:=h
 obtain ⟨n1,n2,en,el,hle,v,pm,fx⟩:=h
 dsimp only at en el v⊢
 subst en el
 refine Eq.mp (TO ((N:Int),G,T,()) (L:Int) p _) ?_
 obtain ⟨v1,v2,v3,v4⟩:=v
 dsimp only at v1 v2
 refine ⟨λv=> ∃i:Nat,L<=i/\i<=N/\v.2.1=i/\Pm N v.1/\Fx i v.1/\Ib T (N-i) i v.1=Ib T (N-L) L p,λv=>N-v.2.1.toNat,⟨L,Nat.le_refl _,hle,rfl,pm,fx,rfl⟩,?_⟩
 rintro ⟨p',i',⟨⟩⟩ ⟨i,h1,h2,h3,h4,h5,h6⟩
 dsimp only at h3 h4 h5 h6⊢
 subst h3
 rw [show (((N:Int)-(L:Int)).toNat)=N-L by omega,show ((L:Int)).toNat=L by omega,<-h6]
 refine Br.dec (λhl=>?_) λhl=>?_
 ·have hl:i<N:=by omega
  have Sa:=eK (N-L) L v3 i h1 (by omega)
  obtain ⟨a1,a2⟩:=h4.Om hl
  have hT:i<T.length:=by omega
  have hlen:T[i].length=N:=by have:=Sa.rl;dsimp only at this;rwa [sm hT] at this
  refine ⟨_,Bf hT,_,Bf (by rw [h4.1];exact hl),?_⟩
  have e1:p'[i]'(by rw [h4.1];exact hl)=(ap p' i:Int):=by rw [<-a1,Hk]
  rw [e1]
  refine ⟨_,Bf (by omega),?_⟩
  have e2:N-i=(N-i-1)+1:=by omega
  have e3:(T.getD i []).getD (Mi p' (i:Int)).toNat none=T[i][ap p' i]'(by omega):=by
   rw [sm hT];exact AT (by show ap p' i<_;omega)
  rw [e2]
  simp only [Ib,e3]
  refine Br.of (λhb=>?_) λhb=>?_
  ·cases e:T[i][ap p' i]'(by omega) with
   |none=>rfl
   |some t=>rw [e] at hb;simp at hb
  ·cases e:T[i][ap p' i]'(by omega) with
   |none=>rw [e] at hb;simp at hb
   |some t=>
    have ht:(T.getD i []).getD (ap p' i) none=some t:=by rw [<-e];exact e3
    obtain ⟨t1,t2,t3,t4⟩:=Sa.rt _ _ ht
    simp only [Option.getD_some]
    refine ⟨_,if_pos ⟨by show t.length<=20;rw [t1.1];exact n2,t1.2.row⟩,_,if_pos ⟨by show p'.length<=20;rw [h4.1];exact n2,by show Oj (Aj t).length p';rw [jO,t1.1];exact h4.row⟩,⟨i+1,by omega,by omega,Au (by omega),h4.comp t1.inv,Fx.div h4 t1 h5 t2 hl t3,?_⟩,?_⟩
    ·rw [show N-(i+1)=N-i-1 by omega]
    ·show N-(IntKind.i64.wrap ((i:Int)+1)).toNat<N-((i:Int)).toNat
     rw [Au (by omega)]
     omega
 ·rw [show N-i=0 by omega]
  rfl
theorem zl:Sound Try.prog 183 oI:=
 Sound.Dl iq (Ae Oa (Ae lG Ax)) mixed Try.func183 (by kernel_rfl) (by kernel_rfl) λx h=>SW x.1 x.2.1 x.2.2.1 h
end Go.Proofs.Ytjbdmibbbpdnnaa

namespace Go.Proofs.Ytjbdmibbbpdnnaa
open Go.RowKit
abbrev qO:Type:=Nat×Nat×Int×List (List (Option (List Int)))×Nat×List (List (Option (List Int)))×Nat×List Int×Int×PUnit
abbrev DT:Type:=Nat×Int×List (List (Option (List Int)))×Nat×List (List (Option (List Int)))×Nat×List Int×Int×PUnit
abbrev DU:Type:=Nat×List (List (Option (List Int)))×Nat×List (List (Option (List Int)))×Nat×List Int×Int×PUnit
abbrev Gb (G:List (List (Option (List Int)))) (l:Int) (p:Option (List Int)) (T:List (List (Option (List Int)))) (y7:Bool) (n:Int):Prop:=0=0/\(G.getD (0+l.toNat) []).length=(G.getD (0+l.toNat) []).length/\(G.getD (0+l.toNat) []).length+(List.take 1 (List.drop 0 [p])).length<=Bs/\((0:Int)<=l/\l<(↑G.length:Int))/\0=0/\(G.getD (0+l.toNat) []++List.take 1 (List.drop 0 [p])).length=(G.getD (0+l.toNat) []++List.take 1 (List.drop 0 [p])).length/\0+l.toNat=0+l.toNat/\ [(0,G.length),(0,G.length),(0,G.length),(0,T.length)]= [(0,G.length),(0,G.length),(0,G.length),(0,T.length)]/\(l,p,l,p,y7,l,l,0+l.toNat,p,List.take 1 (List.drop 0 [p]),0+l.toNat,G.set (0+l.toNat) (G.getD (0+l.toNat) []++List.take 1 (List.drop 0 [p])),min G.length (0+l.toNat),T,T.length,n,())=(l,p,l,p,y7,l,l,0+l.toNat,p,List.take 1 (List.drop 0 [p]),0+l.toNat,G.set (0+l.toNat) (G.getD (0+l.toNat) []++List.take 1 (List.drop 0 [p])),min G.length (0+l.toNat),T,T.length,n,PUnit.unit)
theorem TK {m:Nat} (n:Int) (G T:List (List (Option (List Int)))) (l:Int) (p:Option (List Int)) (P:(Int×List (List (Option (List Int)))×List (List (Option (List Int)))×Unit)×Unit->Prop):(∃(y7:Bool),oI.fn ((n,List.take G.length (List.drop 0 G),List.take T.length (List.drop 0 T),()),l,p.getD [],())=some y7/\Br y7 ((0=0/\G.length=G.length)/\(0=0/\T.length=T.length)/\(Nx (m+1)).Cj (n,G,T,l,p,())<=G.length/\(Nx (m+1)).Cj (n,G,T,l,p,())<=T.length/\P ((n,G,T,()),())) (((0:Int)<=l/\l<(↑G.length:Int))/\0=0/\(G.getD (0+l.toNat) []).length=(G.getD (0+l.toNat) []).length/\(G.getD (0+l.toNat) []).length+(List.take 1 (List.drop 0 [p])).length<=Bs/\((0:Int)<=l/\l<(↑G.length:Int))/\0=0/\(G.getD (0+l.toNat) []++List.take 1 (List.drop 0 [p])).length=(G.getD (0+l.toNat) []++List.take 1 (List.drop 0 [p])).length/\0+l.toNat=0+l.toNat/\(((0:Int)<=l/\l<(↑T.length:Int))/\ ∃(y8:(List Int×PUnit)×PUnit),Jt.fn (T.getD (0+l.toNat) [],())=some y8/\0=0/\(List.take y8.1.1.length (List.drop 0 y8.1.1)).length=(List.take y8.1.1.length (List.drop 0 y8.1.1)).length/\0=0/\G.length=(G.set (0+l.toNat) (G.getD (0+l.toNat) []++List.take 1 (List.drop 0 [p]))).length/\0=0/\T.length=T.length/\Co (λ(v9:DU) (k10:DU->Prop)=>Br (decide ((↑v9.2.2.2.2.2.1.length:Int)>(0:Int))) (((0:Int)<=l/\l<(↑v9.2.1.length:Int))/\0=0/\(List.take v9.2.2.2.2.2.1.length (List.drop 0 v9.2.2.2.2.2.1)).length=(List.take v9.2.2.2.2.2.1.length (List.drop 0 v9.2.2.2.2.2.1)).length/\0=0/\v9.2.1.length=v9.2.1.length/\0=0/\v9.2.2.2.1.length=v9.2.2.2.1.length/\Co (λ(v11:qO) (SL:qO->Prop)=>Br (decide (v11.2.2.1<(↑(v9.2.1.getD (0+l.toNat) []).length:Int))) (((0:Int)<=v11.2.2.1/\v11.2.2.1<(↑(v11.2.2.2.1.getD v11.2.1 []).length:Int))/\((0:Int)<=(0:Int)/\(0:Int)<(↑v11.2.2.2.2.2.2.2.1.length:Int))/\ ∃(x5:Int),v11.2.2.2.2.2.2.2.1[0+Int.toNat (0:Int)]?=some x5/\ ∃(bY:Int),idx (((v11.2.2.2.1.getD v11.2.1 []).getD v11.2.2.1.toNat (none:Option (List Int))).getD []) x5=some bY/\((0:Int)<=bY/\bY<(↑(v11.2.2.2.2.2.1.getD v11.1 []).length:Int))/\Br ((v11.2.2.2.2.2.1.getD v11.1 []).getD bY.toNat (none:Option (List Int))).isNone (((0:Int)<=(0:Int)/\(0:Int)<(↑v11.2.2.2.2.2.2.2.1.length:Int))/\ ∃(jg:Int),v11.2.2.2.2.2.2.2.1[0+Int.toNat (0:Int)]?=some jg/\((0:Int)<=jg/\jg<(↑(v11.2.2.2.2.2.1.getD v11.1 []).length:Int))/\ ∃(zX:Option (List Int)),Pk.fn (((v11.2.2.2.2.2.1.getD v11.1 []).getD jg.toNat (none:Option (List Int))).getD [],((v11.2.2.2.1.getD v11.2.1 []).getD v11.2.2.1.toNat (none:Option (List Int))).getD [],())=some zX/\((0:Int)<=bY/\bY<(↑(v11.2.2.2.2.2.1.getD v11.1 []).length:Int))/\0=0/\v11.2.2.2.2.2.2.2.1.length=v11.2.2.2.2.2.2.2.1.length/\v11.2.2.2.2.2.2.2.1.length+(List.take 1 (List.drop 0 [bY])).length<=Bs/\0=0/\(List.take (v11.2.2.2.2.2.2.2.1++List.take 1 (List.drop 0 [bY])).length (List.drop 0 (v11.2.2.2.2.2.2.2.1++List.take 1 (List.drop 0 [bY])))).length=(List.take (v11.2.2.2.2.2.2.2.1++List.take 1 (List.drop 0 [bY])).length (List.drop 0 (v11.2.2.2.2.2.2.2.1++List.take 1 (List.drop 0 [bY])))).length/\0=0/\v11.2.2.2.1.length=v11.2.2.2.1.length/\0=0/\v11.2.2.2.2.2.1.length=(v11.2.2.2.2.2.1.set v11.1 ((v11.2.2.2.2.2.1.getD v11.1 []).set bY.toNat zX)).length/\SL (v11.1,v11.2.1,IntKind.i64.wrap (v11.2.2.1+(1:Int)),v11.2.2.2.1,v11.2.2.2.2.1,v11.2.2.2.2.2.1.set v11.1 ((v11.2.2.2.2.2.1.getD v11.1 []).set bY.toNat zX),v11.2.2.2.2.2.2.1,List.take (v11.2.2.2.2.2.2.2.1++List.take 1 (List.drop 0 [bY])).length (List.drop 0 (v11.2.2.2.2.2.2.2.1++List.take 1 (List.drop 0 [bY]))),v11.2.2.2.2.2.2.2.2.1,())) (0=0/\(List.take v11.2.2.2.2.2.2.2.1.length (List.drop 0 v11.2.2.2.2.2.2.2.1)).length=(List.take v11.2.2.2.2.2.2.2.1.length (List.drop 0 v11.2.2.2.2.2.2.2.1)).length/\0=0/\v11.2.2.2.1.length=v11.2.2.2.1.length/\0=0/\v11.2.2.2.2.2.1.length=v11.2.2.2.2.2.1.length/\SL (v11.1,v11.2.1,IntKind.i64.wrap (v11.2.2.1+(1:Int)),v11.2.2.2.1,v11.2.2.2.2.1,v11.2.2.2.2.2.1,v11.2.2.2.2.2.2.1,List.take v11.2.2.2.2.2.2.2.1.length (List.drop 0 v11.2.2.2.2.2.2.2.1),v11.2.2.2.2.2.2.2.2.1,()))) (((0:Int)<=(1:Int)/\(1:Int)<=(↑v11.2.2.2.2.2.2.2.1.length:Int)/\(↑v11.2.2.2.2.2.2.2.1.length:Int)<=(↑v11.2.2.2.2.2.2.2.1.length:Int))/\0=0/\(List.take ((↑v11.2.2.2.2.2.2.2.1.length:Int).toNat-Int.toNat (1:Int)) (List.drop (0+Int.toNat (1:Int)) v11.2.2.2.2.2.2.2.1)).length=(List.take ((↑v11.2.2.2.2.2.2.2.1.length:Int).toNat-Int.toNat (1:Int)) (List.drop (0+Int.toNat (1:Int)) v11.2.2.2.2.2.2.2.1)).length/\0=0/\v11.2.2.2.1.length=v11.2.2.2.1.length/\0=0/\v11.2.2.2.2.2.1.length=v11.2.2.2.2.2.1.length/\k10 (v11.1,v11.2.2.2.1,v11.2.2.2.2.1,v11.2.2.2.2.2.1,v11.2.2.2.2.2.2.1,List.take ((↑v11.2.2.2.2.2.2.2.1.length:Int).toNat-Int.toNat (1:Int)) (List.drop (0+Int.toNat (1:Int)) v11.2.2.2.2.2.2.2.1),v11.2.2.2.2.2.2.2.2.1,()))) (v9.1,0+l.toNat,(0:Int),v9.2.1,v9.2.2.1,v9.2.2.2.1,v9.2.2.2.2.1,List.take v9.2.2.2.2.2.1.length (List.drop 0 v9.2.2.2.2.2.1),v9.2.2.2.2.2.2.1,PUnit.unit)) (∃(zW:(List Int×PUnit)×PUnit),Jt.fn (v9.2.2.2.1.getD v9.1 [],())=some zW/\0=0/\zW.1.1.length=zW.1.1.length/\0=0/\v9.2.1.length=v9.2.1.length/\0=0/\v9.2.2.2.1.length=v9.2.2.2.1.length/\Co (λ(ek:DT) (k13:DT->Prop)=>Br (decide (ek.2.1<(↑zW.1.1.length:Int))) (((0:Int)<=ek.2.1/\ek.2.1<(↑ek.2.2.2.2.2.2.1.length:Int))/\ ∃(bY:Int),ek.2.2.2.2.2.2.1[0+ek.2.1.toNat]?=some bY/\((0:Int)<=l/\l<(↑ek.2.2.1.length:Int))/\0=0/\ek.2.2.2.2.2.2.1.length=ek.2.2.2.2.2.2.1.length/\0=0/\ek.2.2.1.length=ek.2.2.1.length/\0=0/\ek.2.2.2.2.1.length=ek.2.2.2.2.1.length/\Co (λ(Ke:qO) (k16:qO->Prop)=>Br (decide (Ke.2.2.1<(↑(ek.2.2.1.getD (0+l.toNat) []).length:Int))) (((0:Int)<=Ke.2.2.1/\Ke.2.2.1<(↑(Ke.2.2.2.1.getD Ke.2.1 []).length:Int))/\((0:Int)<=bY/\bY<(↑(Ke.2.2.2.2.2.1.getD Ke.1 []).length:Int))/\ ∃(EO:Option (List Int)),Pk.fn (((Ke.2.2.2.2.2.1.getD Ke.1 []).getD bY.toNat (none:Option (List Int))).getD [],((Ke.2.2.2.1.getD Ke.2.1 []).getD Ke.2.2.1.toNat (none:Option (List Int))).getD [],())=some EO/\ ∃(NW:Int),idx (((Ke.2.2.2.1.getD Ke.2.1 []).getD Ke.2.2.1.toNat (none:Option (List Int))).getD []) bY=some NW/\((0:Int)<=NW/\NW<(↑(Ke.2.2.2.2.2.1.getD Ke.1 []).length:Int))/\ ∃(y19:List Int),Ec.fn (((Ke.2.2.2.2.2.1.getD Ke.1 []).getD NW.toNat (none:Option (List Int))).getD [],())=some y19/\ ∃(JY:Option (List Int)),Pk.fn (EO.getD [],y19,())=some JY/\0=0/\Ke.2.2.2.1.length=Ke.2.2.2.1.length/\0=0/\Ke.2.2.2.2.2.1.length=Ke.2.2.2.2.2.1.length/\ ∃(zY:(Int×List (List (Option (List Int)))×List (List (Option (List Int)))×PUnit)×PUnit),(Nx m).fn (Ke.2.2.2.2.2.2.2.2.1,Ke.2.2.2.1,Ke.2.2.2.2.2.1,IntKind.i64.wrap (l+(1:Int)),JY,())=some zY/\(Ke.1<(Nx m).Cj (Ke.2.2.2.2.2.2.2.2.1,Ke.2.2.2.1,Ke.2.2.2.2.2.1,IntKind.i64.wrap (l+(1:Int)),JY,())/\Ke.1<(List.length zY.1.2.2.1))/\(Ke.2.1<(Nx m).Cj (Ke.2.2.2.2.2.2.2.2.1,Ke.2.2.2.1,Ke.2.2.2.2.2.1,IntKind.i64.wrap (l+(1:Int)),JY,())/\Ke.2.1<(List.length zY.1.2.1))/\(Ke.1<(Nx m).Cj (Ke.2.2.2.2.2.2.2.2.1,Ke.2.2.2.1,Ke.2.2.2.2.2.1,IntKind.i64.wrap (l+(1:Int)),JY,())/\Ke.1<(List.length zY.1.2.2.1))/\(Ke.1<(Nx m).Cj (Ke.2.2.2.2.2.2.2.2.1,Ke.2.2.2.1,Ke.2.2.2.2.2.1,IntKind.i64.wrap (l+(1:Int)),JY,())/\Ke.1<(List.length zY.1.2.2.1))/\0=0/\Ke.2.2.2.2.2.2.2.1.length=Ke.2.2.2.2.2.2.2.1.length/\0=0/\zY.1.2.1.length=zY.1.2.1.length/\0=0/\zY.1.2.2.1.length=zY.1.2.2.1.length/\k16 (Ke.1,Ke.2.1,IntKind.i64.wrap (Ke.2.2.1+(1:Int)),zY.1.2.1,min Ke.2.2.2.2.1 ((Nx m).Cj (Ke.2.2.2.2.2.2.2.2.1,Ke.2.2.2.1,Ke.2.2.2.2.2.1,IntKind.i64.wrap (l+(1:Int)),JY,())),zY.1.2.2.1,min Ke.2.2.2.2.2.2.1 ((Nx m).Cj (Ke.2.2.2.2.2.2.2.2.1,Ke.2.2.2.1,Ke.2.2.2.2.2.1,IntKind.i64.wrap (l+(1:Int)),JY,())),Ke.2.2.2.2.2.2.2.1,zY.1.1,())) (0=0/\Ke.2.2.2.2.2.2.2.1.length=Ke.2.2.2.2.2.2.2.1.length/\0=0/\Ke.2.2.2.1.length=Ke.2.2.2.1.length/\0=0/\Ke.2.2.2.2.2.1.length=Ke.2.2.2.2.2.1.length/\k13 (Ke.1,IntKind.i64.wrap (ek.2.1+(1:Int)),Ke.2.2.2.1,Ke.2.2.2.2.1,Ke.2.2.2.2.2.1,Ke.2.2.2.2.2.2.1,Ke.2.2.2.2.2.2.2.1,Ke.2.2.2.2.2.2.2.2.1,()))) (ek.1,0+l.toNat,(0:Int),ek.2.2.1,ek.2.2.2.1,ek.2.2.2.2.1,ek.2.2.2.2.2.1,ek.2.2.2.2.2.2.1,ek.2.2.2.2.2.2.2.1,PUnit.unit)) ((0=0/\ek.2.2.1.length=ek.2.2.1.length)/\(0=0/\ek.2.2.2.2.1.length=ek.2.2.2.2.1.length)/\(Nx (m+1)).Cj (n,G,T,l,p,())<=ek.2.2.2.1/\(Nx (m+1)).Cj (n,G,T,l,p,())<=ek.2.2.2.2.2.1/\P ((ek.2.2.2.2.2.2.2.1,ek.2.2.1,ek.2.2.2.2.1,()),()))) (v9.1,(0:Int),v9.2.1,v9.2.2.1,v9.2.2.2.1,v9.2.2.2.2.1,zW.1.1,v9.2.2.2.2.2.2.1,PUnit.unit))) (0+l.toNat,G.set (0+l.toNat) (G.getD (0+l.toNat) []++List.take 1 (List.drop 0 [p])),min G.length (0+l.toNat),T,T.length,List.take y8.1.1.length (List.drop 0 y8.1.1),n,PUnit.unit))/\(((((0:Int)<=l/\l<(↑G.length:Int))/\((Gb G l p T y7 n))/\(Gb G l p T y7 n))/\((0:Int)<=l/\l<(↑G.length:Int))/\(Gb G l p T y7 n))/\((0:Int)<=l/\l<(↑G.length:Int))/\(Gb G l p T y7 n))/\(((((0:Int)<=l/\l<(↑G.length:Int))/\((Gb G l p T y7 n))/\(Gb G l p T y7 n))/\((0:Int)<=l/\l<(↑G.length:Int))/\(Gb G l p T y7 n))/\(((0:Int)<=l/\l<(↑G.length:Int))/\(((Gb G l p T y7 n))/\(Gb G l p T y7 n))/\(((Gb G l p T y7 n))/\((Gb G l p T y7 n))/\(Gb G l p T y7 n))/\((Gb G l p T y7 n))/\((Gb G l p T y7 n))/\(Gb G l p T y7 n))/\(((0:Int)<=l/\l<(↑G.length:Int))/\(Gb G l p T y7 n))/\((0:Int)<=l/\l<(↑G.length:Int))/\((Gb G l p T y7 n))/\((Gb G l p T y7 n))/\(Gb G l p T y7 n))/\(((0:Int)<=l/\l<(↑G.length:Int))/\(Gb G l p T y7 n))/\(((0:Int)<=l/\l<(↑G.length:Int))/\(Gb G l p T y7 n))/\((0:Int)<=l/\l<(↑G.length:Int))/\((Gb G l p T y7 n))/\((Gb G l p T y7 n))/\(Gb G l p T y7 n)))=fnMW (DY [Kn+7]) (look [(183,oI),(174,Jt),(156,Pk),(175,Ec),(173,ez.m (Nx m))]) (Nx (m+1)) Try.f173 (n,G,T,l,p,()) P:=by kernel_rfl
theorem rE {k l:Nat} {p:List Int} {s:Cp×Cp} (h:Ib s.2 k l p=true):De k l p s=s:=by
 cases k with
 |zero=>rfl
 |succ k=>unfold De;rw [if_pos h]
theorem rD (k l:Nat) (p:List Int) (s:Cp×Cp):De (k+1) l p s=if Ib s.2 (k+1) l p=true then s else
   (Zw (Qc (s.1.getD l []++ [some p]) (s.2.getD l [])) (s.1.getD l []++ [some p])).foldl (λs q=>De k (l+1) q s)
    (s.1.set l (s.1.getD l []++ [some p]),s.2.set l (Qc (s.1.getD l []++ [some p]) (s.2.getD l []))):=rfl
theorem BT {n:Nat} {p:List Int} (h:Pm n p) {i:Nat} (hi:i<n):idx p (i:Int)=some (ap p i:Int):=by
 have ga:i<p.length:=by rw [h.1];exact hi
 rw [Bf ga,<-(h.Om hi).1,Hk ga]
theorem uK {x:Int} {gs:List PO} {j:Nat} (hj:j<gs.length) (s:Row×List Int):Ri x (gs.take (j+1)) s=Rt x (Ri x (gs.take j) s) gs[j]:=by
 unfold Ri
 rw [List.take_add_one,List.getElem?_eq_getElem hj,Option.toList_some,List.foldl_append]
 rfl
theorem uL {gs:List PO} {f:Nat} {row:Row} :Rb gs f [] row=row:=by cases f<;>rfl
theorem dI {n:Nat} {p:List Int} (h:Pm n p):0<p.length/\p.length<=20:=⟨by rw [h.1];exact h.n1,by rw [h.1];exact h.n2⟩
theorem wx {n:Nat} {p q:List Int} (h:Pm n p) (k:Pm n q):Oj q.length p:=by rw [k.1];exact h.row
theorem SQ {m:Nat} (n:Int) (G T:List (List (Option (List Int)))) (l:Int) (p:Option (List Int)) (h:(∃N L q,p=some q/\jR N L n G T l q)/\(n-l).toNat<m+1):
  fnMW (DY [Kn+7]) (look [(183,oI),(174,Jt),(156,Pk),(175,Ec),(173,ez.m (Nx m))]) (Nx (m+1)) Try.f173 (n,G,T,l,p,()) (λ(z:(Int×List (List (Option (List Int)))×List (List (Option (List Int)))×Unit)×Unit)=>z=((n,(De (n-l).toNat l.toNat (p.getD []) (G,T)).1,(De (n-l).toNat l.toNat (p.getD []) (G,T)).2,()),())):=by
 obtain ⟨⟨N,L,q,rfl,h⟩,hm⟩:=h
 have h':=h
 obtain ⟨n1,n2,en,el,hle,v,pm,fx⟩:=h
 subst en el
 have hk:((N:Int)-(L:Int)).toNat=N-L:=by omega
 rw [hk,Int.toNat_natCast]
 refine Eq.mp (TK (N:Int) G T (L:Int) (some q) _) ⟨_,if_pos ⟨N,L,?a⟩,?b⟩
 case a=>
  simp only [List.drop_zero,List.take_length,Option.getD_some]
  exact h'
 obtain ⟨v1,v2,v3,v4⟩:=v
 dsimp only at v1 v2
 have hw:IntKind.i64.wrap ((L:Int)+1)=((L+1:Nat):Int):=Au (by omega)
 simp only [Gb]
 simp only [List.drop_zero,List.take_length,Option.getD_some,hk,Int.toNat_natCast,Nat.zero_add,eq_self,true_and,and_true,List.take_succ_cons,List.take_zero,List.length_cons,List.length_nil,List.length_set,hw]
 refine Br.of (λhh=>⟨by show Int.toNat (L:Int)<=G.length;omega,by show Int.toNat (L:Int)<=T.length;omega,?_⟩) λhh=>?_
 ·rw [rE (s:=(G,T)) hh]
 obtain ⟨k,hNk⟩: ∃k,N-L=k+1:=by
  cases e:N-L with
  |zero=>rw [e] at hh;simp [Ib] at hh
  |succ k=>exact ⟨k,rfl⟩
 have PS:L<N:=by omega
 have hv:V N (k+1) L (G,T):=by rw [<-hNk];exact ⟨v1,v2,v3,v4⟩
 rw [hNk] at hh⊢
 have e1:(0:Int)<=(L:Int)/\(L:Int)<(G.length:Int):=by omega
 have VW:(0:Int)<=(L:Int)/\(L:Int)<(T.length:Int):=by omega
 have hgl:(G.getD L []).length<=400:=FM n2 (by omega) hv
 have e2:(G.getD L []).length+1<=Bs:=by show _<=4294967296;omega
 simp only [e1,VW,e2,and_self,true_and,and_true]
 generalize xw:G.getD L []++ [some q]=gs
 have Acl:gs.length<=401:=by rw [<-xw,List.length_append,List.length_singleton];omega
 have hg:PG N L gs:=by rw [<-xw];exact hv.pg pm fx
 have LV:Qh N L gs (T.getD L []):=by rw [<-xw];exact hv.ZU q
 obtain ⟨r1,r2,r3⟩:=tn PS n2 hg LV
 generalize hR:Qc gs (T.getD L [])=R at r1 r2 r3
 have sy:De (k+1) L q (G,T)=(Zw R gs).foldl (λs q=>De k (L+1) q s) (G.set L gs,T.set L R):=by
  rw [rD,if_neg (by rw [hh];simp)]
  dsimp only
  rw [xw,hR]
 rw [sy]
 have hTl:L<T.length:=by omega
 have hGl:L<G.length:=by omega
 have UF:(G.set L gs).getD L []=gs:=cL G L hGl gs
 have WO: ∀row:Row,(T.set L row).getD L []=row:=cL T L hTl
 refine ⟨_,if_pos (by show (T.getD L []).length<=20;rw [LV.rl];exact n2),?_⟩
 dsimp only
 have YI:(Hd (T.getD L [])).length+Kl (T.getD L [])<=40:=by have:=q6 (T.getD L []);have:=tg (T.getD L []);have:=LV.rl;omega
 have UZ:xZ gs (Hd (T.getD L [])) (T.getD L []):=⟨λy hy=>Mb.1 hy,λy hy=> .inl (Mb.2 ⟨y,rfl,hy⟩)⟩
 refine ⟨λv=> ∃(row:Row) (qu:List Int) (kg kt:Nat),v=(L,G.set L gs,kg,T.set L row,kt,qu,(N:Int),())/\L<=kg/\L<=kt/\qu.length+Kl row<=40/\Qh N L gs row/\xZ gs qu row/\Rb gs (qu.length+Kl row) qu row=R,
  fun v=>v.2.2.2.2.2.1.length+Kl (v.2.2.2.1.getD v.1 []),⟨T.getD L [],Hd (T.getD L []),min G.length L,T.length,?_,by omega,by omega,YI,LV,UZ,?_⟩,?_⟩
 ·rw [nh T L hTl]
 ·rw [<-rO PS hg 100 _ _ (by omega) LV UZ];exact hR
 rintro v ⟨row,qu,kg,kt,rfl,LI,LL,hb,BL,hqi,AY⟩
 dsimp only
 simp only [UF,WO,List.length_set]
 refine Br.dec (λhl=>⟨e1.2,?_⟩) λhl=>?_
 ·cases qu with
  |nil=>simp at hl
  |cons x qu=>
  obtain ⟨p1,p2,xn,t,rfl,ht⟩:=wg PS hg BL hqi
  have RY:xn<N:=by rw [<-BL.rl];exact jJ ht
  refine Ba gs.length (λv=>v.2.2.1) (λj v=> ∃kg kt:Nat,v=(L,L,(j:Int),G.set L gs,kg,T.set L (Ri (xn:Int) (gs.take j) (row,qu)).1,kt,(xn:Int)::(Ri (xn:Int) (gs.take j) (row,qu)).2,(N:Int),())/\L<=kg/\L<=kt) rfl ⟨kg,kt,rfl,LI,LL⟩ ?_
  rintro j v K hj hi ⟨kg,kt,rfl,h1,h2⟩ hK
  dsimp only
  simp only [UF,WO,Int.toNat_natCast]
  refine Br.dec (λhl=>?_) λhl=>?_
  ·have hl:j<gs.length:=by omega
   obtain ⟨x1,x2⟩:=DC PS hg (gs.take j) (q:=qu) (λo ho=>List.mem_of_mem_take ho) BL ht
   have Qy:=uK (x:=(xn:Int)) hl (row,qu)
   generalize Ri (xn:Int) (gs.take j) (row,qu)=s at x1 x2 Qy⊢
   obtain ⟨r,qq⟩:=s
   dsimp only at x1 x2⊢
   obtain ⟨g,mD,Oi,KZ⟩:=hg gs[j] (List.getElem_mem hl)
   have ZE:r.getD xn none=some t:=x1.mono _ _ ht
   obtain ⟨t1,t2,t3,t4⟩:=x1.ok.rt _ _ ZE
   have RJ:r.length=N:=x1.ok.rl
   have XM:gs.getD j none=some g:=by rw [AT hl];exact mD
   have hy:=Oi.lt RY
   have UO:=(Oi.Om RY).1
   have GH:qq.length+Kl r=qu.length+Kl row:=x1.OU
   simp only [List.length_cons] at hb
   simp only [XM,Option.getD_some]
   refine ⟨⟨by omega,by omega⟩,⟨by omega,by simp only [List.length_cons];omega⟩,_,rfl,_,BT Oi RY,⟨by omega,by omega⟩,?_⟩
   rw [mD] at Qy
   unfold Rt at Qy
   dsimp only at Qy
   rw [Option.getD_some,UO,Int.toNat_natCast,Int.toNat_natCast,ZE,Option.getD_some] at Qy
   rw [Int.toNat_natCast]
   refine Br.of (λhn=>?_) λhn=>?_
   ·have hn:r.getD (ap g xn) none=none:=by
     cases e:r.getD (ap g xn) none with
     |none=>rfl
     |some u=>rw [e] at hn;simp at hn
    rw [hn] at Qy
    refine ⟨⟨by omega,by simp only [List.length_cons];omega⟩,_,rfl,⟨by omega,by omega⟩,some (Ac t g),?_,⟨by omega,by omega⟩,?_,?_⟩
    ·rw [Int.toNat_natCast,ZE,Option.getD_some]
     exact if_pos ⟨dI t1,wx t1 Oi⟩
    ·show qq.length+1+1<=4294967296
     omega
    ·rw [Au (by omega)]
     refine hK hl _ rfl ⟨kg,kt,?_,h1,h2⟩
     rw [Qy,List.set_set]
     rfl
   ·have hn: ∃u,r.getD (ap g xn) none=some u:=by
     cases e:r.getD (ap g xn) none with
     |none=>rw [e] at hn;simp at hn
     |some u=>exact ⟨u,rfl⟩
    obtain ⟨u,hn⟩:=hn
    rw [hn] at Qy
    rw [Au (by omega)]
    refine hK hl _ rfl ⟨kg,kt,?_,h1,h2⟩
    rw [Qy]
  ·have:j=gs.length:=by omega
   subst this
   rw [List.take_length]
   generalize hs:Ri (xn:Int) gs (row,qu)=s at p1 p2⊢
   obtain ⟨r,qq⟩:=s
   dsimp only at p1 p2⊢
   have GH:qq.length+Kl r=qu.length+Kl row:=p1.OU
   simp only [List.length_cons] at hb AY
   refine ⟨⟨by omega,by simp only [List.length_cons];omega,Int.le_refl _⟩,⟨r,qq,kg,kt,?_,h1,h2,by omega,p1.ok,p2,?_⟩,?_⟩
   ·simp
   ·rw [show qu.length+1+Kl row=(qu.length+Kl row)+1 by omega] at AY
    simp only [Rb,hs] at AY
    rw [GH]
    exact AY
   ·simp only [List.length_cons]
    have:(List.take (qq.length+1-Int.toNat 1) (List.drop (Int.toNat 1) ((xn:Int)::qq))).length=qq.length:=by simp
    rw [this]
    omega
 ·have:qu= []:=List.eq_nil_of_length_eq_zero (by omega)
  subst this
  rw [uL] at AY
  subst AY
  have hpr:=CY PS hg BL r3
  have RT:=hv.lower gs row
  have IX: ∀qs:List (List Int),(∀q∈qs,q∈Zw row gs)->V N k (L+1) (qs.foldl (λs q=>De k (L+1) q s) (G.set L gs,T.set L row))/\Vc (L+1) (G.set L gs,T.set L row) (qs.foldl (λs q=>De k (L+1) q s) (G.set L gs,T.set L row)):=
   fun qs GJ=>xk n1 n2 (by omega) qs _ (λq hq=>hpr q (GJ q hq)) RT
  refine ⟨_,if_pos (by show row.length<=20;rw [BL.rl];exact n2),?_⟩
  dsimp only
  have hol:=q6 row
  have RJ:=BL.rl
  refine Ba (Hd row).length (λv=>v.2.1) (λi v=> ∃(s:Cp×Cp) (kg kt:Nat),v=(L,(i:Int),s.1,kg,s.2,kt,Hd row,(N:Int),())/\L<=kg/\L<=kt/\s=(((Hd row).take i).flatMap λy=>gs.map (Ly row y)).foldl (λs q=>De k (L+1) q s) (G.set L gs,T.set L row)) rfl ⟨_,kg,kt,rfl,LI,LL,rfl⟩ ?_
  rintro i v K hi ga ⟨s,kg,kt,rfl,h1,h2,hs⟩ hK
  dsimp only
  have Mj: ∀q∈((Hd row).take i).flatMap (λy=>gs.map (Ly row y)),q∈Zw row gs:= λq hq=>by
   obtain ⟨y,hy,hq⟩:=List.mem_flatMap.1 hq
   exact List.mem_flatMap.2 ⟨y,List.mem_of_mem_take hy,hq⟩
  refine Br.dec (λhl=>?_) λhl=>?_
  ·have hl:i<(Hd row).length:=by omega
   obtain ⟨f1,f2⟩:=IX _ Mj
   rw [<-hs] at f1 f2
   have g1:s.1.getD L []=gs:=by rw [(f2.low L (by omega)).1];exact UF
   have g2:s.1.length=N:=f1.1
   obtain ⟨yn,JM,RZ⟩:=Mb.1 (List.getElem_mem hl)
   obtain ⟨t,ht⟩:=Option.ne_none_iff_exists'.1 RZ
   have hyN:yn<N:=by rw [<-RJ];exact jJ ht
   obtain ⟨t1,t2,t3,t4⟩:=BL.rt _ _ ht
   refine ⟨⟨by omega,by omega⟩,(yn:Int),by rw [Int.toNat_natCast,List.getElem?_eq_getElem hl,JM],by omega,?_⟩
   rw [g1]
   refine Ba gs.length (λv=>v.2.2.1) (λj v=> ∃(s':Cp×Cp) (kg kt:Nat),v=(L,L,(j:Int),s'.1,kg,s'.2,kt,Hd row,(N:Int),())/\L<=kg/\L<=kt/\s'=(((Hd row).take i).flatMap (λy=>gs.map (Ly row y))++(gs.take j).map (Ly row (yn:Int))).foldl (λs q=>De k (L+1) q s) (G.set L gs,T.set L row)) rfl ⟨s,kg,kt,rfl,h1,h2,by simpa using hs⟩ ?_
   rintro j v K' hj yq ⟨s',kg,kt,rfl,h1,h2,zT⟩ PR
   dsimp only
   refine Br.dec (λIc=>?_) λIc=>?_
   ·have Ic:j<gs.length:=by omega
    have xF: ∀q∈((Hd row).take i).flatMap (λy=>gs.map (Ly row y))++(gs.take j).map (Ly row (yn:Int)),q∈Zw row gs:= λq hq=>by
     rcases List.mem_append.1 hq with hq|hq
     ·exact Mj q hq
     ·obtain ⟨o,ho,rfl⟩:=List.mem_map.1 hq
      exact List.mem_flatMap.2 ⟨(yn:Int),Mb.2 ⟨yn,rfl,RZ⟩,List.mem_map.2 ⟨o,List.mem_of_mem_take ho,rfl⟩⟩
    obtain ⟨NZ,UD⟩:=IX _ xF
    rw [<-zT] at NZ UD
    obtain ⟨G',T'⟩:=s'
    dsimp only at NZ UD⊢
    have g1':G'.getD L []=gs:=by have:=(UD.low L (by omega)).1;dsimp only at this;rw [this];exact UF
    have g3':T'.getD L []=row:=by have:=(UD.low L (by omega)).2;dsimp only at this;rw [this];exact WO row
    have g4':G'.length=N:=NZ.1
    have g5':T'.length=N:=NZ.2.1
    obtain ⟨g,mD,Oi,KZ⟩:=hg gs[j] (List.getElem_mem Ic)
    have XM:gs.getD j none=some g:=by rw [AT Ic];exact mD
    have hgm:some g∈gs:=by rw [<-mD];exact List.getElem_mem Ic
    have hy:=Oi.lt hyN
    obtain ⟨t',yA⟩:=Option.ne_none_iff_exists'.1 (r3 yn t g ht hgm)
    obtain ⟨u1,u2,u3,u4⟩:=BL.rt _ _ yA
    have RM:Ly row (yn:Int) gs[j]=Ac (Ac t g) (Aj t'):=by rw [mD];exact bF ht yA
    have JG:=hpr _ (List.mem_flatMap.2 ⟨(yn:Int),Mb.2 ⟨yn,rfl,RZ⟩,List.mem_map.2 ⟨gs[j],List.getElem_mem Ic,RM⟩⟩)
    simp only [g1',g3',Int.toNat_natCast,XM,ht,Option.getD_some]
    have kO:L<Int.toNat ((L+1:Nat):Int):=by omega
    have PV:=p6 n1 n2 k (L+1) _ (G',T') (by omega) NZ JG.1 JG.2
    have Aaj:((De k (L+1) (Ac (Ac t g) (Aj t')) (G',T')).1).length=N:=PV.v.1
    have Aak:((De k (L+1) (Ac (Ac t g) (Aj t')) (G',T')).2).length=N:=PV.v.2.1
    have EU:((N:Int)-((L+1:Nat):Int)).toNat=k:=by omega
    refine ⟨⟨by omega,by omega⟩,⟨by omega,by omega⟩,some (Ac t g),if_pos ⟨dI t1,wx t1 Oi⟩,_,BT Oi hyN,⟨by omega,by omega⟩,Aj t',?_,some (Ac (Ac t g) (Aj t')),?_,_,if_pos ⟨⟨N,L+1,_,rfl,?pr⟩,?lt⟩,⟨kO,?k1⟩,⟨kO,?k2⟩,⟨kO,?k3⟩,⟨kO,?k4⟩,?go⟩
    case pr=>exact ⟨n1,n2,rfl,rfl,by omega,by rw [show N-(L+1)=k by omega];exact NZ,JG.1,JG.2⟩
    case lt=>
     show ((N:Int)-((L+1:Nat):Int)).toNat<m
     omega
    case go=>
     dsimp only
     rw [Au (by omega)]
     refine PR Ic _ rfl ⟨_,_,_,rfl,?_,?_,?_⟩
     ·show L<=min kg (Int.toNat ((L+1:Nat):Int));omega
     ·show L<=min kt (Int.toNat ((L+1:Nat):Int));omega
     ·rw [List.take_add_one,List.getElem?_eq_getElem Ic,Option.toList_some,List.map_append,<-List.append_assoc,List.foldl_append,<-zT]
      simp only [List.map_cons,List.map_nil,List.foldl_cons,List.foldl_nil,RM,EU,Int.toNat_natCast,Option.getD_some]
    case k1=>simp only [EU,Int.toNat_natCast,Option.getD_some];omega
    case k2=>simp only [EU,Int.toNat_natCast,Option.getD_some];omega
    case k3=>simp only [EU,Int.toNat_natCast,Option.getD_some];omega
    case k4=>simp only [EU,Int.toNat_natCast,Option.getD_some];omega
    ·rw [Int.toNat_natCast,yA,Option.getD_some]
     exact if_pos ⟨by show t'.length<=20;rw [u1.1];exact n2,u1.2.row⟩
    ·exact if_pos ⟨dI (t1.comp Oi),wx (t1.comp Oi) u1.inv⟩
   ·have:j=gs.length:=by omega
    subst this
    rw [Au (by omega)]
    refine hK hl _ rfl ⟨s',kg,kt,rfl,h1,h2,?_⟩
    rw [zT,List.take_length,List.take_add_one,List.getElem?_eq_getElem hl,Option.toList_some,List.flatMap_append,JM]
    simp
  ·have:i=(Hd row).length:=by omega
   subst this
   rw [List.take_length] at hs
   refine ⟨h1,h2,?_⟩
   rw [hs]
   rfl
theorem DP {m:Nat} (MH:Du Try.prog 173 (Nx m)):Du Try.prog 173 (Nx (m+1)):=
 Du.uy (HN [Kn+7]) (Ae zl (Vx dd (Ae lH (Ae Oa (Vx MH Ax))))) mixed Try.func173 (by kernel_rfl) (by kernel_rfl) λx h=>SQ x.1 x.2.1 x.2.2.1 x.2.2.2.1 x.2.2.2.2.1 h
theorem wE:Du Try.prog 173 (Nx 0):=
 Du.uy iq Ax mixed Try.func173 (by kernel_rfl) (by kernel_rfl) λ_ h=>absurd h.2 (Nat.not_lt_zero _)
theorem lF: ∀m,Du Try.prog 173 (Nx m)
 |0=>wE
 |m+1=>DP (lF m)
noncomputable abbrev qv:MSpec:=uy JQ (λx=> ∃N L q,x.2.2.2.2.1=some q/\jR N L x.1 x.2.1 x.2.2.1 x.2.2.2.1 q)
 (λx=>((x.1,(De (x.1-x.2.2.2.1).toNat x.2.2.2.1.toNat (x.2.2.2.2.1.getD []) (x.2.1,x.2.2.1)).1,(De (x.1-x.2.2.2.1).toNat x.2.2.2.1.toNat (x.2.2.2.2.1.getD []) (x.2.1,x.2.2.1)).2,()),()))
theorem wF:Du Try.prog 173 qv:=Du.SO (λx=>(x.1-x.2.2.2.1).toNat) lF
end Go.Proofs.Ytjbdmibbbpdnnaa

namespace Go.Proofs.Ytjbdmibbbpdnnaa
open Go.RowKit
def Rf (n:Nat):Cp:=List.replicate n []
def Xc (n i:Nat):Row:=(List.replicate n none).set i (some (upto n))
def Vo (n:Nat):Cp:=(List.range n).map λi=>Xc n i
def Mg (n:Nat) (gens:List PO):Cp×Cp:=gens.foldl (λs o=>De n 0 (o.getD []) s) (Rf n,Vo n)
noncomputable abbrev vG:MSpec:= {Gg:= [none,none],ins:= [(false, .Gh tI),(false, .Gh OV)],Dt:=false,Fk:= [none,none,none],outs:= [.Gh tI, .Ai tO JW false, .Ai tO JW false],fn:= λ_=>none,rp:=some 179}
noncomputable abbrev bE:MSpec:=uy vG (λx=>(1<=x.1/\x.1<=20)/\List.length x.2.1<=4294967296/\ ∀o∈(x.2.1:List PO),∃g,o=some g/\Pm x.1.toNat g)
 (λx=>((x.1,(Mg x.1.toNat x.2.1).1,(Mg x.1.toNat x.2.1).2,()),()))
abbrev Sh:Type:=Int×List (List (Option (List Int)))×Int×List (List (Option (List Int)))×PUnit
theorem uj (n:Int) (gens:List (Option (List Int))) (P:(Int×List (List (Option (List Int)))×List (List (Option (List Int)))×Unit)×Unit->Prop):(((0:Int)<=n/\n<(↑Bs:Int)+(1:Int))/\n=n/\0=0/\(List.replicate n.toNat ([]:List (Option (List Int)))).length=(List.replicate n.toNat ([]:List (Option (List Int)))).length/\0=0/\0=([]:List Int).length/\Co (λ(v3:Sh) (k4:Sh->Prop)=>Br (decide (v3.1<n)) (((0:Int)<=n/\n<(↑Bs:Int)+(1:Int))/\n=n/\ ∃(y5:Option (List Int)),Ut.fn (n,())=some y5/\((0:Int)<=v3.1/\v3.1<(↑(List.replicate n.toNat (none:Option (List Int))).length:Int))/\0+v3.1.toNat<(List.replicate n.toNat (none:Option (List Int))).length/\0=0/\(List.replicate n.toNat (none:Option (List Int))).length=((List.replicate n.toNat (none:Option (List Int))).set (0+v3.1.toNat) y5).length/\(0=0/\v3.2.2.2.1.length=v3.2.2.2.1.length)/\(0=0/\1= [(List.replicate n.toNat (none:Option (List Int))).set (0+v3.1.toNat) y5].length)/\0< [(List.replicate n.toNat (none:Option (List Int))).set (0+v3.1.toNat) y5].length/\v3.2.2.2.1.length+ [(List.replicate n.toNat (none:Option (List Int))).set (0+v3.1.toNat) y5].length<=Bs/\0=0/\v3.2.1.length=v3.2.1.length/\0=0/\(v3.2.2.2.1++ [(List.replicate n.toNat (none:Option (List Int))).set (0+v3.1.toNat) y5]).length=(v3.2.2.2.1++ [(List.replicate n.toNat (none:Option (List Int))).set (0+v3.1.toNat) y5]).length/\k4 (IntKind.i64.wrap (v3.1+(1:Int)),v3.2.1,v3.2.2.1,v3.2.2.2.1++ [(List.replicate n.toNat (none:Option (List Int))).set (0+v3.1.toNat) y5],())) (0=0/\v3.2.1.length=v3.2.1.length/\0=0/\v3.2.2.2.1.length=v3.2.2.2.1.length/\Co (λ(v5:Sh) (k6:Sh->Prop)=>Br (decide (v5.1<(↑gens.length:Int))) (∃(y7:Option (List Int)),idx gens v5.1=some y7/\0=0/\v5.2.1.length=v5.2.1.length/\0=0/\v5.2.2.2.1.length=v5.2.2.2.1.length/\ ∃(y8:(Int×List (List (Option (List Int)))×List (List (Option (List Int)))×PUnit)×PUnit),qv.fn (v5.2.2.1,v5.2.1,v5.2.2.2.1,(0:Int),y7,())=some y8/\0=0/\y8.1.2.1.length=y8.1.2.1.length/\0=0/\y8.1.2.2.1.length=y8.1.2.2.1.length/\k6 (IntKind.i64.wrap (v5.1+(1:Int)),y8.1.2.1,y8.1.1,y8.1.2.2.1,())) ((0=0/\v5.2.1.length=v5.2.1.length)/\(0=0/\v5.2.2.2.1.length=v5.2.2.2.1.length)/\P ((v5.2.2.1,v5.2.1,v5.2.2.2.1,()),()))) ((0:Int),v3.2.1,v3.2.2.1,v3.2.2.2.1,PUnit.unit))) ((0:Int),List.replicate n.toNat ([]:List (Option (List Int))),n,[],PUnit.unit))=fnMW Sj (look [(127,Ut),(173,qv)]) bE Try.f154 (n,gens,()) P:=by kernel_rfl
theorem Tx (n i:Nat):(Rf n).getD i []= []:=by
 unfold Rf
 rw [List.getD_eq_getElem?_getD,List.getElem?_replicate]
 split<;>rfl
theorem ei {n i:Nat} (h:i<n):(Vo n).getD i []=Xc n i:=by
 unfold Vo
 rw [List.getD_eq_getElem?_getD,List.getElem?_map,List.getElem?_range h]
 rfl
theorem fQ {n i y:Nat} (h:i<n):(Xc n i).getD y none=if i=y then some (upto n) else none:=by
 unfold Xc
 rw [Oz,List.length_replicate]
 by_cases e:i=y
 ·rw [if_pos ⟨e,h⟩,if_pos e]
 ·rw [if_neg (λhh=>e hh.1),if_neg e,List.getD_eq_getElem?_getD,List.getElem?_replicate]
  split<;>rfl
theorem lU {n:Nat} (h1:1<=n) (h2:n<=20): ∀(k l:Nat),l+k=n->dy n k l (Rf n,Vo n)
 |0,l,hk=>Tx n l
 |k+1,l,hk=>by
  have hl:l<n:=by omega
  have hg: ∀(g:List Int) (j:Nat),some g∈(Rf n).getD j []->False:= λg j hg=>by rw [Tx] at hg;cases hg
  refine ⟨lU h1 h2 k (l+1) (by omega),⟨λo ho=>?_,?_,?_,λy t e0=>?_,λy t g _ Xg=>(hg _ _ Xg).elim,λy t g t' _ Xg=>(hg _ _ Xg).elim⟩,λg Xg=>(hg _ _ Xg).elim⟩
  ·have ho:o∈(Rf n).getD l []:=ho
   rw [Tx] at ho;cases ho
  ·show ((Vo n).getD l []).length=n
   rw [ei hl];simp [Xc]
  ·show ((Vo n).getD l []).getD l none=_
   rw [ei hl,fQ hl,if_pos rfl]
  ·replace e0:((Vo n).getD l []).getD y none=some t:=e0
   rw [ei hl,fQ hl] at e0
   by_cases hy:l=y
   ·rw [if_pos hy] at e0
    have e1:=Option.some.inj e0
    subst e1 hy
    exact ⟨Pm.id h1 h2,λi hi=>eC (by omega),eC hl, .id⟩
   ·rw [if_neg hy] at e0;cases e0
theorem tV (n:Nat): ∀(k l:Nat),PB k l (Rf n,Vo n)
 |0,_=>trivial
 |k+1,l=>⟨tV n k (l+1),by show ((Rf n).getD l []).length<=_;rw [Tx];exact Nat.zero_le _⟩
theorem xR {n:Nat} (h1:1<=n) (h2:n<=20):V n n 0 (Rf n,Vo n):=⟨by simp [Rf],by simp [Vo],lU h1 h2 n 0 (by omega),tV n n 0⟩
def TY (n:Nat) (gens:List PO):Prop:= ∀o∈gens,∃g,o=some g/\Pm n g
theorem rC {n:Nat} {gens:List PO} {j:Nat} (hj:j<gens.length):Mg n (gens.take (j+1))=De n 0 (gens[j].getD []) (Mg n (gens.take j)):=by
 unfold Mg
 rw [List.take_add_one,List.getElem?_eq_getElem hj,Option.toList_some,List.foldl_append]
 rfl
theorem gg {n:Nat} (h1:1<=n) (h2:n<=20): ∀(gens:List PO) (s:Cp×Cp),TY n gens->V n n 0 s->V n n 0 (gens.foldl (λs o=>De n 0 (o.getD []) s) s)/\
  Vc 0 s (gens.foldl (λs o=>De n 0 (o.getD []) s) s)/\(∀g,some g∈gens->Gn n ((gens.foldl (λs o=>De n 0 (o.getD []) s) s).1.getD 0 []) g)/\ ∀o∈(gens.foldl (λs o=>De n 0 (o.getD []) s) s).1.getD 0 [],o∈s.1.getD 0 []\/o∈gens
 | [],s,_,hv=>⟨hv,Vc.refl _ _,(λ_ hg=>by cases hg),λ_ ho=> .inl ho⟩
 |o::gens,s,hg,hv=>by
  obtain ⟨g,rfl,Oi⟩:=hg o (by simp)
  have ha:=p6 h1 h2 n 0 g s (by omega) hv Oi (λi hi=>absurd hi (Nat.not_lt_zero _))
  obtain ⟨a1,a2,a3,a4⟩:=gg h1 h2 gens (De n 0 g s) (λo ho=>hg o (by simp [ho])) ha.v
  refine ⟨a1,ha.grow.trans a2 (Nat.le_refl _),λg' Xg=>?_,λo ho=>?_⟩
  ·rcases List.mem_cons.1 Xg with e|Xg
   ·cases e;exact ha.SI.mono λg hg=>a2.xp _ _ hg
   ·exact a3 g' Xg
  ·rcases a4 o ho with h|h
   ·rcases ha.gens o h with h|h
    ·exact .inl h
    ·exact .inr (by simp [h])
   ·exact .inr (by simp [h])
theorem rz {n:Nat} (h1:1<=n) (h2:n<=20) {gens:List PO} (hg:TY n gens):V n n 0 (Mg n gens):=(gg h1 h2 gens _ hg (xR h1 h2)).1
theorem kI {n:Nat} (h1:1<=n) (h2:n<=20) {gens:List PO} (hg:TY n gens) {p:List Int} (hp:Pm n p):Ib (Mg n gens).2 n 0 p=true↔Gn n gens p:=by
 obtain ⟨a1,a2,a3,a4⟩:=gg h1 h2 gens _ hg (xR h1 h2)
 have hS:x9 n λg=>some g∈gens:=⟨⟨h1,h2⟩,λg Xg=>by obtain ⟨g',e,h⟩:=hg _ Xg;cases e;exact h⟩
 have Mj: ∀g,some g∈(Mg n gens).1.getD 0 []->some g∈gens:= λg Xg=>by
  rcases a4 _ Xg with h|h
  ·have h:some g∈(Rf n).getD 0 []:=h
   rw [Tx] at h;cases h
  ·exact h
 have PT:x9 n λg=>some g∈(Mg n gens).1.getD 0 []:=⟨⟨h1,h2⟩,λg Xg=>hS.2 g (Mj g Xg)⟩
 refine (fa h1 h2 n 0 (Mg n gens) (by omega) a1.2.2.1 p hp λi hi=>absurd hi (Nat.not_lt_zero _)).trans ⟨λh=>h.mono Mj,λh=>h.trans PT λg Xg=>a3 g Xg⟩
theorem tz (n:Int) (gens:List (Option (List Int))) (h:(1<=n/\n<=20)/\List.length gens<=4294967296/\ ∀o∈(gens:List PO),∃g,o=some g/\Pm n.toNat g):
  fnMW Sj (look [(127,Ut),(173,qv)]) bE Try.f154 (n,gens,()) (λ(z:(Int×List (List (Option (List Int)))×List (List (Option (List Int)))×Unit)×Unit)=>z=((n,(Mg n.toNat gens).1,(Mg n.toNat gens).2,()),())):=by
 obtain ⟨⟨h1,h2⟩,h3,hg⟩:=h
 obtain ⟨N,rfl⟩: ∃N:Nat,n=N:=⟨n.toNat,by omega⟩
 rw [Int.toNat_natCast] at hg⊢
 have h1:1<=N:=by omega
 have h2:N<=20:=by omega
 refine Eq.mp (uj (N:Int) gens _) ?_
 have hm:((0:Int)<=(N:Int)/\(N:Int)<(Bs:Int)+1):=⟨by omega,by show (N:Int)<(4294967296:Int)+1;omega⟩
 simp only [hm,and_self,eq_self,true_and,Int.toNat_natCast,Nat.zero_add,List.length_nil,List.length_set,List.length_replicate,List.length_cons,Nat.lt_add_one,List.length_append]
 refine Ba N (λv=>v.1) (λj v=>v=((j:Int),Rf N,(N:Int),(List.range j).map (Xc N),())) rfl rfl ?_
 rintro j v K hj hi rfl hK
 dsimp only
 refine Br.dec (λhl=>?_) λhl=>?_
 ·refine ⟨_,if_pos ⟨by show (1:Int)<=N;omega,by show (N:Int)<=20;omega⟩,⟨by omega,by omega⟩,by rw [Int.toNat_natCast];omega,?_,?_⟩
  ·show _<=4294967296
   simp only [List.length_map,List.length_range]
   omega
  ·rw [Au (by omega)]
   refine hK (by omega) _ rfl ?_
   rw [List.range_succ,List.map_append]
   rfl
 ·have:j=N:=by omega
  subst this
  refine Ba gens.length (λv=>v.1) (λi v=>v=((i:Int),(Mg j (gens.take i)).1,(j:Int),(Mg j (gens.take i)).2,())) rfl rfl ?_
  rintro i v K' ga Acn rfl PR
  dsimp only
  refine Br.dec (λIc=>?_) λIc=>?_
  ·have Ic:i<gens.length:=by omega
   obtain ⟨g,mD,Oi⟩:=hg gens[i] (List.getElem_mem Ic)
   have hv:=rz h1 h2 (gens:=gens.take i) λo ho=>hg o (List.mem_of_mem_take ho)
   refine ⟨_,Bf Ic,_,if_pos ⟨j,0,g,mD,h1,h2,rfl,rfl,Nat.zero_le _,hv,Oi,λi hi=>absurd hi (Nat.not_lt_zero _)⟩,?_⟩
   rw [Au (by omega)]
   refine PR Ic _ rfl ?_
   rw [rC Ic]
   simp only [Int.sub_zero,Int.toNat_natCast]
   rfl
  ·have:i=gens.length:=by omega
   subst this
   rw [List.take_length]
theorem jz:Du Try.prog 154 bE:=
 Du.uy iq (Ae jv (Vx wF Ax)) mixed Try.func154 (by kernel_rfl) (by kernel_rfl) λx h=>tz x.1 x.2.1 h
end Go.Proofs.Ytjbdmibbbpdnnaa

namespace Go.Proofs.Ytjbdmibbbpdnnaa
open Go.RowKit
def Tr (T:Cp):Nat->Nat
 |0=>1
 |j+1=>Tr T j*(Hd (T.getD j [])).length
noncomputable abbrev ct:Spec:=Dl (.pair (.ptr qP) (.pair tI .unit)) tI false true (λx=>x.2.1=0/\ ∃N:Nat,(1<=N/\N<=20)/\x.1.1=N/\V N N 0 (x.1.2.1,x.1.2.2.1)) (λx=>(Tr x.1.2.2.1 x.1.1.toNat:Int))
noncomputable abbrev sE:MSpec:= {Gg:= [none,none],ins:= [(false, .Gh tI),(false, .Gh jC)],Dt:=false,Fk:= [none,none,none],outs:= [.Gh tI, .Ai tO JW false, .Ai tO JW false],fn:= λ_=>none,rp:=some 179}
def Ru (n:Int) (g:List (List Int)):Cp×Cp:=Mg n.toNat (g.map some)
noncomputable abbrev Po:MSpec:=uy sE (λx=>(1<=x.1/\x.1<=20)/\List.length x.2.1<=4294967296/\ ∀g∈(x.2.1:List (List Int)),Pm x.1.toNat g)
 (λx=>((x.1,(Ru x.1 x.2.1).1,(Ru x.1 x.2.1).2,()),()))
noncomputable def No (p:PP):Int:=if Bc p=true then (Tr (Ru p.1 p.2.2.1).2 p.1.toNat:Int) else 0
noncomputable abbrev Kx:Spec:=Dl (.pair Ck .unit) tI false true (λx=>Cm x.1) (λx=>No x.1)
theorem HW (c:Int×List (List (Option (List Int)))×List (List (Option (List Int)))×Unit) (l:Int) (P:Int->Prop):(Co (λ(v3:Int×Int×PUnit) (k4:Int×Int×PUnit->Prop)=>Br (decide (v3.2.1<c.1)) (∃(y5:List (Option (List Int))),idx c.2.2.1 v3.2.1=some y5/\ ∃(y6:(List Int×PUnit)×PUnit),Jt.fn (y5,())=some y6/\ ∃(y7:Int),Lk.fn (List.take y6.1.1.length (List.drop 0 y6.1.1),())=some y7/\k4 (IntKind.i64.wrap (v3.1*y7),IntKind.i64.wrap (v3.2.1+(1:Int)),())) (P v3.1)) ((1:Int),l,PUnit.unit))=fnW Sj (look [(174,Jt),(82,Lk)]) ct Try.f155 (c,l,()) P:=by kernel_rfl
theorem rf (p:Int×ByteArray×List (List Int)×Unit) (P:Int->Prop):(∃(y2:Bool),Ef.fn ((p.1,p.2.1,p.2.2.1,()),())=some y2/\Br (!y2) (P (0:Int)) (∃(y3:(Int×List (List (Option (List Int)))×List (List (Option (List Int)))×PUnit)×PUnit),Po.fn (p.1,p.2.2.1,())=some y3/\ ∃(y4:Int),ct.fn ((y3.1.1,List.take y3.1.2.1.length (List.drop 0 y3.1.2.1),List.take y3.1.2.2.1.length (List.drop 0 y3.1.2.2.1),()),(0:Int),())=some y4/\P y4))=fnW Cy (look [(130,Ef),(154,Po),(155,ct)]) Kx Try.f126 (p,()) P:=by kernel_rfl
theorem HR (n i:Nat):(upto n).countP (λy=>decide ((i:Int)<=y))=n-i:=by
 induction n with
 |zero=>simp [upto]
 |succ n ih=>
  rw [Xd,List.countP_append,ih]
  simp only [List.countP_cons,List.countP_nil,decide_eq_true_eq]
  split<;>omega
theorem GV {n i:Nat} {gs:List PO} {row:Row} {H:List Int->Prop} (hi:i<n) (h:FC n i gs row H):(Hd row).length<=n-i:=by
 rw [<-HR n i]
 unfold Hd
 rw [h.rl,<-List.countP_eq_length_filter]
 refine List.countP_mono_left λy hy hs=>?_
 obtain ⟨h1,h2⟩:=Jk.1 hy
 obtain ⟨t,ht⟩:=Option.isSome_iff_exists.1 hs
 obtain ⟨t1,t2,t3,_⟩:=h.rt _ _ ht
 refine decide_eq_true ?_
 refine Classical.byContradiction λhn=>?_
 have hy':y.toNat<i:=by omega
 have:=t1.inj hi (by omega:y.toNat<n) (by rw [t3,t2 _ hy'])
 omega
def fact:Nat->Nat
 |0=>1
 |n+1=>(n+1)*fact n
theorem sd: ∀n,1<=fact n
 |0=>Nat.le_refl _
 |n+1=>by have:=sd n;simp only [fact];exact Nat.le_trans this (Nat.le_mul_of_pos_left _ (by omega))
theorem yi {a b:Nat} (h:a<=b):fact a<=fact b:=by
 induction h with
 |refl=>exact Nat.le_refl _
 |step _ ih=>simp only [fact];exact Nat.le_trans ih (Nat.le_mul_of_pos_left _ (by omega))
theorem CR {n:Nat} {s:Cp×Cp} (hc:dy n n 0 s): ∀j,j<=n->Tr s.2 j*fact (n-j)<=fact n
 |0,_=>by simp [Tr]
 |j+1,hj=>by
  have ih:=CR hc j (by omega)
  have h1:=GV (by omega) (eK n 0 hc j (by omega) (by omega))
  have e:n-j=(n-(j+1))+1:=by omega
  simp only [Tr]
  rw [e] at ih h1
  simp only [fact] at ih
  rw [Nat.mul_assoc]
  exact Nat.le_trans (Nat.mul_le_mul_left _ (Nat.mul_le_mul_right _ h1)) ih
theorem yS {n:Nat} (h2:n<=20) {s:Cp×Cp} (hc:dy n n 0 s) {j:Nat} (hj:j<=n):Tr s.2 j<=2432902008176640000:=by
 have h1:=CR hc j hj
 have h3:=sd (n-j)
 have h4:fact n<=2432902008176640000:=Nat.le_trans (yi h2) (by decide)
 have h5:Tr s.2 j*1<=Tr s.2 j*fact (n-j):=Nat.mul_le_mul_left _ h3
 omega
theorem GZ (c:Int×List (List (Option (List Int)))×List (List (Option (List Int)))×Unit) (l:Int) (h:l=0/\ ∃N:Nat,(1<=N/\N<=20)/\c.1=N/\V N N 0 (c.2.1,c.2.2.1)):
  fnW Sj (look [(174,Jt),(82,Lk)]) ct Try.f155 (c,l,()) (λ(z:Int)=>z=(Tr c.2.2.1 c.1.toNat:Int)):=by
 obtain ⟨rfl,N,⟨h1,h2⟩,hN,v⟩:=h
 obtain ⟨n,G,T,⟨⟩⟩:=c
 dsimp only at hN v⊢
 subst hN
 refine Eq.mp (HW ((N:Int),G,T,()) 0 _) ?_
 obtain ⟨v1,v2,v3,v4⟩:=v
 dsimp only at v1 v2⊢
 rw [Int.toNat_natCast]
 refine Ba N (λv=>v.2.1) (λj v=>v.1=(Tr T j:Int)) rfl rfl ?_
 rintro j ⟨o,i,⟨⟩⟩ K hj hi ho hK
 dsimp only at hi ho⊢
 subst hi ho
 refine Br.dec (λhl=>?_) λhl=>?_
 ·have hl:j<N:=by omega
  have hT:j<T.length:=by omega
  have Sa:=eK N 0 v3 j (by omega) (by omega)
  have RJ:=Sa.rl
  dsimp only at RJ
  rw [sm hT] at RJ
  refine ⟨_,Bf hT,_,if_pos (by show (T[j]).length<=20;omega),_,if_pos trivial,?_⟩
  rw [List.drop_zero,List.take_length,Au (by omega)]
  have hb:=yS h2 v3 (j:=j+1) (by omega)
  simp only [Tr] at hb
  rw [sm hT] at hb
  have e:(Tr T j:Int)*((Hd T[j]).length:Int)=((Tr T j*(Hd T[j]).length:Nat):Int):=by push_cast;rfl
  show K (IntKind.i64.wrap ((Tr T j:Int)*((Hd T[j]).length:Int)),_,())
  rw [e,Ce (by omega) (by omega)]
  refine hK hl _ rfl ?_
  simp only [Tr]
  rw [sm hT]
 ·have:j=N:=by omega
  subst this
  rfl
theorem tT:Sound Try.prog 155 ct:=
 Sound.Dl iq (Vx dd (Ae Yy Ax)) mixed Try.func155 (by kernel_rfl) (by kernel_rfl) λx h=>GZ x.1 x.2.1 h
theorem Cells.told {w:World} {S:Nat->Prop} {e:Ty} {cs:List Value} {xs:List e.den} (h:Cells w S (.slice e) cs xs): ∃o:Option (List e.den),Cells w S (.oslice e) cs o/\o.getD []=xs:=by
 simp only [Cells] at h
 obtain ⟨a,len,cap,rfl,h1,h2,h3⟩:=h
 cases a with
 |none=>
  rcases h3 with rfl|⟨g,o,h,_⟩
  ·refine ⟨none,?_,rfl⟩
   simp only [Cells]
   exact .inl ⟨trivial,cap,by rw [h1];rfl⟩
  ·cases h
 |some ad=>
  refine ⟨some xs,?_,rfl⟩
  simp only [Cells]
  exact .inr ⟨xs,ad,len,cap,rfl,rfl,h1,h2,h3.imp id λ⟨g,o,h,h4⟩=>⟨g,o,Option.some.inj h,h4⟩⟩
theorem uG {α β:Type} (Q:Nat->α->β->Prop): ∀(xs:List α),(∀i x,xs[i]?=some x-> ∃y,Q i x y)-> ∃ys:List β,ys.length=xs.length/\ ∀i x y,xs[i]?=some x->ys[i]?=some y->Q i x y:=by
 intro xs h
 refine ⟨List.ofFn λi:Fin xs.length=>Classical.choose (h i xs[i] (List.getElem?_eq_getElem i.2)),by simp,λi x y h1 h2=>?_⟩
 obtain ⟨hi,rfl⟩:=List.getElem?_eq_some_iff.1 h1
 obtain ⟨ga,rfl⟩:=List.getElem?_eq_some_iff.1 h2
 rw [List.getElem_ofFn]
 exact Classical.choose_spec (h i xs[i] (List.getElem?_eq_getElem hi))
theorem Aw.TJ {w:World} {S:Nat->Prop} {e:Ty} {v:Value} {xs:List (List e.den)} (h:Aw w S (.slice (.slice e)) v xs): ∃os:List (Option (List e.den)),Aw w S (.slice (.oslice e)) v os/\os.map (·.getD [])=xs:=by
 obtain ⟨cs,hc,rfl⟩:=h
 simp only [Cells] at hc
 obtain ⟨a,len,cap,rfl,h1,h2,h3⟩:=hc
 rcases h3 with rfl|⟨g,o,rfl,hg,hS,h4⟩
 ·refine ⟨[],⟨_,?_,rfl⟩,rfl⟩
  simp only [Cells]
  exact ⟨a,len,cap,rfl,h1,h2, .inl trivial⟩
 ·obtain ⟨os,e1,e2⟩:=uG (λi (x:List e.den) (y:Option (List e.den))=>y.getD []=x/\ ∃es:List Value,es.length=1/\(∀j u,es[j]?=some u->w.cell? ⟨g,o+i*1+j,none⟩=some u)/\Cells w S (.oslice e) es y) xs λi x hx=>by
   obtain ⟨es,k1,k2,k3⟩:=h4 i x hx
   obtain ⟨y,k4,k5⟩:=Cells.told (e:=e) (by simp only [Cells];exact k3)
   exact ⟨y,k5,es,k1,k2,k4⟩
  refine ⟨os,⟨_,?_,rfl⟩,?_⟩
  ·simp only [Cells]
   refine ⟨_,len,cap,rfl,by rw [h1,e1],h2, .inr ⟨g,o,rfl,hg,hS,λi y hy=>?_⟩⟩
   obtain ⟨hi,_⟩:=List.getElem?_eq_some_iff.1 hy
   obtain ⟨_,es,k1,k2,k3⟩:=e2 i _ y (List.getElem?_eq_getElem (by omega)) hy
   simp only [Cells] at k3
   exact ⟨es,k1,k2,k3⟩
  ·refine List.ext_getElem (by simp [e1]) λi g1 g2=>?_
   rw [List.getElem_map]
   exact (e2 i _ _ (List.getElem?_eq_getElem g2) (List.getElem?_eq_getElem (by omega))).1
theorem lM:Du Try.prog 154 Po:=by
 have h:=jz
 refine ⟨h.enter,λw S π us x r o g vs h1 hg h2 h3 hS h4 h5=>?_⟩
 obtain ⟨n,gens,⟨⟩⟩:=x
 match us,h2 with
 |u1::u2::us,h2=>
  obtain ⟨h6,⟨h7,h8⟩,h9⟩:=h2
  obtain ⟨os,iH,cM⟩:=Aw.TJ (e:=tI) h8
  have cM:os.map (·.getD [])=(gens:List (List Int)):=cM
  have dS:(1<=n/\n<=20)/\List.length gens<=4294967296/\ ∀g∈(gens:List (List Int)),Pm n.toNat g:=Classical.byContradiction λhn=>by
   have:Po.fn (n,gens,())=none:=if_neg hn
   rw [this] at h5;cases h5
  have YO:os=gens.map some:=by
   rw [<-cM,List.map_map]
   refine (List.map_id os).symm.trans (List.map_congr_left λx hx=>?_)
   cases x with
   |some y=>rfl
   |none=>
    have:=dS.2.2 [] (by rw [<-cM];exact List.mem_map.2 ⟨none,hx,rfl⟩)
    have h1:=this.n1
    have h2:=this.1
    simp at h2
    omega
  have hv:Po.fn (n,gens,())=some ((n,(Ru n gens).1,(Ru n gens).2,()),()):=if_pos dS
  rw [hv] at h5
  have h5:=Option.some.inj h5
  refine h.calls w S π (u1::u2::us) (n,os,()) r o g vs h1 hg ⟨h6,⟨h7,iH⟩,h9⟩ h3 hS h4 ?_
  refine (if_pos ⟨dS.1,by rw [YO,List.length_map];exact dS.2.1,λy hy=>?pp⟩).trans (congrArg some ?qq)
  case pp=>
   replace hy:y∈os:=hy
   rw [YO] at hy
   obtain ⟨g,hg,rfl⟩:=List.mem_map.1 hy
   exact ⟨g,rfl,dS.2.2 g hg⟩
  case qq=>subst YO;exact h5
theorem eI {p:PP} (hv:Valid p):(1<=p.1/\p.1<=20)/\List.length p.2.2.1<=4294967296/\ ∀g∈p.2.2.1,Pm p.1.toNat g:=
 ⟨hv.n,by have:=hv.kB;omega,λg hg=>⟨by have:=hv.len g hg;omega,gT (hv.perm g hg)⟩⟩
theorem lr {n:Nat} {g:List (List Int)} (h: ∀x∈g,Pm n x):TY n (g.map some):= λo ho=>by
 obtain ⟨x,hx,rfl⟩:=List.mem_map.1 ho
 exact ⟨x,rfl,h x hx⟩
theorem pf {p:PP} (hv:Valid p):V p.1.toNat p.1.toNat 0 (Ru p.1 p.2.2.1):=by
 have:=hv.n
 exact rz (by omega) (by omega) (lr (eI hv).2.2)
theorem qd (p:PP) (h:Cm p):fnW Cy (look [(130,Ef),(154,Po),(155,ct)]) Kx Try.f126 (p,()) (λ(z:Int)=>z=No p):=by
 refine Eq.mp (rf p _) ⟨_,if_pos h,?_⟩
 show Br (!Bc p) _ _
 unfold No
 cases hv:Bc p with
 |false=>exact Br.of (λ_=>rfl) λhh=>by cases hh
 |true=>
  refine Br.of (λhh=>by cases hh) λ_=>?_
  have hV:=valid hv
  have hn:=hV.n
  refine ⟨_,if_pos (eI hV),_,if_pos ⟨rfl,p.1.toNat,⟨by omega,by omega⟩,(Int.toNat_of_nonneg (by omega:(0:Int)<=p.1)).symm,?vv⟩,?_⟩
  case vv=>
   simp only [List.drop_zero,List.take_length]
   exact pf hV
  simp only [List.drop_zero,List.take_length]
  exact (if_pos trivial).symm
theorem ij:Sound Try.prog 126 Kx:=
 Sound.Dl Bz (Ae Xb (Vx lM (Ae tT Ax))) mixed Try.func126 (by kernel_rfl) (by kernel_rfl) λx h=>qd x.1 h
end Go.Proofs.Ytjbdmibbbpdnnaa

namespace Go.Proofs.Ytjbdmibbbpdnnaa
open Go.RowKit
theorem bg {α:Type} [DecidableEq α]: ∀ {l1 l2:List α},l1.Nodup->(∀x∈l1,x∈l2)->l1.length<=l2.length
 | [],_,_,_=>Nat.zero_le _
 |a::l,l2,hn,hs=>by
  obtain ⟨h1,h2⟩:=List.nodup_cons.1 hn
  have ha:=hs a (by simp)
  have:=bg (l1:=l) (l2:=l2.erase a) h2 λy hy=>by
   have ZK:y≠a:= λe'=>h1 (by rw [<-e'];exact hy)
   exact (List.mem_erase_of_ne ZK).2 (hs y (by simp [hy]))
  rw [List.length_erase_of_mem ha] at this
  have:=List.length_pos_of_mem ha
  simp only [List.length_cons]
  omega
def gJ (n:Nat) (T:Cp):Nat->Nat->List (List Int)
 |0,_=> [upto n]
 |k+1,l=>(Hd (T.getD l [])).flatMap λy=>(gJ n T k (l+1)).map λq=>Ac q (((T.getD l []).getD y.toNat none).getD [])
def oB (T:Cp):Nat->Nat->Nat
 |0,_=>1
 |k+1,l=>(Hd (T.getD l [])).length*oB T k (l+1)
theorem sW (n:Nat) (T:Cp): ∀k l,(gJ n T k l).length=oB T k l
 |0,_=>rfl
 |k+1,l=>by
  simp only [gJ,oB,List.length_flatMap,List.length_map,sW n T k (l+1)]
  generalize Hd (T.getD l [])=o
  induction o with
  |nil=>simp
  |cons a o ih=>simp only [List.map_cons,List.sum_cons,ih,List.length_cons,Nat.succ_mul];omega
theorem oo (T:Cp): ∀k j,Tr T (j+k)=Tr T j*oB T k j
 |0,j=>by simp [oB]
 |k+1,j=>by
  have:=oo T k (j+1)
  rw [show j+(k+1)=j+1+k by omega,this]
  simp only [Tr,oB]
  rw [Nat.mul_assoc]
theorem tp (n:Nat) (T:Cp):(gJ n T n 0).length=Tr T n:=by
 rw [sW,show Tr T n=Tr T (0+n) by rw [Nat.zero_add],oo]
 simp [Tr]
theorem l5 {n:Nat} (h1:1<=n) (h2:n<=20) {s:Cp×Cp} : ∀(k l:Nat),l+k=n->dy n k l s-> ∀p,p∈gJ n s.2 k l↔Pm n p/\Fx l p/\Ib s.2 k l p=true
 |0,l,hk,hc,p=>by
  have hl:l=n:=by omega
  subst hl
  simp only [gJ,List.mem_singleton]
  exact ⟨λe=>by subst e;exact ⟨Pm.id h1 h2,λi hi=>eC hi,rfl⟩,λh=>h.2.1.all h.1⟩
 |k+1,l,hk,hc,p=>by
  obtain ⟨c1,c2,c3⟩:=hc
  have ih:=l5 h1 h2 k (l+1) (by omega) c1
  have Zp:l<n:=by omega
  simp only [gJ,List.mem_flatMap,List.mem_map]
  constructor
  ·rintro ⟨y,hy,q,hq,rfl⟩
   obtain ⟨yn,rfl,JM⟩:=Mb.1 hy
   obtain ⟨t,ht⟩:=Option.ne_none_iff_exists'.1 JM
   obtain ⟨t1,t2,t3,t4⟩:=c2.rt _ _ ht
   obtain ⟨q1,q2,q3⟩:=(ih q).1 hq
   rw [Int.toNat_natCast,ht,Option.getD_some]
   have hap:ap (Ac q t) l=yn:=by rw [Fg q1 t1 Zp,q2 l (by omega),t3]
   refine ⟨q1.comp t1,λi hi=>by rw [Fg q1 t1 (by omega),q2 i (by omega),t2 i hi],?_⟩
   simp only [Ib]
   rw [show (Mi (Ac q t) (l:Int)).toNat=ap (Ac q t) l from rfl,hap,ht]
   show Ib s.2 k (l+1) (Ac (Ac q t) (Aj t))=true
   rw [Dn q1 t1 t1.inv,eJ t1,comp_id q1]
   exact q3
  ·rintro ⟨p1,p2,p3⟩
   simp only [Ib] at p3
   rw [show (Mi p (l:Int)).toNat=ap p l from rfl] at p3
   split at p3
   ·cases p3
   ·rename_i t ht
    obtain ⟨t1,t2,t3,t4⟩:=c2.rt _ _ ht
    refine ⟨(ap p l:Int),Mb.2 ⟨ap p l,rfl,by rw [ht];simp⟩,Ac p (Aj t),(ih _).2 ⟨p1.comp t1.inv,Fx.div p1 t1 p2 t2 Zp t3,p3⟩,?_⟩
    rw [Int.toNat_natCast,ht,Option.getD_some,Dn p1 t1.inv t1,Wl t1,comp_id p1]
theorem l6 {n:Nat} (h1:1<=n) (h2:n<=20) {s:Cp×Cp} : ∀(k l:Nat),l+k=n->dy n k l s->(gJ n s.2 k l).Nodup
 |0,l,hk,hc=>by simp [gJ]
 |k+1,l,hk,hc=>by
  obtain ⟨c1,c2,c3⟩:=hc
  have ih:=l6 h1 h2 k (l+1) (by omega) c1
  have hm:=l5 h1 h2 k (l+1) (by omega) c1
  have Zp:l<n:=by omega
  have rep: ∀y∈Hd (s.2.getD l []),∃(yn:Nat) (t:List Int),y=yn/\((s.2.getD l []).getD y.toNat none).getD []=t/\Pm n t/\ap t l=yn:= λy hy=>by
   obtain ⟨yn,rfl,JM⟩:=Mb.1 hy
   obtain ⟨t,ht⟩:=Option.ne_none_iff_exists'.1 JM
   obtain ⟨t1,t2,t3,t4⟩:=c2.rt _ _ ht
   exact ⟨yn,t,rfl,by rw [Int.toNat_natCast,ht];rfl,t1,t3⟩
  simp only [gJ]
  refine List.pairwise_flatMap.2 ⟨λy hy=>?_,?_⟩
  ·obtain ⟨yn,t,rfl,e,t1,t3⟩:=rep y hy
   rw [e]
   refine List.pairwise_map.2 (List.Pairwise.imp_of_mem ?_ ih)
   intro a b ha hb Ev he
   have ha:=((hm a).1 ha).1
   have hb:=((hm b).1 hb).1
   have h3:=congrArg (λz=>Ac z (Aj t)) he
   simp only [Dn ha t1 t1.inv,Dn hb t1 t1.inv,eJ t1,comp_id ha,comp_id hb] at h3
   exact Ev h3
  ·refine List.Pairwise.imp_of_mem ?_ ((ma _).filter _)
   intro y z hy hz Ev a ha b hb he
   obtain ⟨yn,t,rfl,e,t1,t3⟩:=rep y hy
   obtain ⟨zn,u,rfl,e',u1,u3⟩:=rep z hz
   rw [e] at ha
   rw [e'] at hb
   obtain ⟨q,hq,rfl⟩:=List.mem_map.1 ha
   obtain ⟨q',cR,rfl⟩:=List.mem_map.1 hb
   obtain ⟨a1,a2,_⟩:=(hm q).1 hq
   obtain ⟨b1,b2,_⟩:=(hm q').1 cR
   have h3:=congrArg (λz=>ap z l) he
   simp only [Fg a1 t1 Zp,Fg b1 u1 Zp,a2 l (by omega),b2 l (by omega),t3,u3] at h3
   exact Ev (by rw [h3])
theorem gi {g:List (List Int)} (Q:List Int->Prop) {x:List Int} {d:Int} : ∀(ls:List Int) (L:List (List Int)) (D:List Int),(∀l∈ls,Q (Ac x (Ag g l)))->(∀y∈L,Q y)->
  (∀y∈(Gp g x d ls L D).1,Q y)/\(∀y∈L,y∈(Gp g x d ls L D).1)/\((Gp g x d ls L D).2.2=true-> ∀l∈ls,Ac x (Ag g l)∈(Gp g x d ls L D).1)/\
   ((Gp g x d ls L D).2.2=false->(Gp g x d ls L D).1.length=3000/\ ∃z,Q z/\z∉(Gp g x d ls L D).1)
 | [],L,D,_,h=>⟨h,λ_ h=>h,(λ_ l hl=>by cases hl),(λe=>by cases e)⟩
 |l::ls,L,D,hq,h=>by
  have cR: ∀l∈ls,Q (Ac x (Ag g l)):= λl' h'=>hq l' (List.mem_cons_of_mem _ h')
  simp only [Gp]
  split
  ·rename_i hm
   obtain ⟨a1,a2,a3,a4⟩:=gi Q (d:=d) ls L D cR h
   refine ⟨a1,a2,λe l' Ic=>?_,a4⟩
   rcases List.mem_cons.1 Ic with rfl|Ic
   ·exact a2 _ hm
   ·exact a3 e l' Ic
  ·rename_i hn
   split
   ·rename_i hf
    exact ⟨h,λ_ h=>h,(λe=>by cases e),λ_=>⟨hf,_,hq l (by simp),hn⟩⟩
   ·obtain ⟨a1,a2,a3,a4⟩:=gi Q (d:=d) ls (L++ [Ac x (Ag g l)]) (D++ [d+1]) cR λy hy=>by
     rcases List.mem_append.1 hy with hy|hy
     ·exact h y hy
     ·rw [List.mem_singleton.1 hy];exact hq l (by simp)
    refine ⟨a1,λy hy=>a2 y (List.mem_append_left _ hy),λe l' Ic=>?_,a4⟩
    rcases List.mem_cons.1 Ic with rfl|Ic
    ·exact a2 _ (List.mem_append_right _ (by simp))
    ·exact a3 e l' Ic
theorem nI {p:PP} (hV:Valid p) {m:Nat} {ls:List Int} (hl: ∀l∈ls,Gv (List.length p.2.2.1) l) (Q:List Int->Prop) (hQ: ∀x,Q x-> ∀l∈ls,Q (Ac x (Ag p.2.2.1 l))):
  ∀(f k:Nat) (L:List (List Int)) (D:List Int),3001<=f+k->k<=L.length->Rg p m L D->(∀y∈L,Q y)->(∀(j:Nat) (h:j<L.length),j<k-> ∀l∈ls,Ac L[j] (Ag p.2.2.1 l)∈L)->
  (∀y∈(Ia p.2.2.1 ls f k L D).1,Q y)/\((Ia p.2.2.1 ls f k L D).2.2=true-> ∀x∈(Ia p.2.2.1 ls f k L D).1,∀l∈ls,Ac x (Ag p.2.2.1 l)∈(Ia p.2.2.1 ls f k L D).1)/\
   ((Ia p.2.2.1 ls f k L D).2.2=false->(Ia p.2.2.1 ls f k L D).1.length=3000/\ ∃z,Q z/\z∉(Ia p.2.2.1 ls f k L D).1)
 |0,k,L,D,hf,OJ,hb,hq,hc=>by
  have:=hb.ok.kB
  omega
 |f+1,k,L,D,hf,OJ,hb,hq,hc=>by
  simp only [Ia]
  split
  ·rename_i hk
   have yr:k<D.length:=by rw [hb.len];exact hk
   have hd:=hb.dep k yr
   have e:D.getD k 0=D[k]:=by rw [List.getD_eq_getElem?_getD,List.getElem?_eq_getElem yr];rfl
   rw [Nk hk,e]
   obtain ⟨k1,⟨A,k2⟩,_⟩:=eG hV (hb.row _ (List.getElem_mem hk)) (hb.ok.len _ (List.getElem_mem hk)) (d:=D[k]) ls L D hl hb ⟨by omega,by omega⟩
   obtain ⟨a1,a2,a3,a4⟩:=gi (g:=p.2.2.1) Q (x:=L[k]) (d:=D[k]) ls L D (hQ _ (hq _ (List.getElem_mem hk))) hq
   split
   ·rename_i L' D' he
    rw [he] at k1 k2 a1 a2 a3 a4
    have k2:L'=L++A:=k2
    refine nI hV hl Q hQ f (k+1) L' D' (by omega) (by rw [k2,List.length_append];omega) k1 a1 λj hj XX l Ic=>?_
    by_cases e':j<k
    ·have e2:L'[j]=L[j]:=by simp only [k2];rw [List.getElem_append_left (by omega)]
     rw [e2];exact a2 _ (hc j (by omega) e' l Ic)
    ·have:j=k:=by omega
     subst this
     have e2:L'[j]=L[j]:=by simp only [k2];rw [List.getElem_append_left (by omega)]
     rw [e2];exact a3 rfl l Ic
   ·rename_i L' D' he
    rw [he] at a1 a4
    exact ⟨a1,(λe=>by cases e),λ_=>a4 rfl⟩
  ·rename_i hk
   refine ⟨hq,λ_ x hx l Ic=>?_,λe=>by cases e⟩
   obtain ⟨j,hj,rfl⟩:=List.mem_iff_getElem.1 hx
   have hj:j<L.length:=hj
   exact hc j hj (by omega) l Ic
theorem FH {p:PP} (hv:Bc p=true) {s:List Int} (hs:s.length<=20) (hr: ∀y∈s,0<=y/\y<p.1) (Q:List Int->Prop) (hQs:Q s) (hQ: ∀x,Q x-> ∀l∈Bd p.2.2.1.length,Q (Ac x (Ag p.2.2.1 l))):
  (∀y∈(Fo p.2.2.1 s).1,Q y)/\((Fo p.2.2.1 s).2.2=true-> ∀x∈(Fo p.2.2.1 s).1,∀l∈Bd p.2.2.1.length,Ac x (Ag p.2.2.1 l)∈(Fo p.2.2.1 s).1)/\
   ((Fo p.2.2.1 s).2.2=false->(Fo p.2.2.1 s).1.length=3000/\ ∃z,Q z/\z∉(Fo p.2.2.1 s).1):=
 nI (valid hv) (λ_ hl=>Mv hl) Q hQ 3001 0 [s] [0] (by omega) (Nat.zero_le _) (c6 hs hr) (λy hy=>by rw [List.mem_singleton.1 hy];exact hQs) λj _ hj=>absurd hj (Nat.not_lt_zero _)
theorem Wz {g:List (List Int)} {x:List Int} :some x∈g.map some↔x∈g:=by simp
theorem vM {n:Nat} {g:List (List Int)} {x:List Int} (h:Gn n (g.map some) x) {l:Int} (hl:l∈Bd g.length):Gn n (g.map some) (Ac x (Ag g l)):=by
 obtain ⟨k,hk,rfl|rfl⟩:=Sd (Mv hl)
 ·rw [To hk];exact .mul h (Wz.2 (List.getElem_mem hk))
 ·rw [Tn hk];exact .inv h (Wz.2 (List.getElem_mem hk))
theorem iN {n k:Nat} (hk:k<n):(k:Int)+1∈Bd n/\ -((k:Int)+1)∈Bd n:=by
 unfold Bd
 exact ⟨List.mem_flatMap.2 ⟨k,List.mem_range.2 hk,by simp⟩,List.mem_flatMap.2 ⟨k,List.mem_range.2 hk,by simp⟩⟩
theorem ve {n:Nat} {g:List (List Int)} {L:List (List Int)} (h0:upto n∈L) (hc: ∀x∈L,∀l∈Bd g.length,Ac x (Ag g l)∈L) {p:List Int} (hp:Gn n (g.map some) p):p∈L:=by
 induction hp with
 |id=>exact h0
 |mul _ hg ih=>
  obtain ⟨k,hk,rfl⟩:=List.mem_iff_getElem.1 (Wz.1 hg)
  have:=hc _ ih _ (iN hk).1
  rwa [To hk] at this
 |inv _ hg ih=>
  obtain ⟨k,hk,rfl⟩:=List.mem_iff_getElem.1 (Wz.1 hg)
  have:=hc _ ih _ (iN hk).2
  rwa [Tn hk] at this
structure Reach (p:PP) (L:List (List Int)) (D:List Int) (whole:Bool):Prop where
 ok:Rg p p.1.toNat L D
 nodup:L.Nodup
 first: ∃A,L=upto p.1.toNat::A
 gen: ∀x∈L,Gn p.1.toNat (p.2.2.1.map some) x
 all:whole=true-> ∀x,Gn p.1.toNat (p.2.2.1.map some) x->x∈L
 big:whole=false->L.length=3000/\ ∃z,Gn p.1.toNat (p.2.2.1.map some) z/\z∉L
theorem Cq.nodup {m:Nat} {L:List (List Int)} {Ha:List Int} (h:Cq m L Ha):L.Nodup:=
 List.pairwise_iff_getElem.2 λi j hi hj dR e=>by have:=h.inj hi hj e;omega
theorem br {p:PP} (hv:Bc p=true):Reach p (Fo p.2.2.1 (upto p.1.toNat)).1 (Fo p.2.2.1 (upto p.1.toNat)).2.1 (Fo p.2.2.1 (upto p.1.toNat)).2.2:=by
 have hV:=valid hv
 have hn:=hV.n
 have hl:(upto p.1.toNat).length=p.1.toNat:=Tz _
 have hr: ∀y∈upto p.1.toNat,0<=y/\y<p.1:= λy hy=>by have:=Jk.1 hy;omega
 obtain ⟨b1,b2⟩:=KE hv (by omega) hr
 rw [hl] at b1
 obtain ⟨a1,a2,a3⟩:=FH hv (by omega) hr (λx=>Gn p.1.toNat (p.2.2.1.map some) x) .id λx hx l hl=>vM hx hl
 exact ⟨b1,b1.ok.nodup,b2,a1,λhw x hx=>ve (by obtain ⟨A,e⟩:=b2;rw [e];simp) (a2 hw) hx,a3⟩
theorem Uq {p:PP} (hV:Valid p) {x:List Int} :x∈gJ p.1.toNat (Ru p.1 p.2.2.1).2 p.1.toNat 0↔Gn p.1.toNat (p.2.2.1.map some) x:=by
 have hn:=hV.n
 have hg:=lr (eI hV).2.2
 have hS:x9 p.1.toNat λg=>some g∈p.2.2.1.map some:=⟨⟨by omega,by omega⟩,λg Xg=>by obtain ⟨g',e,h⟩:=hg _ Xg;cases e;exact h⟩
 refine (l5 (by omega) (by omega) _ 0 (by omega) (pf hV).2.2.1 x).trans ⟨λh=>(kI (by omega) (by omega) hg h.1).1 h.2.2,λh=>?_⟩
 have hp:=Vq.pm hS h
 exact ⟨hp,λi hi=>absurd hi (Nat.not_lt_zero _),(kI (by omega) (by omega) hg hp).2 h⟩
theorem mP {p:PP} (hV:Valid p):(gJ p.1.toNat (Ru p.1 p.2.2.1).2 p.1.toNat 0).Nodup:=by
 have hn:=hV.n
 exact l6 (by omega) (by omega) _ 0 (by omega) (pf hV).2.2.1
theorem count_eq {p:PP} (hv:Bc p=true):No p=((gJ p.1.toNat (Ru p.1 p.2.2.1).2 p.1.toNat 0).length:Int):=by
 unfold No
 rw [if_pos hv,tp]
theorem rX {p:PP} (hv:Bc p=true):(Fo p.2.2.1 (upto p.1.toNat)).2.2=decide (1<=No p/\No p<=3000):=by
 have hV:=valid hv
 have h:=br hv
 rw [count_eq hv]
 have zS:=mP hV
 have h1:=bg h.nodup λx hx=>(Uq hV).2 (h.gen x hx)
 obtain ⟨A,hA⟩:=h.first
 have vz:1<=(Fo p.2.2.1 (upto p.1.toNat)).1.length:=by rw [hA];simp
 cases hw:(Fo p.2.2.1 (upto p.1.toNat)).2.2 with
 |true=>
  have h2:=bg zS λx hx=>h.all hw x ((Uq hV).1 hx)
  have h3:=h.ok.ok.kB
  exact (decide_eq_true ⟨by omega,by omega⟩).symm
 |false=>
  obtain ⟨h2,z,h3,h4⟩:=h.big hw
  have h5:=bg (l1:=z::(Fo p.2.2.1 (upto p.1.toNat)).1) (List.nodup_cons.2 ⟨h4,h.nodup⟩) λx hx=>by
   rcases List.mem_cons.1 hx with rfl|hx
   ·exact (Uq hV).2 h3
   ·exact (Uq hV).2 (h.gen x hx)
  simp only [List.length_cons] at h5
  exact (decide_eq_false (by omega)).symm
end Go.Proofs.Ytjbdmibbbpdnnaa

namespace Go.Proofs.Ytjbdmibbbpdnnaa
open Go.RowKit
def pW (g:List (List Int)) (s:List Int):List (List Int):=(Bd g.length).map λl=>Ac s (Ag g l)
noncomputable abbrev cr:Spec:=Dl (.pair Ck (.pair tL .unit)) jC false true (λx=>Bc x.1=true/\List.length x.2.1<=20/\ ∀y∈x.2.1,0<=y/\y<x.1.1) (λx=>pW x.1.2.2.1 x.2.1)
abbrev EX:Type:=List (List Int)×List Int×List Int×List Int
def kz (g:List (List Int)) (k:Int) (x:List Int) (d:Int):List Int->EX->List Int->EX×List Int
 | [],s,row=>(s,row)
 |l::ls,s,row=>if Ac x (Ag g l)∈s.1 then kz g k x d ls s (row++ [(s.1.idxOf (Ac x (Ag g l)):Int)])
  else kz g k x d ls (s.1++ [Ac x (Ag g l)],s.2.1++ [d+1],s.2.2.1++ [k],s.2.2.2++ [l]) (row++ [(s.1.length:Int)])
def mA (g:List (List Int)) (ls:List Int):Nat->Nat->EX->List (List Int)->EX×List (List Int)
 |0,_,s,N=>(s,N)
 |f+1,k,s,N=>if k<s.1.length then mA g ls f (k+1) (kz g (k:Int) (s.1.getD k []) (s.2.1.getD k 0) ls s []).1 (N++ [(kz g (k:Int) (s.1.getD k []) (s.2.1.getD k 0) ls s []).2]) else (s,N)
def ba (key:ByteArray):List (List Int)->Nat->Option Int
 | [],_=>none
 |x::r,i=>if Lc x=key then some (i:Int) else ba key r (i+1)
def Qb (L:List (List Int)):ByteArray->Option Int:= λkey=>ba key L 0
def PF (p:PP) (r:EX×List (List Int)):j9.den:=(p,r.1.1,r.1.2.1,Qb r.1.1,r.1.2.2.1,r.1.2.2.2,r.2,())
def Kk (p:PP):j9.den:=PF p (mA p.2.2.1 (Bd p.2.2.1.length) 3001 0 ([upto p.1.toNat],[0],[0],[0]) [])
noncomputable def Fw (p:PP):Bool:=Bc p&&(Fo p.2.2.1 (upto p.1.toNat)).2.2
noncomputable abbrev Js:Spec:=Dl (.pair Ck .unit) (.pair (.optr j9) (.pair .bool .unit)) true false (λx=>Cm x.1) (λx=>if Fw x.1=true then (some (Kk x.1),true,()) else (none,false,()))
abbrev u5:Type:=Int×Int×ByteArray×List (List Int)×List (List Int)×PUnit
theorem HV (p:Int×ByteArray×List (List Int)×Unit) (s:List Int) (P:List (List Int)->Prop):(∃(y3:List Int),Kw.fn ((↑p.2.2.1.length:Int),())=some y3/\0=0/\0=([]:List Int).length/\Co (λ(v4:u5) (k5:u5->Prop)=>Br (decide (v4.1<(↑y3.length:Int))) (∃(y6:Int),idx y3 v4.1=some y6/\ ∃(y7:List Int),Pn.fn (v4.2.2.2.1,y6,())=some y7/\ ∃(y8:List Int),Sn.fn (s,y7,())=some y8/\0=0/\v4.2.2.2.2.1.length=v4.2.2.2.2.1.length/\v4.2.2.2.2.1.length+(List.take 1 (List.drop 0 [y8])).length<=Bs/\0=0/\(v4.2.2.2.2.1++List.take 1 (List.drop 0 [y8])).length=(v4.2.2.2.2.1++List.take 1 (List.drop 0 [y8])).length/\k5 (IntKind.i64.wrap (v4.1+(1:Int)),v4.2.1,v4.2.2.1,v4.2.2.2.1,v4.2.2.2.2.1++List.take 1 (List.drop 0 [y8]),())) (P (List.take v4.2.2.2.2.1.length (List.drop 0 v4.2.2.2.2.1)))) ((0:Int),p.1,p.2.1,p.2.2.1,[],PUnit.unit))=fnW Cy (look [(117,Kw),(157,Pn),(156,Sn)]) cr Try.f129 (p,s,()) P:=by kernel_rfl
theorem GY (p:PP) (s:List Int) (h:Bc p=true/\s.length<=20/\ ∀y∈s,0<=y/\y<p.1):fnW Cy (look [(117,Kw),(157,Pn),(156,Sn)]) cr Try.f129 (p,s,()) (λ(z:List (List Int))=>z=pW p.2.2.1 s):=by
 obtain ⟨hv,hs,hr⟩:=h
 have hV:=valid hv
 have hf:=hV.kB
 refine Eq.mp (HV p s _) ⟨Bd p.2.2.1.length,if_pos ⟨Int.natCast_nonneg _,by show ((p.2.2.1.length:Nat):Int)<=8;omega⟩,rfl,rfl,?_⟩
 have hL:=Lw p.2.2.1.length
 refine Ba (Bd p.2.2.1.length).length (λv=>v.1) (λj v=>v=((j:Int),p.1,p.2.1,p.2.2.1,((Bd p.2.2.1.length).take j).map (λl=>Ac s (Ag p.2.2.1 l)),())) rfl (by simp) ?_
 rintro j v K hj hi rfl hK
 dsimp only
 refine Br.dec (λhl=>?_) λhl=>?_
 ·have hl:j<(Bd p.2.2.1.length).length:=by omega
  have QO:=Mv (List.getElem_mem hl)
  obtain ⟨h1,h2⟩:=gF hV QO
  refine ⟨_,Bf hl,_,if_pos ⟨QO,hf.2,hV.perm⟩,_,if_pos ⟨hs,λy hy=>by have:=hr y hy;show 0<=y/\y<((Ag p.2.2.1 (Bd p.2.2.1.length)[j]).length:Int);omega⟩,rfl,rfl,?_,rfl,rfl,?_⟩
  ·show (((Bd p.2.2.1.length).take j).map _).length+1<=4294967296
   rw [List.length_map,List.length_take]
   omega
  ·rw [Au (by omega)]
   refine hK hl _ rfl ?_
   have e:(Bd p.2.2.1.length).take (j+1)=(Bd p.2.2.1.length).take j++ [(Bd p.2.2.1.length)[j]]:=by
    rw [List.take_add_one,List.getElem?_eq_getElem hl,Option.toList_some]
   rw [e,List.map_append]
   rfl
 ·have:j=(Bd p.2.2.1.length).length:=by omega
  subst this
  rw [List.drop_zero,List.take_length,List.take_length]
  rfl
theorem tS:Sound Try.prog 129 cr:=
 Sound.Dl Bz (Ae dc (Ae lL (Ae Nz Ax))) mixed Try.func129 (by kernel_rfl) (by kernel_rfl) λx h=>GY x.1 x.2.1 h
end Go.Proofs.Ytjbdmibbbpdnnaa

namespace Go.Proofs.Ytjbdmibbbpdnnaa
open Go.RowKit
theorem ca {α:Type} {xs ys:List α} {i:Nat} {d:α} (h:i<xs.length):(xs++ys).getD i d=xs.getD i d:=by
 rw [List.getD_eq_getElem?_getD,List.getD_eq_getElem?_getD,List.getElem?_append_left h]
theorem nS {α:Type} {xs:List α} {x d:α} :(xs++ [x]).getD xs.length d=x:=by
 rw [List.getD_eq_getElem?_getD,List.getElem?_append_right (Nat.le_refl _),Nat.sub_self];rfl
theorem Xz {α:Type} {xs:List α} {i:Nat} {d:α} (h:i<xs.length):xs.getD i d=xs[i]:=by
 rw [List.getD_eq_getElem?_getD,List.getElem?_eq_getElem h];rfl
structure Lv (g:List (List Int)) (ls:List Int) (k:Nat) (L:List (List Int)) (D:List Int):Prop where
 len:D.length=L.length
 pos:0<L.length
 mono: ∀i j,i<=j->j<L.length->D.getD i 0<=D.getD j 0
 MN:k<L.length-> ∀j,j<L.length->D.getD j 0<=D.getD k 0+1
 par: ∀j,0<j->j<L.length-> ∃i l,i<j/\l∈ls/\L.getD j []=Ac (L.getD i []) (Ag g l)/\D.getD j 0=D.getD i 0+1
 zero:D.getD 0 0=0
theorem Lv.add {g:List (List Int)} {ls:List Int} {k:Nat} {L:List (List Int)} {D:List Int} (h:Lv g ls k L D) (hk:k<L.length) {l:Int} (hl:l∈ls):
  Lv g ls k (L++ [Ac (L.getD k []) (Ag g l)]) (D++ [D.getD k 0+1]):=by
 have hlen:=h.len
 have hD: ∀i,i<L.length->(D++ [D.getD k 0+1]).getD i 0=D.getD i 0:= λi hi=>ca (by omega)
 have II:(D++ [D.getD k 0+1]).getD L.length 0=D.getD k 0+1:=by rw [<-hlen];exact nS
 refine ⟨by simp [hlen],by simp,λi j dR hj=>?_,λ_ j hj=>?_,λj h0 hj=>?_,?_⟩
 ·rw [List.length_append,List.length_singleton] at hj
  by_cases e:j=L.length
  ·subst e
   rw [II]
   by_cases e':i=L.length
   ·subst e';rw [II];exact Int.le_refl _
   ·rw [hD i (by omega)]
    exact h.MN hk i (by omega)
  ·rw [hD i (by omega),hD j (by omega)]
   exact h.mono i j dR (by omega)
 ·rw [List.length_append,List.length_singleton] at hj
  rw [hD k hk]
  by_cases e:j=L.length
  ·subst e;rw [II];exact Int.le_refl _
  ·rw [hD j (by omega)];exact h.MN hk j (by omega)
 ·rw [List.length_append,List.length_singleton] at hj
  by_cases e:j=L.length
  ·subst e
   exact ⟨k,l,hk,hl,by rw [nS,ca hk],by rw [II,hD k hk]⟩
  ·obtain ⟨i,l',h1,h2,h3,h4⟩:=h.par j h0 (by omega)
   exact ⟨i,l',h1,h2,by rw [ca (by omega),ca (by omega)];exact h3,by rw [hD j (by omega),hD i (by omega)];exact h4⟩
 ·rw [hD 0 h.pos];exact h.zero
structure Sw (g:List (List Int)) (ls:List Int) (L:List (List Int)) (S:List Int->Prop) (d:List Int->Int):Prop where
 nn: ∀x∈L,0<=d x
 zero: ∀x∈L,d x=0↔S x
 step: ∀x∈L,∀l∈ls,d (Ac x (Ag g l))<=d x+1
 down: ∀x∈L,0<d x-> ∃l∈ls,d (Ac x (Ag g l))=d x-1
structure uC (g:List (List Int)) (ls:List Int) (L:List (List Int)):Prop where
 next: ∀x∈L,∀l∈ls,Ac x (Ag g l)∈L
 back: ∀x∈L,∀l∈ls,-l∈ls/\Ac (Ac x (Ag g l)) (Ag g (-l))=x
theorem Sw.le {g:List (List Int)} {ls:List Int} {L:List (List Int)} {S:List Int->Prop} {d d':List Int->Int} (hc:uC g ls L) (h:Sw g ls L S d) (h':Sw g ls L S d'):
  ∀(n:Nat) (x:List Int),x∈L->d' x=n->d x<=n
 |0,x,hx,e=>by
  have:=(h.zero x hx).2 ((h'.zero x hx).1 e)
  omega
 |n+1,x,hx,e=>by
  obtain ⟨l,hl,hd⟩:=h'.down x hx (by omega)
  obtain ⟨b1,b2⟩:=hc.back x hx l hl
  have h1:=Sw.le hc h h' n _ (hc.next x hx l hl) (by omega)
  have h2:=h.step _ (hc.next x hx l hl) _ b1
  rw [b2] at h2
  omega
theorem Sw.eq {g:List (List Int)} {ls:List Int} {L:List (List Int)} {S:List Int->Prop} {d d':List Int->Int} (hc:uC g ls L) (h:Sw g ls L S d) (h':Sw g ls L S d') {x:List Int} (hx:x∈L):d x=d' x:=by
 have n1:=h.nn x hx
 have n2:=h'.nn x hx
 have h1:=Sw.le hc h h' (d' x).toNat x hx (by omega)
 have h2:=Sw.le hc h' h (d x).toNat x hx (by omega)
 omega
theorem Sw.MN {g:List (List Int)} {ls:List Int} {L:List (List Int)} {S:List Int->Prop} {d:List Int->Int} (hc:uC g ls L) (h:Sw g ls L S d) {x:List Int} (hx:x∈L) {l:Int} (hl:l∈ls):
  d x-1<=d (Ac x (Ag g l)):=by
 obtain ⟨b1,b2⟩:=hc.back x hx l hl
 have h2:=h.step _ (hc.next x hx l hl) _ b1
 rw [b2] at h2
 omega
end Go.Proofs.Ytjbdmibbbpdnnaa

namespace Go.Proofs.Ytjbdmibbbpdnnaa
open Go.RowKit
abbrev m5:Type:=Int×Int×ByteArray×List (List Int)×List Int×List (List Int)×List Int×(ByteArray->Option Int)×List Int×List Int×Int×ByteArray×List (List Int)×List (List Int)×PUnit
abbrev m6:Type:=Int×Int×ByteArray×List (List Int)×List (List Int)×List Int×(ByteArray->Option Int)×List Int×List Int×Int×ByteArray×List (List Int)×List (List Int)×PUnit
abbrev Yd:List (Nat×Nat):= [(0,1),(0,1),(0,1),(0,1),(0,1),(0,1),(0,1),(0,1),(0,1),(0,1),(0,1),(0,1),(0,0)]
abbrev Cx (p:Int×ByteArray×List (List Int)×Unit) (y4:List Int) (y2:Int) (y3:Bool) (y6:ByteArray) (y5:ByteArray):Prop:=Yd=Yd/\(p,false,y4,p.1,p.2.1,p.2.2.1,y2,y3,!y3,p.1,y4,p.1,p.2.1,p.2.2.1,y4,y4,y6,p.1,p.2.1,p.2.2.1,p.1,p.2.1,p.2.2.1,[y4],[(0:Int)],Zf (λ(_:ByteArray)=>none) y6 (0:Int),[(0:Int)],[(0:Int)],p.1,p.2.1,p.2.2.1,([]:List (List Int)),())=(p,false,y4,p.1,p.2.1,p.2.2.1,y2,y3,!y3,p.1,y4,p.1,p.2.1,p.2.2.1,y4,y4,y5,p.1,p.2.1,p.2.2.1,p.1,p.2.1,p.2.2.1,[y4],[(0:Int)],Zf (λ(_:ByteArray)=>none) y5 (0:Int),[(0:Int)],[(0:Int)],p.1,p.2.1,p.2.2.1,([]:List (List Int)),PUnit.unit)
theorem zC (p:Int×ByteArray×List (List Int)×Unit) (P:(Option (PP×List (List Int)×List Int×(ByteArray->Option Int)×List Int×List Int×List (List Int)×Unit)×Bool×Unit)->Prop):(∃(y2:Int),Kx.fn ((p.1,p.2.1,p.2.2.1,()),())=some y2/\ ∃(y3:Bool),Bi.fn (y2,(1:Int),(3000:Int),())=some y3/\Br (!y3) (P (none,false,())) (∃(y4:List Int),My.fn (p.1,())=some y4/\ ∃(y5:ByteArray),Dy.fn (y4,())=some y5/\(∃(y6:List Int),Kw.fn ((↑p.2.2.1.length:Int),())=some y6/\0=0/\1= [y4].length/\0=0/\1= [(0:Int)].length/\0=0/\1= [(0:Int)].length/\0=0/\1= [(0:Int)].length/\0=0/\0=([]:List Int).length/\Co (λ(v7:m6) (k8:m6->Prop)=>Br (decide (v7.1<(↑v7.2.2.2.2.1.length:Int))) (((0:Int)<=v7.1/\v7.1<(↑v7.2.2.2.2.1.length:Int))/\ ∃(y9:List Int),v7.2.2.2.2.1[0+v7.1.toNat]?=some y9/\ ∃(zL:List (List Int)),cr.fn ((v7.2.1,v7.2.2.1,v7.2.2.2.1,()),y9,())=some zL/\0=0/\0=([]:List Int).length/\0=0/\v7.2.2.2.2.1.length=v7.2.2.2.2.1.length/\0=0/\v7.2.2.2.2.2.1.length=v7.2.2.2.2.2.1.length/\0=0/\v7.2.2.2.2.2.2.2.1.length=v7.2.2.2.2.2.2.2.1.length/\0=0/\v7.2.2.2.2.2.2.2.2.1.length=v7.2.2.2.2.2.2.2.2.1.length/\0=0/\v7.2.2.2.2.2.2.2.2.2.2.2.2.1.length=v7.2.2.2.2.2.2.2.2.2.2.2.2.1.length/\Co (λ(v11:m5) (SL:m5->Prop)=>Br (decide (v11.1<(↑zL.length:Int))) (∃(x5:List Int),idx zL v11.1=some x5/\ ∃(bY:ByteArray),Dy.fn (x5,())=some bY/\Br (!(v11.2.2.2.2.2.2.2.1 bY).isSome) (∃(jg:Int),Sf.fn (List.take v11.2.2.2.2.2.1.length (List.drop 0 v11.2.2.2.2.2.1),())=some jg/\0=0/\v11.2.2.2.2.2.1.length=v11.2.2.2.2.2.1.length/\v11.2.2.2.2.2.1.length+(List.take 1 (List.drop 0 [x5])).length<=Bs/\((0:Int)<=v7.1/\v7.1<(↑v11.2.2.2.2.2.2.1.length:Int))/\ ∃(zX:Int),v11.2.2.2.2.2.2.1[0+v7.1.toNat]?=some zX/\0=0/\v11.2.2.2.2.2.2.1.length=v11.2.2.2.2.2.2.1.length/\v11.2.2.2.2.2.2.1.length+ [IntKind.i64.wrap (zX+(1:Int))].length<=Bs/\0=0/\v11.2.2.2.2.2.2.2.2.1.length=v11.2.2.2.2.2.2.2.2.1.length/\v11.2.2.2.2.2.2.2.2.1.length+(List.take 1 (List.drop 0 [v7.1])).length<=Bs/\ ∃(EO:Int),idx y6 v11.1=some EO/\0=0/\v11.2.2.2.2.2.2.2.2.2.1.length=v11.2.2.2.2.2.2.2.2.2.1.length/\v11.2.2.2.2.2.2.2.2.2.1.length+ [EO].length<=Bs/\0=0/\v11.2.2.2.2.1.length=v11.2.2.2.2.1.length/\v11.2.2.2.2.1.length+(List.take 1 (List.drop 0 [jg])).length<=Bs/\0=0/\(v11.2.2.2.2.1++List.take 1 (List.drop 0 [jg])).length=(v11.2.2.2.2.1++List.take 1 (List.drop 0 [jg])).length/\0=0/\(v11.2.2.2.2.2.1++List.take 1 (List.drop 0 [x5])).length=(v11.2.2.2.2.2.1++List.take 1 (List.drop 0 [x5])).length/\0=0/\(v11.2.2.2.2.2.2.1++ [IntKind.i64.wrap (zX+(1:Int))]).length=(v11.2.2.2.2.2.2.1++ [IntKind.i64.wrap (zX+(1:Int))]).length/\0=0/\(v11.2.2.2.2.2.2.2.2.1++List.take 1 (List.drop 0 [v7.1])).length=(v11.2.2.2.2.2.2.2.2.1++List.take 1 (List.drop 0 [v7.1])).length/\0=0/\(v11.2.2.2.2.2.2.2.2.2.1++ [EO]).length=(v11.2.2.2.2.2.2.2.2.2.1++ [EO]).length/\0=0/\v11.2.2.2.2.2.2.2.2.2.2.2.2.2.1.length=v11.2.2.2.2.2.2.2.2.2.2.2.2.2.1.length/\SL (IntKind.i64.wrap (v11.1+(1:Int)),v11.2.1,v11.2.2.1,v11.2.2.2.1,v11.2.2.2.2.1++List.take 1 (List.drop 0 [jg]),v11.2.2.2.2.2.1++List.take 1 (List.drop 0 [x5]),v11.2.2.2.2.2.2.1++ [IntKind.i64.wrap (zX+(1:Int))],Zf v11.2.2.2.2.2.2.2.1 bY jg,v11.2.2.2.2.2.2.2.2.1++List.take 1 (List.drop 0 [v7.1]),v11.2.2.2.2.2.2.2.2.2.1++ [EO],v11.2.2.2.2.2.2.2.2.2.2.1,v11.2.2.2.2.2.2.2.2.2.2.2.1,v11.2.2.2.2.2.2.2.2.2.2.2.2.1,v11.2.2.2.2.2.2.2.2.2.2.2.2.2.1,())) (0=0/\v11.2.2.2.2.1.length=v11.2.2.2.2.1.length/\v11.2.2.2.2.1.length+(List.take 1 (List.drop 0 [(v11.2.2.2.2.2.2.2.1 bY).getD (Int.ofNat (nat_lit 0))])).length<=Bs/\0=0/\(v11.2.2.2.2.1++List.take 1 (List.drop 0 [(v11.2.2.2.2.2.2.2.1 bY).getD (Int.ofNat (nat_lit 0))])).length=(v11.2.2.2.2.1++List.take 1 (List.drop 0 [(v11.2.2.2.2.2.2.2.1 bY).getD (Int.ofNat (nat_lit 0))])).length/\0=0/\v11.2.2.2.2.2.1.length=v11.2.2.2.2.2.1.length/\0=0/\v11.2.2.2.2.2.2.1.length=v11.2.2.2.2.2.2.1.length/\0=0/\v11.2.2.2.2.2.2.2.2.1.length=v11.2.2.2.2.2.2.2.2.1.length/\0=0/\v11.2.2.2.2.2.2.2.2.2.1.length=v11.2.2.2.2.2.2.2.2.2.1.length/\0=0/\v11.2.2.2.2.2.2.2.2.2.2.2.2.2.1.length=v11.2.2.2.2.2.2.2.2.2.2.2.2.2.1.length/\SL (IntKind.i64.wrap (v11.1+(1:Int)),v11.2.1,v11.2.2.1,v11.2.2.2.1,v11.2.2.2.2.1++List.take 1 (List.drop 0 [(v11.2.2.2.2.2.2.2.1 bY).getD (Int.ofNat (nat_lit 0))]),v11.2.2.2.2.2.1,v11.2.2.2.2.2.2.1,v11.2.2.2.2.2.2.2.1,v11.2.2.2.2.2.2.2.2.1,v11.2.2.2.2.2.2.2.2.2.1,v11.2.2.2.2.2.2.2.2.2.2.1,v11.2.2.2.2.2.2.2.2.2.2.2.1,v11.2.2.2.2.2.2.2.2.2.2.2.2.1,v11.2.2.2.2.2.2.2.2.2.2.2.2.2.1,()))) (0=0/\v11.2.2.2.2.2.2.2.2.2.2.2.2.2.1.length=v11.2.2.2.2.2.2.2.2.2.2.2.2.2.1.length/\v11.2.2.2.2.2.2.2.2.2.2.2.2.2.1.length+(List.take 1 (List.drop 0 [List.take v11.2.2.2.2.1.length (List.drop 0 v11.2.2.2.2.1)])).length<=Bs/\0=0/\v11.2.2.2.2.2.1.length=v11.2.2.2.2.2.1.length/\0=0/\v11.2.2.2.2.2.2.1.length=v11.2.2.2.2.2.2.1.length/\0=0/\v11.2.2.2.2.2.2.2.2.1.length=v11.2.2.2.2.2.2.2.2.1.length/\0=0/\v11.2.2.2.2.2.2.2.2.2.1.length=v11.2.2.2.2.2.2.2.2.2.1.length/\0=0/\(v11.2.2.2.2.2.2.2.2.2.2.2.2.2.1++List.take 1 (List.drop 0 [List.take v11.2.2.2.2.1.length (List.drop 0 v11.2.2.2.2.1)])).length=(v11.2.2.2.2.2.2.2.2.2.2.2.2.2.1++List.take 1 (List.drop 0 [List.take v11.2.2.2.2.1.length (List.drop 0 v11.2.2.2.2.1)])).length/\k8 (IntKind.i64.wrap (v7.1+(1:Int)),v11.2.1,v11.2.2.1,v11.2.2.2.1,v11.2.2.2.2.2.1,v11.2.2.2.2.2.2.1,v11.2.2.2.2.2.2.2.1,v11.2.2.2.2.2.2.2.2.1,v11.2.2.2.2.2.2.2.2.2.1,v11.2.2.2.2.2.2.2.2.2.2.1,v11.2.2.2.2.2.2.2.2.2.2.2.1,v11.2.2.2.2.2.2.2.2.2.2.2.2.1,v11.2.2.2.2.2.2.2.2.2.2.2.2.2.1++List.take 1 (List.drop 0 [List.take v11.2.2.2.2.1.length (List.drop 0 v11.2.2.2.2.1)]),()))) ((0:Int),v7.2.1,v7.2.2.1,v7.2.2.2.1,[],v7.2.2.2.2.1,v7.2.2.2.2.2.1,v7.2.2.2.2.2.2.1,v7.2.2.2.2.2.2.2.1,v7.2.2.2.2.2.2.2.2.1,v7.2.2.2.2.2.2.2.2.2.1,v7.2.2.2.2.2.2.2.2.2.2.1,v7.2.2.2.2.2.2.2.2.2.2.2.1,v7.2.2.2.2.2.2.2.2.2.2.2.2.1,PUnit.unit)) (P (some ((v7.2.2.2.2.2.2.2.2.2.1,v7.2.2.2.2.2.2.2.2.2.2.1,v7.2.2.2.2.2.2.2.2.2.2.2.1,()),List.take v7.2.2.2.2.1.length (List.drop 0 v7.2.2.2.2.1),List.take v7.2.2.2.2.2.1.length (List.drop 0 v7.2.2.2.2.2.1),v7.2.2.2.2.2.2.1,List.take v7.2.2.2.2.2.2.2.1.length (List.drop 0 v7.2.2.2.2.2.2.2.1),List.take v7.2.2.2.2.2.2.2.2.1.length (List.drop 0 v7.2.2.2.2.2.2.2.2.1),List.take v7.2.2.2.2.2.2.2.2.2.2.2.2.1.length (List.drop 0 v7.2.2.2.2.2.2.2.2.2.2.2.2.1),()),true,()))) ((0:Int),p.1,p.2.1,p.2.2.1,[y4],[(0:Int)],Zf (λ(_:ByteArray)=>none) y5 (0:Int),[(0:Int)],[(0:Int)],p.1,p.2.1,p.2.2.1,([]:List (List Int)),PUnit.unit))/\((∃(y6:ByteArray),Dy.fn (y4,())=some y6/\(Cx p y4 y2 y3 y6 y5))/\ ∃(y6:ByteArray),Dy.fn (y4,())=some y6/\((Cx p y4 y2 y3 y6 y5))/\((Cx p y4 y2 y3 y6 y5))/\(Cx p y4 y2 y3 y6 y5))/\((∃(y6:ByteArray),Dy.fn (y4,())=some y6/\(Cx p y4 y2 y3 y6 y5))/\ ∃(y6:ByteArray),Dy.fn (y4,())=some y6/\((Cx p y4 y2 y3 y6 y5))/\((Cx p y4 y2 y3 y6 y5))/\(Cx p y4 y2 y3 y6 y5))/\ ∃(y6:ByteArray),Dy.fn (y4,())=some y6/\(((Cx p y4 y2 y3 y6 y5))/\((Cx p y4 y2 y3 y6 y5))/\(Cx p y4 y2 y3 y6 y5))/\(((Cx p y4 y2 y3 y6 y5))/\((Cx p y4 y2 y3 y6 y5))/\(Cx p y4 y2 y3 y6 y5))/\(((Cx p y4 y2 y3 y6 y5))/\(Cx p y4 y2 y3 y6 y5))/\(((Cx p y4 y2 y3 y6 y5))/\(Cx p y4 y2 y3 y6 y5))/\((Cx p y4 y2 y3 y6 y5))/\Yd=Yd/\(p,false,y4,p.1,p.2.1,p.2.2.1,y2,y3,!y3,p.1,y4,p.1,p.2.1,p.2.2.1,y4,y4,y6,p.1,p.2.1,p.2.2.1,p.1,p.2.1,p.2.2.1,[y4],[(0:Int)],Zf (λ(_:ByteArray)=>none) y6 (0:Int),[(0:Int)],[(0:Int)],p.1,p.2.1,p.2.2.1,([]:List (List Int)),())=(p,false,y4,p.1,p.2.1,p.2.2.1,y2,y3,!y3,p.1,y4,p.1,p.2.1,p.2.2.1,y4,y4,y5,p.1,p.2.1,p.2.2.1,p.1,p.2.1,p.2.2.1,[y4],[(0:Int)],Zf (λ(_:ByteArray)=>none) y5 (0:Int),[(0:Int)],[(0:Int)],p.1,p.2.1,p.2.2.1,[],PUnit.unit)))=fnW Cy (look [(126,Kx),(97,Bi),(127,My),(128,Dy),(117,Kw),(129,cr),(58,Sf)]) Js Try.f80 (p,()) P:=by kernel_rfl
theorem kA {g:List (List Int)} {k:Int} {x:List Int} {d:Int} : ∀(ls:List Int) (s:EX) (row:List Int) (L':List (List Int)) (D':List Int),Gp g x d ls s.1 s.2.1=(L',D',true)->
  (kz g k x d ls s row).1.1=L'/\(kz g k x d ls s row).1.2.1=D'
 | [],s,row,L',D',h=>by
  simp only [Gp,Prod.mk.injEq] at h
  exact ⟨h.1,h.2.1⟩
 |l::ls,s,row,L',D',h=>by
  simp only [Gp] at h
  simp only [kz]
  by_cases hm:Ac x (Ag g l)∈s.1
  ·rw [if_pos hm] at h
   rw [if_pos hm]
   exact kA ls s _ L' D' h
  ·rw [if_neg hm] at h
   rw [if_neg hm]
   by_cases hf:s.1.length=3000
   ·rw [if_pos hf] at h
    simp at h
   ·rw [if_neg hf] at h
    exact kA ls _ _ L' D' h
theorem s8 {g:List (List Int)} {ls:List Int} : ∀(f k:Nat) (s:EX) (N:List (List Int)) (L':List (List Int)) (D':List Int),Ia g ls f k s.1 s.2.1=(L',D',true)->
  (mA g ls f k s N).1.1=L'/\(mA g ls f k s N).1.2.1=D'
 |0,k,s,N,L',D',h=>by
  simp only [Ia,Prod.mk.injEq] at h
  exact ⟨h.1,h.2.1⟩
 |f+1,k,s,N,L',D',h=>by
  simp only [Ia] at h
  simp only [mA]
  by_cases hk:k<s.1.length
  ·rw [if_pos hk] at h
   rw [if_pos hk]
   split at h
   ·rename_i L1 D1 he
    obtain ⟨a1,a2⟩:=kA (k:=(k:Int)) ls s [] L1 D1 he
    refine s8 f (k+1) _ _ L' D' ?_
    rw [a1,a2]
    exact h
   ·simp at h
  ·rw [if_neg hk] at h
   rw [if_neg hk]
   simp only [Prod.mk.injEq] at h
   exact ⟨h.1,h.2.1⟩
theorem fo {key:ByteArray} {x:List Int} : ∀(L:List (List Int)) (i:Nat),ba key (L++ [x]) i=if (ba key L i).isSome=true then ba key L i else if Lc x=key then some ((i+L.length:Nat):Int) else none
 | [],i=>by simp [ba]
 |y::L,i=>by
  simp only [List.cons_append,ba]
  split
  ·rfl
  ·rw [fo L (i+1),List.length_cons,show i+1+L.length=i+(L.length+1) by omega]
theorem gE {x:List Int} (hx:Oh x): ∀(L:List (List Int)) (i:Nat),(∀y∈L,Oh y)->ba (Lc x) L i=if x∈L then some ((i+L.idxOf x:Nat):Int) else none
 | [],i,_=>by simp [ba]
 |y::L,i,h=>by
  have hy:=h y (by simp)
  simp only [ba]
  by_cases e:y=x
  ·subst e
   rw [if_pos rfl,if_pos (by simp),List.idxOf_cons_self]
   rfl
  ·rw [if_neg λhk=>e (key_inj hy hx hk),gE hx L (i+1) λz hz=>h z (List.mem_cons_of_mem _ hz),show List.idxOf x (y::L)=(List.idxOf x L).succ by rw [List.idxOf_cons,beq_false_of_ne e];rfl]
   have:(x∈y::L)↔(x∈L):=by simp [Ne.symm e]
   by_cases hm:x∈L
   ·rw [if_pos hm,if_pos (this.2 hm),show i+1+List.idxOf x L=i+(List.idxOf x L).succ by omega]
   ·rw [if_neg hm,if_neg λh=>hm (this.1 h)]
theorem oa {x:List Int} {L:List (List Int)} (hx:Oh x) (hL: ∀y∈L,Oh y):Qb L (Lc x)=if x∈L then some (L.idxOf x:Int) else none:=by
 unfold Qb
 rw [gE hx L 0 hL,Nat.zero_add]
theorem o9 {x:List Int} {L:List (List Int)} (hx:Oh x) (hL: ∀y∈L,Oh y) (hn:x∉L):Zf (Qb L) (Lc x) (L.length:Int)=Qb (L++ [x]):=by
 funext key
 unfold Zf Qb
 rw [fo,Nat.zero_add]
 by_cases e:key=Lc x
 ·subst e
  rw [if_pos rfl,gE hx L 0 hL,if_neg hn,if_neg (by simp),if_pos rfl]
 ·rw [if_neg e,if_neg (c:=Lc x=key) λh=>e h.symm]
  split
  ·rfl
  ·rename_i h
   cases hk:ba key L 0 with
   |none=>rfl
   |some v=>rw [hk] at h;simp at h
theorem uq (p:PP):Gm (No p) 1 3000=Fw p:=by
 unfold Fw
 by_cases hv:Bc p=true
 ·rw [hv,Bool.true_and,rX hv]
  rfl
 ·have hv:Bc p=false:=by simpa using hv
  rw [hv,Bool.false_and]
  have:No p=0:=by unfold No;rw [if_neg (by simp [hv])]
  rw [this]
  rfl
theorem yV (p:PP) (h:Cm p):fnW Cy (look [(126,Kx),(97,Bi),(127,My),(128,Dy),(117,Kw),(129,cr),(58,Sf)]) Js Try.f80 (p,()) (λ(z:Option (PP×List (List Int)×List Int×(ByteArray->Option Int)×List Int×List Int×List (List Int)×Unit)×Bool×Unit)=>z=(if Fw p=true then (some (Kk p),true,()) else (none,false,()))):=by
 refine Eq.mp (zC p _) ⟨_,if_pos h,_,if_pos trivial,?_⟩
 show Br (!Gm (No p) 1 3000) _ _
 rw [uq p]
 refine Br.of (λhb=>?_) λhb=>?_
 ·rw [if_neg (by simpa using hb)]
 have hw:Fw p=true:=by simpa using hb
 rw [if_pos hw]
 obtain ⟨hv,vf⟩:=Bool.and_eq_true_iff.1 hw
 have hV:=valid hv
 have yo:=hV.kB
 have hn:=hV.n
 obtain ⟨pn,ps,g,⟨⟩⟩:=p
 dsimp only at yo hn vf⊢
 have hI:(upto pn.toNat).length<=20:=by rw [Tz];omega
 have hIr: ∀y∈upto pn.toNat,0<=y/\y<pn:= λy hy=>by have:=Jk.1 hy;omega
 have KP:=c6 (p:=(pn,ps,g,())) hI hIr
 obtain ⟨ls,o0⟩: ∃ls,Bd g.length=ls:=⟨_,rfl⟩
 have EW:ls.length<=16:=by rw [<-o0,Lw];omega
 have kP: ∀l∈ls,Gv (List.length g) l:= λl hl=>Mv (o0▸hl)
 have xu: ∀x:List Int,(∀y∈x,0<=y/\y<pn)->Oh x:= λx hx y hy=>by have:=hx y hy;omega
 have vB:Ia g ls 3001 0 [upto pn.toNat] [0]=Fo g (upto pn.toNat):=by unfold Fo;rw [o0]
 have mF:Zf (λ(_:ByteArray)=>(none:Option Int)) (Lc (upto pn.toNat)) 0=Qb [upto pn.toNat]:=by
  have:=o9 (L:= []) (xu _ hIr) (λy hy=>by cases hy) (by simp)
  exact this
 refine ⟨upto pn.toNat,if_pos ⟨by show (0:Int)<=pn;omega,by show pn<=20;omega⟩,Lc (upto pn.toNat),if_pos (by show short (upto pn.toNat);unfold short;omega),⟨ls,?_,rfl,rfl,rfl,rfl,rfl,rfl,rfl,rfl,rfl,rfl,?_⟩,?_⟩
 ·refine (if_pos ⟨by show (0:Int)<=((g.length:Nat):Int);omega,by show ((g.length:Nat):Int)<=8;omega⟩).trans (congrArg some ?_)
  show Bd (((g.length:Nat):Int)).toNat=ls
  rw [Int.toNat_natCast];exact o0
 ·obtain ⟨R,hR⟩: ∃R,mA g ls 3001 0 ([upto pn.toNat],[0],[0],[0]) []=R:=⟨_,rfl⟩
  have XH:Kk (pn,ps,g,())=PF (pn,ps,g,()) R:=by unfold Kk;rw [o0];exact congrArg _ hR
  rw [XH]
  refine Co.mk (λv=> ∃(k:Nat) (s:EX) (N:List (List Int)),v=((k:Int),pn,ps,g,s.1,s.2.1,Qb s.1,s.2.2.1,s.2.2.2,pn,ps,g,N,())/\k<=s.1.length/\Rg (pn,ps,g,()) (upto pn.toNat).length s.1 s.2.1/\s.2.2.1.length=s.1.length/\s.2.2.2.length=s.1.length/\N.length=k/\
    Ia g ls (3001-k) k s.1 s.2.1=Fo g (upto pn.toNat)/\mA g ls (3001-k) k s N=R) (λv=>3001-v.1.toNat)
   ⟨0,([upto pn.toNat],[0],[0],[0]),[],?_,by simp,KP,rfl,rfl,rfl,vB,hR⟩ ?_
  ·rw [<-mF];rfl
  rintro v ⟨k,s0,N,rfl,h1,h2,h3,h4,h5,h6,h7⟩
  obtain ⟨L0,D0,P0,B0⟩:=s0
  dsimp only at h1 h2 h3 h4 h6 h7⊢
  have hL0:=h2.ok.kB
  have hD0:=h2.len
  obtain ⟨f,hf⟩: ∃f,3001-k=f+1:=⟨3000-k,by omega⟩
  refine Br.dec (λhl=>?_) λhl=>?_
  ·have hk:k<L0.length:=by omega
   have yr:k<D0.length:=by omega
   have hx: ∀y∈L0[k],0<=y/\y<pn:=h2.row _ (List.getElem_mem hk)
   have MD:L0[k].length=(upto pn.toNat).length:=h2.ok.len _ (List.getElem_mem hk)
   have hdk:=h2.dep k yr
   have hxe:L0.getD k []=L0[k]:=Nk hk
   have FW:D0.getD k 0=D0[k]:=by rw [List.getD_eq_getElem?_getD,List.getElem?_eq_getElem yr];rfl
   have QI: ∀L' D' ok,Gp g L0[k] D0[k] ls L0 D0=(L',D',ok)->Fo g (upto pn.toNat)=if ok=true then Ia g ls f (k+1) L' D' else (L',D',false):=by
    intro L' D' ok he
    rw [<-h6,hf,Ia,if_pos hk,hxe,FW,he]
    cases ok<;>rfl
   obtain ⟨E,hE⟩: ∃E,kz g (k:Int) L0[k] D0[k] ls (L0,D0,P0,B0) []=E:=⟨_,rfl⟩
   have hex:R=mA g ls f (k+1) E.1 (N++ [E.2]):=by
    rw [<-h7,hf,mA,if_pos hk]
    dsimp only
    rw [hxe,FW,hE]
   refine ⟨⟨by omega,by omega⟩,L0[k],by rw [Int.toNat_natCast,Nat.zero_add];exact List.getElem?_eq_getElem hk,ls.map (λl=>Ac L0[k] (Ag g l)),?_,?_⟩
   ·refine (if_pos ⟨hv,by show L0[k].length<=20;omega,hx⟩).trans (congrArg some ?_)
    show pW g L0[k]=_
    unfold pW
    rw [o0]
   refine ⟨rfl,rfl,rfl,rfl,rfl,rfl,rfl,rfl,rfl,rfl,rfl,rfl,?_⟩
   obtain ⟨nb,YK⟩: ∃nb,ls.map (λl=>Ac L0[k] (Ag g l))=nb:=⟨_,rfl⟩
   have hnl:nb.length=ls.length:=by rw [<-YK,List.length_map]
   have hni: ∀i (h:i<ls.length),nb[i]'(by omega)=Ac L0[k] (Ag g ls[i]):= λi h=>by simp only [<-YK,List.getElem_map]
   rw [YK]
   refine Co.mk (λv=> ∃(i:Nat) (row:List Int) (s:EX),v=((i:Int),pn,ps,g,row,s.1,s.2.1,Qb s.1,s.2.2.1,s.2.2.2,pn,ps,g,N,())/\i<=ls.length/\row.length=i/\Rg (pn,ps,g,()) (upto pn.toNat).length s.1 s.2.1/\s.2.2.1.length=s.1.length/\s.2.2.2.length=s.1.length/\
     (∃A,s.1=L0++A)/\(∃A,s.2.1=D0++A)/\Gp g L0[k] D0[k] (ls.drop i) s.1 s.2.1=Gp g L0[k] D0[k] ls L0 D0/\kz g (k:Int) L0[k] D0[k] (ls.drop i) s row=E) (λv=>ls.length-v.1.toNat)
    ⟨0,[],(L0,D0,P0,B0),rfl,Nat.zero_le _,rfl,h2,h3,h4,⟨[],by simp⟩,⟨[],by simp⟩,rfl,hE⟩ ?_
   rintro v ⟨i,row,s,rfl,g1,g2,g3,g4,g5,⟨A,g6⟩,⟨A',g7⟩,g8,g9⟩
   obtain ⟨L,D,Pa,By⟩:=s
   dsimp only at g3 g4 g5 g6 g7 g8 g9⊢
   have hLf:=g3.ok.kB
   have II:=g3.len
   refine Br.dec (λYF=>?_) λYF=>?_
   ·have hi:i<ls.length:=by omega
    have OJ:k<L.length:=by rw [g6,List.length_append];omega
    have LH:k<D.length:=by rw [II];exact OJ
    have WD:D[k]=D0[k]:=by simp only [g7];exact List.getElem_append_left yr
    have GC:=kP _ (List.getElem_mem hi)
    obtain ⟨nl,nr⟩:=pZ hV hx GC
    dsimp only at nl nr
    rw [List.drop_eq_getElem_cons hi] at g8 g9
    simp only [Gp] at g8
    simp only [kz] at g9
    have hyb:=xu _ nr
    refine ⟨_,Bf (by omega),?_⟩
    rw [hni i hi]
    generalize hyv:Ac L0[k] (Ag g ls[i])=yv at*
    refine ⟨Lc yv,if_pos (by show short yv;unfold short;rw [nl];omega),?_⟩
    rw [oa hyb λy hy=>xu _ (g3.row y hy)]
    refine Br.of (λUd=>?_) λUd=>?_
    ·have Ud:yv∉L:= λhm=>by rw [if_pos hm] at Ud;simp at Ud
     rw [if_neg Ud] at g8 g9
     by_cases cP:L.length=3000
     ·rw [if_pos cP] at g8
      have:=QI _ _ _ g8.symm
      rw [if_neg (by decide)] at this
      rw [this] at vf
      cases vf
     rw [if_neg cP] at g8
     refine ⟨_,if_pos trivial,rfl,rfl,?_,⟨by omega,by omega⟩,D0[k],?_,rfl,rfl,?_,rfl,rfl,?_,_,Bf hi,rfl,rfl,?_,rfl,rfl,?_,rfl,rfl,rfl,rfl,rfl,rfl,rfl,rfl,rfl,rfl,rfl,rfl,?_⟩
     ·show L.length+1<=4294967296;omega
     ·rw [Int.toNat_natCast,Nat.zero_add,List.getElem?_eq_getElem LH,WD]
     ·show D.length+1<=4294967296;omega
     ·show Pa.length+1<=4294967296;omega
     ·show By.length+1<=4294967296;omega
     ·show row.length+1<=4294967296;omega
     ·dsimp only
      rw [Ed L,Ce (n:=D0[k]+1) (by omega) (by omega),Au (by omega),o9 hyb (λy hy=>xu _ (g3.row y hy)) Ud]
      refine ⟨⟨i+1,row++ [(L.length:Int)],(L++ [yv],D++ [D0[k]+1],Pa++ [(k:Int)],By++ [ls[i]]),rfl,hi,by rw [List.length_append,g2];rfl,g3.add Ud (by rw [nl,MD]) (by omega) nr ⟨by omega,by omega⟩,?_,?_,⟨A++ [yv],by rw [g6,List.append_assoc]⟩,⟨A'++ [D0[k]+1],by rw [g7,List.append_assoc]⟩,g8,g9⟩,by omega⟩
      ·simp [g4]
      ·simp [g5]
    ·have Ud:yv∈L:=Classical.byContradiction λhm=>by rw [if_neg hm] at Ud;simp at Ud
     rw [if_pos Ud] at g8 g9
     rw [if_pos Ud]
     refine ⟨rfl,rfl,?_,rfl,rfl,rfl,rfl,rfl,rfl,rfl,rfl,rfl,rfl,rfl,rfl,?_⟩
     ·show row.length+1<=4294967296;omega
     ·rw [Au (by omega)]
      exact ⟨⟨i+1,row++ [(L.idxOf yv:Int)],(L,D,Pa,By),rfl,hi,by rw [List.length_append,g2];rfl,g3,g4,g5,⟨A,g6⟩,⟨A',g7⟩,g8,g9⟩,by omega⟩
   ·have:i=ls.length:=by omega
    subst this
    rw [List.drop_length,Gp] at g8
    rw [List.drop_length,kz] at g9
    have:=QI _ _ _ g8.symm
    rw [if_pos rfl] at this
    rw [Ed row,Au (by omega)]
    refine ⟨rfl,rfl,?_,rfl,rfl,rfl,rfl,rfl,rfl,rfl,rfl,rfl,rfl,⟨k+1,(L,D,Pa,By),N++ [row],rfl,by rw [g6,List.length_append];omega,g3,g4,g5,by rw [List.length_append,h5];rfl,?_,?_⟩,by omega⟩
    ·show N.length+1<=4294967296;omega
    ·rw [show 3001-(k+1)=f by omega]
     exact this.symm
    ·rw [show 3001-(k+1)=f by omega,hex,<-g9]
  ·have hk:k=L0.length:=by omega
   rw [hf,mA,if_neg (by show ¬k<L0.length;omega)] at h7
   subst h7
   simp only [List.drop_zero,List.take_length]
   rfl
 ·have vn:Dy.fn (upto pn.toNat,())=some (Lc (upto pn.toNat)):=if_pos (by show short (upto pn.toNat);unfold short;omega)
  repeat' (first|exact ⟨rfl,rfl⟩|refine ⟨_,vn,?_⟩|refine ⟨?_,?_⟩)
theorem nk:Sound Try.prog 80 Js:=
 Sound.Dl Bz (Ae ij (Ae Ob (Ae a6 (Ae bJ (Ae dc (Ae tS (Ae j4 Ax))))))) mixed Try.func80 (by kernel_rfl) (by kernel_rfl) λx h=>yV x.1 h
end Go.Proofs.Ytjbdmibbbpdnnaa

namespace Go.Proofs.Ytjbdmibbbpdnnaa
open Go.RowKit
abbrev XP:Type:=PP×List (List Int)×List Int×(ByteArray->Option Int)×List Int×List Int×List (List Int)×Unit
noncomputable def Be (p:PP):List (List Int):=(Fo p.2.2.1 (upto p.1.toNat)).1
noncomputable def fu (p:PP):List Int:=(Fo p.2.2.1 (upto p.1.toNat)).2.1
def PA (e:XP):Prop:=Fw e.1=true/\e=Kk e.1
noncomputable def Wr (p:PP) (s:List Int):Int×Bool×Unit:=if s∈Be p then ((List.idxOf s (Be p):Nat),true,()) else (0,false,())
noncomputable def CI (e:Option XP) (s:List Int):Int×Bool×Unit:=match e with|some e=>Wr e.1 s|none=>(0,false,())
noncomputable abbrev Yw:Spec:=Dl (.pair (.optr j9) (.pair tL .unit)) (.pair tI (.pair .bool .unit)) true true (λx=>(∃e:XP,x.1=some e/\PA e)/\short x.2.1) (λx=>CI x.1 x.2.1)
noncomputable def Fe (p:PP):SS×Bool×Unit:=if Bc p=true then (Dq p.2.2.1 (upto p.1.toNat),Fw p,()) else (([],[],[],false,()),false,())
noncomputable abbrev Jf:Spec:=Dl (.pair Ck .unit) (.pair Si (.pair .bool .unit)) true false (λx=>Cm x.1) (λx=>Fe x.1)
noncomputable abbrev So:Spec:=Dl (.pair Ck (.pair Si (.pair tL .unit))) .bool false true (λx=>Cm x.1/\short x.2.2.1/\Bc x.1=true/\x.2.1=Dq x.1.2.2.1 (upto x.1.1.toNat)) (λx=>decide (x.2.2.1∈Be x.1))
noncomputable abbrev hY:Spec:=Dl (.pair Ck (.pair tL (.pair tL .unit))) .bool false true (λx=>Cm x.1/\short x.2.1/\short x.2.2.1) (λ_=>true)
abbrev xV:Type:=(Int×ByteArray×List (List Int)×PUnit)×List (List Int)×List Int×(ByteArray->Option Int)×List Int×List Int×List (List Int)×PUnit
theorem NP (e:Option (PP×List (List Int)×List Int×(ByteArray->Option Int)×List Int×List Int×List (List Int)×Unit)) (s:List Int) (P:(Int×Bool×Unit)->Prop):(∃(y3:xV),e=some y3/\ ∃(y4:Bool),Pl.fn (y3.1,s,())=some y4/\Br (!y4) (P ((0:Int),false,())) (∃(y5:xV),e=some y5/\ ∃(y6:ByteArray),Dy.fn (s,())=some y6/\P ((y5.2.2.2.1 y6).getD (Int.ofNat (nat_lit 0)),(y5.2.2.2.1 y6).isSome,())))=fnW Cy (look [(141,Pl),(128,Dy)]) Yw Try.f98 (e,s,()) P:=by kernel_rfl
abbrev Bq:Type:=List (List Int)×List Int×List Int×Bool×PUnit
theorem wZ (p:Int×ByteArray×List (List Int)×Unit) (P:((List (List Int)×List Int×List Int×Bool×Unit)×Bool×Unit)->Prop):(∃(y2:Bool),Ef.fn ((p.1,p.2.1,p.2.2.1,()),())=some y2/\Br (!y2) (P ((List.take 0 (List.drop 0 []),List.take 0 (List.drop 0 []),List.take 0 (List.drop 0 []),false,()),false,())) (((((∃(y3:List Int),Bv.fn (p.1,())=some y3/\(∃(y4:Bq),Da.fn ((p.1,p.2.1,p.2.2.1,()),y3,())=some y4/\((P ((y4.1,y4.2.1,y4.2.2.1,y4.2.2.2.1,()),y4.2.2.2.1,())/\P ((y4.1,y4.2.1,y4.2.2.1,y4.2.2.2.1,()),y4.2.2.2.1,()))/\P ((y4.1,y4.2.1,y4.2.2.1,y4.2.2.2.1,()),y4.2.2.2.1,()))/\(P ((y4.1,y4.2.1,y4.2.2.1,y4.2.2.2.1,()),y4.2.2.2.1,())/\P ((y4.1,y4.2.1,y4.2.2.1,y4.2.2.2.1,()),y4.2.2.2.1,()))/\P ((y4.1,y4.2.1,y4.2.2.1,y4.2.2.2.1,()),y4.2.2.2.1,()))/\ ∃(y4:Bq),Da.fn ((p.1,p.2.1,p.2.2.1,()),y3,())=some y4/\((P ((y4.1,y4.2.1,y4.2.2.1,y4.2.2.2.1,()),y4.2.2.2.1,())/\P ((y4.1,y4.2.1,y4.2.2.1,y4.2.2.2.1,()),y4.2.2.2.1,()))/\P ((y4.1,y4.2.1,y4.2.2.1,y4.2.2.2.1,()),y4.2.2.2.1,()))/\(P ((y4.1,y4.2.1,y4.2.2.1,y4.2.2.2.1,()),y4.2.2.2.1,())/\P ((y4.1,y4.2.1,y4.2.2.1,y4.2.2.2.1,()),y4.2.2.2.1,()))/\P ((y4.1,y4.2.1,y4.2.2.1,y4.2.2.2.1,()),y4.2.2.2.1,()))/\ ∃(y3:List Int),Bv.fn (p.1,())=some y3/\ ∃(y4:Bq),Da.fn ((p.1,p.2.1,p.2.2.1,()),y3,())=some y4/\((P ((y4.1,y4.2.1,y4.2.2.1,y4.2.2.2.1,()),y4.2.2.2.1,())/\P ((y4.1,y4.2.1,y4.2.2.1,y4.2.2.2.1,()),y4.2.2.2.1,()))/\P ((y4.1,y4.2.1,y4.2.2.1,y4.2.2.2.1,()),y4.2.2.2.1,()))/\(P ((y4.1,y4.2.1,y4.2.2.1,y4.2.2.2.1,()),y4.2.2.2.1,())/\P ((y4.1,y4.2.1,y4.2.2.1,y4.2.2.2.1,()),y4.2.2.2.1,()))/\P ((y4.1,y4.2.1,y4.2.2.1,y4.2.2.2.1,()),y4.2.2.2.1,()))/\ ∃(y3:List Int),Bv.fn (p.1,())=some y3/\ ∃(y4:Bq),Da.fn ((p.1,p.2.1,p.2.2.1,()),y3,())=some y4/\((P ((y4.1,y4.2.1,y4.2.2.1,y4.2.2.2.1,()),y4.2.2.2.1,())/\P ((y4.1,y4.2.1,y4.2.2.1,y4.2.2.2.1,()),y4.2.2.2.1,()))/\P ((y4.1,y4.2.1,y4.2.2.1,y4.2.2.2.1,()),y4.2.2.2.1,()))/\(P ((y4.1,y4.2.1,y4.2.2.1,y4.2.2.2.1,()),y4.2.2.2.1,())/\P ((y4.1,y4.2.1,y4.2.2.1,y4.2.2.2.1,()),y4.2.2.2.1,()))/\P ((y4.1,y4.2.1,y4.2.2.1,y4.2.2.2.1,()),y4.2.2.2.1,()))/\ ∃(y3:List Int),Bv.fn (p.1,())=some y3/\ ∃(y4:Bq),Da.fn ((p.1,p.2.1,p.2.2.1,()),y3,())=some y4/\((P ((y4.1,y4.2.1,y4.2.2.1,y4.2.2.2.1,()),y4.2.2.2.1,())/\P ((y4.1,y4.2.1,y4.2.2.1,y4.2.2.2.1,()),y4.2.2.2.1,()))/\P ((y4.1,y4.2.1,y4.2.2.1,y4.2.2.2.1,()),y4.2.2.2.1,()))/\(P ((y4.1,y4.2.1,y4.2.2.1,y4.2.2.2.1,()),y4.2.2.2.1,())/\P ((y4.1,y4.2.1,y4.2.2.1,y4.2.2.2.1,()),y4.2.2.2.1,()))/\P ((y4.1,y4.2.1,y4.2.2.1,y4.2.2.2.1,()),y4.2.2.2.1,()))/\((((∃(y3:List Int),Bv.fn (p.1,())=some y3/\(∃(y4:Bq),Da.fn ((p.1,p.2.1,p.2.2.1,()),y3,())=some y4/\((P ((y4.1,y4.2.1,y4.2.2.1,y4.2.2.2.1,()),y4.2.2.2.1,())/\P ((y4.1,y4.2.1,y4.2.2.1,y4.2.2.2.1,()),y4.2.2.2.1,()))/\P ((y4.1,y4.2.1,y4.2.2.1,y4.2.2.2.1,()),y4.2.2.2.1,()))/\(P ((y4.1,y4.2.1,y4.2.2.1,y4.2.2.2.1,()),y4.2.2.2.1,())/\P ((y4.1,y4.2.1,y4.2.2.1,y4.2.2.2.1,()),y4.2.2.2.1,()))/\P ((y4.1,y4.2.1,y4.2.2.1,y4.2.2.2.1,()),y4.2.2.2.1,()))/\ ∃(y4:Bq),Da.fn ((p.1,p.2.1,p.2.2.1,()),y3,())=some y4/\((P ((y4.1,y4.2.1,y4.2.2.1,y4.2.2.2.1,()),y4.2.2.2.1,())/\P ((y4.1,y4.2.1,y4.2.2.1,y4.2.2.2.1,()),y4.2.2.2.1,()))/\P ((y4.1,y4.2.1,y4.2.2.1,y4.2.2.2.1,()),y4.2.2.2.1,()))/\(P ((y4.1,y4.2.1,y4.2.2.1,y4.2.2.2.1,()),y4.2.2.2.1,())/\P ((y4.1,y4.2.1,y4.2.2.1,y4.2.2.2.1,()),y4.2.2.2.1,()))/\P ((y4.1,y4.2.1,y4.2.2.1,y4.2.2.2.1,()),y4.2.2.2.1,()))/\ ∃(y3:List Int),Bv.fn (p.1,())=some y3/\ ∃(y4:Bq),Da.fn ((p.1,p.2.1,p.2.2.1,()),y3,())=some y4/\((P ((y4.1,y4.2.1,y4.2.2.1,y4.2.2.2.1,()),y4.2.2.2.1,())/\P ((y4.1,y4.2.1,y4.2.2.1,y4.2.2.2.1,()),y4.2.2.2.1,()))/\P ((y4.1,y4.2.1,y4.2.2.1,y4.2.2.2.1,()),y4.2.2.2.1,()))/\(P ((y4.1,y4.2.1,y4.2.2.1,y4.2.2.2.1,()),y4.2.2.2.1,())/\P ((y4.1,y4.2.1,y4.2.2.1,y4.2.2.2.1,()),y4.2.2.2.1,()))/\P ((y4.1,y4.2.1,y4.2.2.1,y4.2.2.2.1,()),y4.2.2.2.1,()))/\ ∃(y3:List Int),Bv.fn (p.1,())=some y3/\ ∃(y4:Bq),Da.fn ((p.1,p.2.1,p.2.2.1,()),y3,())=some y4/\((P ((y4.1,y4.2.1,y4.2.2.1,y4.2.2.2.1,()),y4.2.2.2.1,())/\P ((y4.1,y4.2.1,y4.2.2.1,y4.2.2.2.1,()),y4.2.2.2.1,()))/\P ((y4.1,y4.2.1,y4.2.2.1,y4.2.2.2.1,()),y4.2.2.2.1,()))/\(P ((y4.1,y4.2.1,y4.2.2.1,y4.2.2.2.1,()),y4.2.2.2.1,())/\P ((y4.1,y4.2.1,y4.2.2.1,y4.2.2.2.1,()),y4.2.2.2.1,()))/\P ((y4.1,y4.2.1,y4.2.2.1,y4.2.2.2.1,()),y4.2.2.2.1,()))/\(((∃(y3:List Int),Bv.fn (p.1,())=some y3/\(∃(y4:Bq),Da.fn ((p.1,p.2.1,p.2.2.1,()),y3,())=some y4/\((P ((y4.1,y4.2.1,y4.2.2.1,y4.2.2.2.1,()),y4.2.2.2.1,())/\P ((y4.1,y4.2.1,y4.2.2.1,y4.2.2.2.1,()),y4.2.2.2.1,()))/\P ((y4.1,y4.2.1,y4.2.2.1,y4.2.2.2.1,()),y4.2.2.2.1,()))/\(P ((y4.1,y4.2.1,y4.2.2.1,y4.2.2.2.1,()),y4.2.2.2.1,())/\P ((y4.1,y4.2.1,y4.2.2.1,y4.2.2.2.1,()),y4.2.2.2.1,()))/\P ((y4.1,y4.2.1,y4.2.2.1,y4.2.2.2.1,()),y4.2.2.2.1,()))/\ ∃(y4:Bq),Da.fn ((p.1,p.2.1,p.2.2.1,()),y3,())=some y4/\((P ((y4.1,y4.2.1,y4.2.2.1,y4.2.2.2.1,()),y4.2.2.2.1,())/\P ((y4.1,y4.2.1,y4.2.2.1,y4.2.2.2.1,()),y4.2.2.2.1,()))/\P ((y4.1,y4.2.1,y4.2.2.1,y4.2.2.2.1,()),y4.2.2.2.1,()))/\(P ((y4.1,y4.2.1,y4.2.2.1,y4.2.2.2.1,()),y4.2.2.2.1,())/\P ((y4.1,y4.2.1,y4.2.2.1,y4.2.2.2.1,()),y4.2.2.2.1,()))/\P ((y4.1,y4.2.1,y4.2.2.1,y4.2.2.2.1,()),y4.2.2.2.1,()))/\ ∃(y3:List Int),Bv.fn (p.1,())=some y3/\ ∃(y4:Bq),Da.fn ((p.1,p.2.1,p.2.2.1,()),y3,())=some y4/\((P ((y4.1,y4.2.1,y4.2.2.1,y4.2.2.2.1,()),y4.2.2.2.1,())/\P ((y4.1,y4.2.1,y4.2.2.1,y4.2.2.2.1,()),y4.2.2.2.1,()))/\P ((y4.1,y4.2.1,y4.2.2.1,y4.2.2.2.1,()),y4.2.2.2.1,()))/\(P ((y4.1,y4.2.1,y4.2.2.1,y4.2.2.2.1,()),y4.2.2.2.1,())/\P ((y4.1,y4.2.1,y4.2.2.1,y4.2.2.2.1,()),y4.2.2.2.1,()))/\P ((y4.1,y4.2.1,y4.2.2.1,y4.2.2.2.1,()),y4.2.2.2.1,()))/\(∃(y3:List Int),Bv.fn (p.1,())=some y3/\((∃(y4:Bq),Da.fn ((p.1,p.2.1,p.2.2.1,()),y3,())=some y4/\((P ((y4.1,y4.2.1,y4.2.2.1,y4.2.2.2.1,()),y4.2.2.2.1,())/\P ((y4.1,y4.2.1,y4.2.2.1,y4.2.2.2.1,()),y4.2.2.2.1,()))/\P ((y4.1,y4.2.1,y4.2.2.1,y4.2.2.2.1,()),y4.2.2.2.1,()))/\(P ((y4.1,y4.2.1,y4.2.2.1,y4.2.2.2.1,()),y4.2.2.2.1,())/\P ((y4.1,y4.2.1,y4.2.2.1,y4.2.2.2.1,()),y4.2.2.2.1,()))/\P ((y4.1,y4.2.1,y4.2.2.1,y4.2.2.2.1,()),y4.2.2.2.1,()))/\ ∃(y4:Bq),Da.fn ((p.1,p.2.1,p.2.2.1,()),y3,())=some y4/\((P ((y4.1,y4.2.1,y4.2.2.1,y4.2.2.2.1,()),y4.2.2.2.1,())/\P ((y4.1,y4.2.1,y4.2.2.1,y4.2.2.2.1,()),y4.2.2.2.1,()))/\P ((y4.1,y4.2.1,y4.2.2.1,y4.2.2.2.1,()),y4.2.2.2.1,()))/\(P ((y4.1,y4.2.1,y4.2.2.1,y4.2.2.2.1,()),y4.2.2.2.1,())/\P ((y4.1,y4.2.1,y4.2.2.1,y4.2.2.2.1,()),y4.2.2.2.1,()))/\P ((y4.1,y4.2.1,y4.2.2.1,y4.2.2.2.1,()),y4.2.2.2.1,()))/\ ∃(y4:Bq),Da.fn ((p.1,p.2.1,p.2.2.1,()),y3,())=some y4/\((P ((y4.1,y4.2.1,y4.2.2.1,y4.2.2.2.1,()),y4.2.2.2.1,())/\P ((y4.1,y4.2.1,y4.2.2.1,y4.2.2.2.1,()),y4.2.2.2.1,()))/\P ((y4.1,y4.2.1,y4.2.2.1,y4.2.2.2.1,()),y4.2.2.2.1,()))/\(P ((y4.1,y4.2.1,y4.2.2.1,y4.2.2.2.1,()),y4.2.2.2.1,())/\P ((y4.1,y4.2.1,y4.2.2.1,y4.2.2.2.1,()),y4.2.2.2.1,()))/\P ((y4.1,y4.2.1,y4.2.2.1,y4.2.2.2.1,()),y4.2.2.2.1,()))/\(∃(y3:List Int),Bv.fn (p.1,())=some y3/\ ∃(y4:Bq),Da.fn ((p.1,p.2.1,p.2.2.1,()),y3,())=some y4/\((P ((y4.1,y4.2.1,y4.2.2.1,y4.2.2.2.1,()),y4.2.2.2.1,())/\P ((y4.1,y4.2.1,y4.2.2.1,y4.2.2.2.1,()),y4.2.2.2.1,()))/\P ((y4.1,y4.2.1,y4.2.2.1,y4.2.2.2.1,()),y4.2.2.2.1,()))/\(P ((y4.1,y4.2.1,y4.2.2.1,y4.2.2.2.1,()),y4.2.2.2.1,())/\P ((y4.1,y4.2.1,y4.2.2.1,y4.2.2.2.1,()),y4.2.2.2.1,()))/\P ((y4.1,y4.2.1,y4.2.2.1,y4.2.2.2.1,()),y4.2.2.2.1,()))/\ ∃(y3:List Int),Bv.fn (p.1,())=some y3/\ ∃(y4:Bq),Da.fn ((p.1,p.2.1,p.2.2.1,()),y3,())=some y4/\((P ((y4.1,y4.2.1,y4.2.2.1,y4.2.2.2.1,()),y4.2.2.2.1,())/\P ((y4.1,y4.2.1,y4.2.2.1,y4.2.2.2.1,()),y4.2.2.2.1,()))/\P ((y4.1,y4.2.1,y4.2.2.1,y4.2.2.2.1,()),y4.2.2.2.1,()))/\(P ((y4.1,y4.2.1,y4.2.2.1,y4.2.2.2.1,()),y4.2.2.2.1,())/\P ((y4.1,y4.2.1,y4.2.2.1,y4.2.2.2.1,()),y4.2.2.2.1,()))/\P ((y4.1,y4.2.1,y4.2.2.1,y4.2.2.2.1,()),y4.2.2.2.1,()))/\(∃(y3:List Int),Bv.fn (p.1,())=some y3/\ ∃(y4:Bq),Da.fn ((p.1,p.2.1,p.2.2.1,()),y3,())=some y4/\((P ((y4.1,y4.2.1,y4.2.2.1,y4.2.2.2.1,()),y4.2.2.2.1,())/\P ((y4.1,y4.2.1,y4.2.2.1,y4.2.2.2.1,()),y4.2.2.2.1,()))/\P ((y4.1,y4.2.1,y4.2.2.1,y4.2.2.2.1,()),y4.2.2.2.1,()))/\(P ((y4.1,y4.2.1,y4.2.2.1,y4.2.2.2.1,()),y4.2.2.2.1,())/\P ((y4.1,y4.2.1,y4.2.2.1,y4.2.2.2.1,()),y4.2.2.2.1,()))/\P ((y4.1,y4.2.1,y4.2.2.1,y4.2.2.2.1,()),y4.2.2.2.1,()))/\(∃(y3:List Int),Bv.fn (p.1,())=some y3/\ ∃(y4:Bq),Da.fn ((p.1,p.2.1,p.2.2.1,()),y3,())=some y4/\((P ((y4.1,y4.2.1,y4.2.2.1,y4.2.2.2.1,()),y4.2.2.2.1,())/\P ((y4.1,y4.2.1,y4.2.2.1,y4.2.2.2.1,()),y4.2.2.2.1,()))/\P ((y4.1,y4.2.1,y4.2.2.1,y4.2.2.2.1,()),y4.2.2.2.1,()))/\(P ((y4.1,y4.2.1,y4.2.2.1,y4.2.2.2.1,()),y4.2.2.2.1,())/\P ((y4.1,y4.2.1,y4.2.2.1,y4.2.2.2.1,()),y4.2.2.2.1,()))/\P ((y4.1,y4.2.1,y4.2.2.1,y4.2.2.2.1,()),y4.2.2.2.1,()))/\ ∃(y3:List Int),Bv.fn (p.1,())=some y3/\ ∃(y4:Bq),Da.fn ((p.1,p.2.1,p.2.2.1,()),y3,())=some y4/\((P ((y4.1,y4.2.1,y4.2.2.1,y4.2.2.2.1,()),y4.2.2.2.1,())/\P ((y4.1,y4.2.1,y4.2.2.1,y4.2.2.2.1,()),y4.2.2.2.1,()))/\P ((y4.1,y4.2.1,y4.2.2.1,y4.2.2.2.1,()),y4.2.2.2.1,()))/\(P ((y4.1,y4.2.1,y4.2.2.1,y4.2.2.2.1,()),y4.2.2.2.1,())/\P ((y4.1,y4.2.1,y4.2.2.1,y4.2.2.2.1,()),y4.2.2.2.1,()))/\P ((y4.1,y4.2.1,y4.2.2.1,y4.2.2.2.1,()),y4.2.2.2.1,()))/\(∃(y3:List Int),Bv.fn (p.1,())=some y3/\ ∃(y4:Bq),Da.fn ((p.1,p.2.1,p.2.2.1,()),y3,())=some y4/\((P ((y4.1,y4.2.1,y4.2.2.1,y4.2.2.2.1,()),y4.2.2.2.1,())/\P ((y4.1,y4.2.1,y4.2.2.1,y4.2.2.2.1,()),y4.2.2.2.1,()))/\P ((y4.1,y4.2.1,y4.2.2.1,y4.2.2.2.1,()),y4.2.2.2.1,()))/\(P ((y4.1,y4.2.1,y4.2.2.1,y4.2.2.2.1,()),y4.2.2.2.1,())/\P ((y4.1,y4.2.1,y4.2.2.1,y4.2.2.2.1,()),y4.2.2.2.1,()))/\P ((y4.1,y4.2.1,y4.2.2.1,y4.2.2.2.1,()),y4.2.2.2.1,()))/\(∃(y3:List Int),Bv.fn (p.1,())=some y3/\ ∃(y4:Bq),Da.fn ((p.1,p.2.1,p.2.2.1,()),y3,())=some y4/\((P ((y4.1,y4.2.1,y4.2.2.1,y4.2.2.2.1,()),y4.2.2.2.1,())/\P ((y4.1,y4.2.1,y4.2.2.1,y4.2.2.2.1,()),y4.2.2.2.1,()))/\P ((y4.1,y4.2.1,y4.2.2.1,y4.2.2.2.1,()),y4.2.2.2.1,()))/\(P ((y4.1,y4.2.1,y4.2.2.1,y4.2.2.2.1,()),y4.2.2.2.1,())/\P ((y4.1,y4.2.1,y4.2.2.1,y4.2.2.2.1,()),y4.2.2.2.1,()))/\P ((y4.1,y4.2.1,y4.2.2.1,y4.2.2.2.1,()),y4.2.2.2.1,()))/\(∃(y3:List Int),Bv.fn (p.1,())=some y3/\ ∃(y4:Bq),Da.fn ((p.1,p.2.1,p.2.2.1,()),y3,())=some y4/\((P ((y4.1,y4.2.1,y4.2.2.1,y4.2.2.2.1,()),y4.2.2.2.1,())/\P ((y4.1,y4.2.1,y4.2.2.1,y4.2.2.2.1,()),y4.2.2.2.1,()))/\P ((y4.1,y4.2.1,y4.2.2.1,y4.2.2.2.1,()),y4.2.2.2.1,()))/\(P ((y4.1,y4.2.1,y4.2.2.1,y4.2.2.2.1,()),y4.2.2.2.1,())/\P ((y4.1,y4.2.1,y4.2.2.1,y4.2.2.2.1,()),y4.2.2.2.1,()))/\P ((y4.1,y4.2.1,y4.2.2.1,y4.2.2.2.1,()),y4.2.2.2.1,()))/\ ∃(y3:List Int),Bv.fn (p.1,())=some y3/\ ∃(y4:Bq),Da.fn ((p.1,p.2.1,p.2.2.1,()),y3,())=some y4/\((P ((y4.1,y4.2.1,y4.2.2.1,y4.2.2.2.1,()),y4.2.2.2.1,())/\P ((y4.1,y4.2.1,y4.2.2.1,y4.2.2.2.1,()),y4.2.2.2.1,()))/\P ((y4.1,y4.2.1,y4.2.2.1,y4.2.2.2.1,()),y4.2.2.2.1,()))/\(P ((y4.1,y4.2.1,y4.2.2.1,y4.2.2.2.1,()),y4.2.2.2.1,())/\P ((y4.1,y4.2.1,y4.2.2.1,y4.2.2.2.1,()),y4.2.2.2.1,()))/\P ((y4.1,y4.2.1,y4.2.2.1,y4.2.2.2.1,()),y4.2.2.2.1,())))=fnW Cy (look [(110,Ef),(124,Bv),(112,Da)]) Jf Try.f75 (p,()) P:=by kernel_rfl
theorem zD (p:Int×ByteArray×List (List Int)×Unit) (f:List (List Int)×List Int×List Int×Bool×Unit) (s:List Int) (P:Bool->Prop):(∃(y4:Bool),Sr.fn ((p.1,p.2.1,p.2.2.1,()),s,())=some y4/\Br y4 (∃(y5:Int),Jm.fn ((f.1,f.2.1,f.2.2.1,f.2.2.2.1,()),s,())=some y5/\P (decide (y5>=(0:Int)))) (P false))=fnW Cy (look [(103,Sr),(54,Jm)]) So Try.f53 (p,f,s,()) P:=by kernel_rfl
theorem yE {p:List Int} (h:Sx p):Ez p=true:=by
 refine Dg.2 ⟨h.pos,h.len,λj h1 h2=>?_⟩
 have:=h.row _ (List.getElem_mem h2)
 exact ⟨by omega,by omega,λhm=>by
  obtain ⟨i,hi,e⟩:=List.mem_iff_getElem.1 hm
  have ga:i<j:=by rw [List.length_take] at hi;omega
  rw [List.getElem_take] at e
  exact (List.pairwise_iff_getElem.1 h.nodup i j (by omega) h2 ga) e⟩
theorem Gj {p:PP} (hw:Fw p=true):Bc p=true/\(Fo p.2.2.1 (upto p.1.toNat)).2.2=true:=Bool.and_eq_true_iff.1 hw
theorem JV {p:PP} (hw:Fw p=true):Reach p (Be p) (fu p) true:=by
 have h:=br (Gj hw).1
 rw [(Gj hw).2] at h
 exact h
theorem qG {p:PP} (hv:Bc p=true):Rg p p.1.toNat (Be p) (fu p):=(br hv).ok
theorem AS {p:PP} (hV:Valid p):x9 p.1.toNat λg=>some g∈p.2.2.1.map some:=
 ⟨by have:=hV.n;omega,λg Xg=>by obtain ⟨g',e,h⟩:=lr (eI hV).2.2 _ Xg;cases e;exact h⟩
theorem DN {p:PP} (hv:Bc p=true) {x:List Int} (hx:x∈Be p):Pm p.1.toNat x:=Vq.pm (AS (valid hv)) ((br hv).gen x hx)
theorem NB {p:PP} (hV:Valid p) {x:List Int} (h:Pm p.1.toNat x):Dz p.1 x=true:=by
 have:=hV.n
 have:=h.1
 exact Dg.2 ⟨by omega,yE h.2⟩
theorem AR {p:PP} (_hV:Valid p) {x:List Int} (h:Dz p.1 x=true):Pm p.1.toNat x:=by
 obtain ⟨h1,h2⟩:=Dg.1 h
 exact ⟨by omega,gT h2⟩
theorem DM {p:PP} (hv:Bc p=true) {x:List Int} (hx:x∈Be p):Dz p.1 x=true:=NB (valid hv) (DN hv hx)
theorem HH {p:PP} (hv:Bc p=true) {x:List Int} (hx:x∈Be p):Oh x:= λy hy=>by
 have h1:=(qG hv).row x hx y hy
 have:=(valid hv).n
 omega
theorem HC {n:Nat} {x:List Int} (h:Pm n x):Oh x:= λy hy=>by
 have h1:=h.row y hy
 have:=h.n2
 omega
theorem DA {n:Nat} {x:List Int} (h:Pm n x):short x:=by
 have h1:=h.1
 have:=h.n2
 unfold short;omega
theorem xj {p:PP} (hw:Fw p=true):(Kk p).2.1=Be p/\(Kk p).2.2.1=fu p:=by
 have h:=(Gj hw).2
 refine s8 3001 0 ([upto p.1.toNat],[0],[0],[0]) [] _ _ ?_
 show Ia p.2.2.1 (Bd p.2.2.1.length) 3001 0 [upto p.1.toNat] [0]=(Be p,fu p,true)
 rw [<-h]
 rfl
theorem FL {p:PP} (hw:Fw p=true) {s:List Int} (hs:Oh s):(Kk p).2.2.2.1 (Lc s)=if s∈Be p then some (((Be p).idxOf s:Nat):Int) else none:=by
 show Qb (Kk p).2.1 (Lc s)=_
 rw [(xj hw).1,oa hs λy hy=>HH (Gj hw).1 hy]
theorem MU (e:Option XP) (s:List Int) (h:(∃e':XP,e=some e'/\PA e')/\short s):fnW Cy (look [(141,Pl),(128,Dy)]) Yw Try.f98 (e,s,()) (λ(z:Int×Bool×Unit)=>z=CI e s):=by
 obtain ⟨⟨e',rfl,h1,h2⟩,hs⟩:=h
 have hv:=(Gj h1).1
 refine Eq.mp (NP (some e') s _) ⟨e',rfl,_,if_pos hs,Br.of (λhb=>?_) λhb=>⟨e',rfl,_,if_pos hs,?_⟩⟩
 ·have hb:=Dv hb
  show (0,false,())=Wr e'.1 s
  unfold Wr
  rw [if_neg λhm=>hb (DM hv hm)]
 ·have hb:Dz e'.1.1 s=true:=by simpa using hb
  have hp:=AR (valid hv) hb
  dsimp only
  have e3:e'.2.2.2.1=(Kk e'.1).2.2.2.1:=by rw [<-h2]
  rw [e3,FL h1 (HC hp)]
  show _=Wr e'.1 s
  unfold Wr
  split<;>rfl
theorem lI:Sound Try.prog 98 Yw:=
 Sound.Dl Bz (Ae eh (Ae bJ Ax)) mixed Try.func98 (by kernel_rfl) (by kernel_rfl) λx h=>MU x.1 x.2.1 h
theorem wb (p:PP) (h:Cm p):fnW Cy (look [(110,Ef),(124,Bv),(112,Da)]) Jf Try.f75 (p,()) (λ(z:SS×Bool×Unit)=>z=Fe p):=by
 refine Eq.mp (wZ p _) ⟨_,if_pos h,?_⟩
 show Br (!Bc p) _ _
 unfold Fe
 by_cases hv:Bc p=true
 ·rw [if_pos hv,hv]
  refine ⟨λhb=>by simp at hb,λ_=>?_⟩
  have hn:=(valid hv).n
  have UQ:Bv.fn (p.1,())=some (upto p.1.toNat):=if_pos ⟨by show 0<=p.1;omega,by show p.1<=20;omega⟩
  have JL: ∀y∈upto p.1.toNat,0<=y/\y<p.1:= λy hy=>by have:=Jk.1 hy;omega
  have ss:Da.fn ((p.1,p.2.1,p.2.2.1,()),upto p.1.toNat,())=some (Dq p.2.2.1 (upto p.1.toNat)):=if_pos ⟨hv,by show (upto p.1.toNat).length<=20;rw [Tz];omega,JL⟩
  have hz:(((Dq p.2.2.1 (upto p.1.toNat)).1,(Dq p.2.2.1 (upto p.1.toNat)).2.1,(Dq p.2.2.1 (upto p.1.toNat)).2.2.1,(Dq p.2.2.1 (upto p.1.toNat)).2.2.2.1,()),(Dq p.2.2.1 (upto p.1.toNat)).2.2.2.1,())=(Dq p.2.2.1 (upto p.1.toNat),Fw p,()):=by
   unfold Fw
   rw [hv,Bool.true_and]
   rfl
  repeat' (first|exact hz|refine ⟨_,UQ,?_⟩|refine ⟨_,ss,?_⟩|refine ⟨?_,?_⟩)
 ·rw [if_neg hv]
  refine ⟨λ_=>rfl,λhb=>?_⟩
  exact absurd (by simpa using hb) hv
theorem lR:Sound Try.prog 75 Jf:=
 Sound.Dl Bz (Ae Ps (Ae lJ (Ae tU Ax))) mixed Try.func75 (by kernel_rfl) (by kernel_rfl) λx h=>wb x.1 h
theorem yW (p:PP) (f:SS) (s:List Int) (h:Cm p/\short s/\Bc p=true/\f=Dq p.2.2.1 (upto p.1.toNat)):fnW Cy (look [(103,Sr),(54,Jm)]) So Try.f53 (p,f,s,()) (λ(z:Bool)=>z=decide (s∈Be p)):=by
 obtain ⟨hp,hs,hv,rfl⟩:=h
 refine Eq.mp (zD p _ s _) ⟨_,if_pos ⟨hp,hs⟩,?_⟩
 show Br (Bc p&&Dz p.1 s) _ _
 rw [hv,Bool.true_and]
 refine Br.of (λhb=>?_) λhb=>?_
 ·have FA:=AR (valid hv) hb
  refine ⟨_,if_pos (by show Cq s.length (Be p) (Ro (Be p));rw [FA.1];exact (qG hv).ok),?_⟩
  show decide (Zv (Be p) s>=0)=_
  unfold Zv
  split
  ·rename_i hm
   rw [decide_eq_true hm]
   exact decide_eq_true (by omega)
  ·rename_i hm
   rw [decide_eq_false hm]
   rfl
 ·exact (decide_eq_false λhm=>by rw [DM hv hm] at hb;cases hb).symm
theorem nm:Sound Try.prog 53 So:=
 Sound.Dl Bz (Ae fP (Ae Yz Ax)) mixed Try.func53 (by kernel_rfl) (by kernel_rfl) λx h=>yW x.1 x.2.1 x.2.2.1 h
theorem DO {p:PP} (hv:Bc p=true):(Be p).length<=3000:=(qG hv).ok.kB
theorem lT {p:PP} (hp:Cm p) (hw:Fw p=true):Jf.fn ((p.1,p.2.1,p.2.2.1,()),())=some (Dq p.2.2.1 (upto p.1.toNat),true,()):=
 (if_pos hp).trans (congrArg some ((if_pos (Gj hw).1).trans (by rw [<-hw])))
end Go.Proofs.Ytjbdmibbbpdnnaa

namespace Go.Proofs.Ytjbdmibbbpdnnaa
open Go.RowKit
def Nq (b:ByteArray) (t:List Int):ByteArray:=t.foldl (λa k=>a++b.extract k.toNat (k+1).toNat) ByteArray.empty
def Es (p:PP) (t:List Int):PP:=(p.1,Nq p.2.1 t,t.map λk=>p.2.2.1.getD k.toNat [],())
noncomputable abbrev Pq:Spec:=Dl (.pair Ck (.pair tL .unit)) Ck false true (λx=>Cm x.1/\Bo x.1 x.2.1=true) (λx=>Es x.1 x.2.1)
noncomputable abbrev Ky:Spec:=Dl (.pair Ck (.pair tL .unit)) Ck false true (λx=>Cm x.1/\Bo x.1 x.2.1=true) (λx=>Es x.1 x.2.1)
abbrev HP:Type:=Option XP×List Int×Option XP×Unit
noncomputable def Np (p:PP) (t:List Int):Bool:=Fw p&&Bo p t
noncomputable def Lx (p:PP) (t:List Int):HP:=(some (Kk p),t,some (Kk (Es p t)),())
noncomputable abbrev Ix:Spec:=Dl (.pair Ck (.pair tL .unit)) (.pair (.optr fU) (.pair .bool .unit)) true false (λx=>Cm x.1/\short x.2.1) (λx=>if Np x.1 x.2.1=true then (some (Lx x.1 x.2.1),true,()) else (none,false,()))
noncomputable abbrev Ko:Spec:=Dl (.pair Ck (.pair tL (.pair tL .unit))) (.pair (.optr fU) (.pair tI (.pair .bool .unit))) true false (λx=>Cm x.1/\short x.2.1/\short x.2.2.1)
 (λx=>if Np x.1 x.2.1=true then (some (Lx x.1 x.2.1),(Wr x.1 x.2.2.1).1,(Wr x.1 x.2.2.1).2.1,()) else (none,0,false,()))
noncomputable def CJ (h:Option HP) (i:Int):Bool:=match h with
 |some (some e,t,_)=>decide ((Be e.1).getD i.toNat []∈Be (Es e.1 t))
 |_=>false
noncomputable abbrev hJ:Spec:=Dl (.pair (.optr fU) (.pair tI .unit)) .bool false true (λx=>(∃p t,Np p t=true/\x.1=some (Lx p t)/\0<=x.2.1/\x.2.1<(Be p).length)) (λx=>CJ x.1 x.2.1)
noncomputable def cj (p:PP) (t s:List Int):Bool:=Np p t&&(decide (s∈Be p)&&decide (s∈Be (Es p t)))
noncomputable abbrev Mc:Spec:=Dl (.pair Ck (.pair tL (.pair tL .unit))) .bool false true (λx=>Cm x.1/\short x.2.1/\short x.2.2.1) (λx=>cj x.1 x.2.1 x.2.2.1)
noncomputable abbrev bD:Spec:=Dl (.pair Ck (.pair tL .unit)) (.pair Si (.pair Si (.pair .bool .unit))) true false (λx=>Cm x.1/\short x.2.1)
 (λx=>(if Np x.1 x.2.1=true then (Dq x.1.2.2.1 (upto x.1.1.toNat),Dq (Es x.1 x.2.1).2.2.1 (upto x.1.1.toNat),true,()) else ((Fe x.1).1,(Fe x.1).1,false,())))
abbrev j8:Type:=Int×Int×ByteArray×List (List Int)×Int×ByteArray×Int×ByteArray×List (List Int)×List (List Int)×PUnit
theorem wY (p:Int×ByteArray×List (List Int)×Unit) (t:List Int) (P:(Int×ByteArray×List (List Int)×Unit)->Prop):(0=0/\0=([]:List Int).length/\0=0/\0=([]:List Int).length/\Co (λ(v3:j8) (k4:j8->Prop)=>Br (decide (v3.1<(↑t.length:Int))) (∃(y5:Int),idx t v3.1=some y5/\((0:Int)<=y5/\y5<=IntKind.i64.wrap (y5+(1:Int))/\IntKind.i64.wrap (y5+(1:Int))<=(↑v3.2.2.1.size:Int))/\v3.2.2.2.2.2.2.2.1.size+(v3.2.2.1.extract y5.toNat (IntKind.i64.wrap (y5+(1:Int))).toNat).size<=4294967296/\ ∃(y6:List Int),idx v3.2.2.2.1 y5=some y6/\ ∃(y7:List Int),Je.fn (y6,())=some y7/\0=0/\v3.2.2.2.2.2.2.2.2.2.1.length=v3.2.2.2.2.2.2.2.2.2.1.length/\v3.2.2.2.2.2.2.2.2.2.1.length+ [y7].length<=Bs/\0=0/\v3.2.2.2.2.2.2.2.2.1.length=v3.2.2.2.2.2.2.2.2.1.length/\0=0/\(v3.2.2.2.2.2.2.2.2.2.1++ [y7]).length=(v3.2.2.2.2.2.2.2.2.2.1++ [y7]).length/\k4 (IntKind.i64.wrap (v3.1+(1:Int)),v3.2.1,v3.2.2.1,v3.2.2.2.1,v3.2.2.2.2.1,v3.2.2.2.2.2.1,v3.2.2.2.2.2.2.1,v3.2.2.2.2.2.2.2.1++v3.2.2.1.extract y5.toNat (IntKind.i64.wrap (y5+(1:Int))).toNat,v3.2.2.2.2.2.2.2.2.1,v3.2.2.2.2.2.2.2.2.2.1++ [y7],())) (P (v3.2.2.2.2.2.2.1,v3.2.2.2.2.2.2.2.1,List.take v3.2.2.2.2.2.2.2.2.2.1.length (List.drop 0 v3.2.2.2.2.2.2.2.2.2.1),()))) ((0:Int),p.1,p.2.1,p.2.2.1,Int.ofNat (nat_lit 0), {data:= #[]},p.1, {data:= #[]},[],[],PUnit.unit))=fnW Cy (look [(123,Je)]) Pq Try.f102 (p,t,()) P:=by kernel_rfl
abbrev dh:Type:=Int×Int×ByteArray×List (List Int)×Int×ByteArray×Int×ByteArray×List (List Int)×List (List Int)×PUnit
theorem rh (p:Int×ByteArray×List (List Int)×Unit) (t:List Int) (P:(Int×ByteArray×List (List Int)×Unit)->Prop):(0=0/\0=([]:List Int).length/\0=0/\0=([]:List Int).length/\Co (λ(v3:dh) (k4:dh->Prop)=>Br (decide (v3.1<(↑t.length:Int))) (∃(y5:Int),idx t v3.1=some y5/\((0:Int)<=y5/\y5<=IntKind.i64.wrap (y5+(1:Int))/\IntKind.i64.wrap (y5+(1:Int))<=(↑v3.2.2.1.size:Int))/\v3.2.2.2.2.2.2.2.1.size+(v3.2.2.1.extract y5.toNat (IntKind.i64.wrap (y5+(1:Int))).toNat).size<=4294967296/\ ∃(y6:List Int),idx v3.2.2.2.1 y5=some y6/\ ∃(y7:List Int),fJ.fn (y6,())=some y7/\0=0/\v3.2.2.2.2.2.2.2.2.2.1.length=v3.2.2.2.2.2.2.2.2.2.1.length/\v3.2.2.2.2.2.2.2.2.2.1.length+ [y7].length<=Bs/\0=0/\v3.2.2.2.2.2.2.2.2.1.length=v3.2.2.2.2.2.2.2.2.1.length/\0=0/\(v3.2.2.2.2.2.2.2.2.2.1++ [y7]).length=(v3.2.2.2.2.2.2.2.2.2.1++ [y7]).length/\k4 (IntKind.i64.wrap (v3.1+(1:Int)),v3.2.1,v3.2.2.1,v3.2.2.2.1,v3.2.2.2.2.1,v3.2.2.2.2.2.1,v3.2.2.2.2.2.2.1,v3.2.2.2.2.2.2.2.1++v3.2.2.1.extract y5.toNat (IntKind.i64.wrap (y5+(1:Int))).toNat,v3.2.2.2.2.2.2.2.2.1,v3.2.2.2.2.2.2.2.2.2.1++ [y7],())) (P (v3.2.2.2.2.2.2.1,v3.2.2.2.2.2.2.2.1,List.take v3.2.2.2.2.2.2.2.2.2.1.length (List.drop 0 v3.2.2.2.2.2.2.2.2.2.1),()))) ((0:Int),p.1,p.2.1,p.2.2.1,Int.ofNat (nat_lit 0), {data:= #[]},p.1, {data:= #[]},[],[],PUnit.unit))=fnW Cy (look [(145,fJ)]) Ky Try.f107 (p,t,()) P:=by kernel_rfl
abbrev fS:Type:=Option ((Int×ByteArray×List (List Int)×PUnit)×List (List Int)×List Int×(ByteArray->Option Int)×List Int×List Int×List (List Int)×PUnit)×Bool×PUnit
theorem jd (p:Int×ByteArray×List (List Int)×Unit) (t:List Int) (P:(Option (Option XP×List Int×Option XP×Unit)×Bool×Unit)->Prop):(∃(y3:fS),Js.fn ((p.1,p.2.1,p.2.2.1,()),())=some y3/\Br (!y3.2.1) (P (none,false,())) (∃(y4:Bool),Ei.fn ((p.1,p.2.1,p.2.2.1,()),t,())=some y4/\Br (!y4) (P (none,false,())) (∃(y5:Int×ByteArray×List (List Int)×PUnit),Ky.fn ((p.1,p.2.1,p.2.2.1,()),t,())=some y5/\ ∃(y6:fS),Js.fn (y5,())=some y6/\P (some (y3.1,t,y6.1,()),true,()))))=fnW Cy (look [(80,Js),(106,Ei),(107,Ky)]) Ix Try.f57 (p,t,()) P:=by kernel_rfl
theorem mg (p:Int×ByteArray×List (List Int)×Unit) (t s:List Int) (P:(Option (Option XP×List Int×Option XP×Unit)×Int×Bool×Unit)->Prop):(∃(y4:Option (Option ((Int×ByteArray×List (List Int)×PUnit)×List (List Int)×List Int×(ByteArray->Option Int)×List Int×List Int×List (List Int)×PUnit)×List Int×Option ((Int×ByteArray×List (List Int)×PUnit)×List (List Int)×List Int×(ByteArray->Option Int)×List Int×List Int×List (List Int)×PUnit)×PUnit)×Bool×PUnit),Ix.fn ((p.1,p.2.1,p.2.2.1,()),t,())=some y4/\Br (!y4.2.1) (P (none,(0:Int),false,())) (∃(y5:Option ((Int×ByteArray×List (List Int)×PUnit)×List (List Int)×List Int×(ByteArray->Option Int)×List Int×List Int×List (List Int)×PUnit)×List Int×Option ((Int×ByteArray×List (List Int)×PUnit)×List (List Int)×List Int×(ByteArray->Option Int)×List Int×List Int×List (List Int)×PUnit)×PUnit),y4.1=some y5/\ ∃(y6:Int×Bool×PUnit),Yw.fn (y5.1,s,())=some y6/\P (y4.1,y6.1,y6.2.1,())))=fnW Cy (look [(57,Ix),(98,Yw)]) Ko Try.f55 (p,t,s,()) P:=by kernel_rfl
abbrev xW:Type:=Option ((Int×ByteArray×List (List Int)×PUnit)×List (List Int)×List Int×(ByteArray->Option Int)×List Int×List Int×List (List Int)×PUnit)×List Int×Option ((Int×ByteArray×List (List Int)×PUnit)×List (List Int)×List Int×(ByteArray->Option Int)×List Int×List Int×List (List Int)×PUnit)×PUnit
theorem NQ (h:Option (Option XP×List Int×Option XP×Unit)) (i:Int) (P:Bool->Prop):(∃(y3:xW),h=some y3/\ ∃(y4:xW),h=some y4/\ ∃(y5:(Int×ByteArray×List (List Int)×PUnit)×List (List Int)×List Int×(ByteArray->Option Int)×List Int×List Int×List (List Int)×PUnit),y4.1=some y5/\ ∃(y6:List Int),idx y5.2.1 i=some y6/\ ∃(y7:Int×Bool×PUnit),Yw.fn (y3.2.2.1,y6,())=some y7/\P y7.2.1)=fnW Cy (look [(98,Yw)]) hJ Try.f56 (h,i,()) P:=by kernel_rfl
theorem jc (p:Int×ByteArray×List (List Int)×Unit) (t s:List Int) (P:Bool->Prop):(∃(y4:Option (Option ((Int×ByteArray×List (List Int)×PUnit)×List (List Int)×List Int×(ByteArray->Option Int)×List Int×List Int×List (List Int)×PUnit)×List Int×Option ((Int×ByteArray×List (List Int)×PUnit)×List (List Int)×List Int×(ByteArray->Option Int)×List Int×List Int×List (List Int)×PUnit)×PUnit)×Int×Bool×PUnit),Ko.fn ((p.1,p.2.1,p.2.2.1,()),t,s,())=some y4/\Br y4.2.2.1 (∃(y5:Bool),hJ.fn (y4.1,y4.2.1,())=some y5/\P y5) (P false))=fnW Cy (look [(55,Ko),(56,hJ)]) Mc Try.f18 (p,t,s,()) P:=by kernel_rfl
abbrev xU:Type:=(List (List Int)×List Int×List Int×Bool×PUnit)×Bool×PUnit
theorem NN (p:Int×ByteArray×List (List Int)×Unit) (t:List Int) (P:(SS×SS×Bool×Unit)->Prop):(∃(y3:xU),Jf.fn ((p.1,p.2.1,p.2.2.1,()),())=some y3/\Br (!y3.2.1) ((P ((y3.1.1,y3.1.2.1,y3.1.2.2.1,y3.1.2.2.2.1,()),(y3.1.1,y3.1.2.1,y3.1.2.2.1,y3.1.2.2.2.1,()),false,())/\P ((y3.1.1,y3.1.2.1,y3.1.2.2.1,y3.1.2.2.2.1,()),(y3.1.1,y3.1.2.1,y3.1.2.2.1,y3.1.2.2.2.1,()),false,()))/\P ((y3.1.1,y3.1.2.1,y3.1.2.2.1,y3.1.2.2.2.1,()),(y3.1.1,y3.1.2.1,y3.1.2.2.1,y3.1.2.2.2.1,()),false,())) (∃(y4:Bool),Ei.fn ((p.1,p.2.1,p.2.2.1,()),t,())=some y4/\Br (!y4) ((P ((y3.1.1,y3.1.2.1,y3.1.2.2.1,y3.1.2.2.2.1,()),(y3.1.1,y3.1.2.1,y3.1.2.2.1,y3.1.2.2.2.1,()),false,())/\P ((y3.1.1,y3.1.2.1,y3.1.2.2.1,y3.1.2.2.2.1,()),(y3.1.1,y3.1.2.1,y3.1.2.2.1,y3.1.2.2.2.1,()),false,()))/\P ((y3.1.1,y3.1.2.1,y3.1.2.2.1,y3.1.2.2.2.1,()),(y3.1.1,y3.1.2.1,y3.1.2.2.1,y3.1.2.2.2.1,()),false,())) (∃(y5:Int×ByteArray×List (List Int)×PUnit),Pq.fn ((p.1,p.2.1,p.2.2.1,()),t,())=some y5/\ ∃(y6:xU),Jf.fn (y5,())=some y6/\(P ((y3.1.1,y3.1.2.1,y3.1.2.2.1,y3.1.2.2.2.1,()),(y6.1.1,y6.1.2.1,y6.1.2.2.1,y6.1.2.2.2.1,()),true,())/\P ((y3.1.1,y3.1.2.1,y3.1.2.2.1,y3.1.2.2.2.1,()),(y6.1.1,y6.1.2.1,y6.1.2.2.1,y6.1.2.2.2.1,()),true,()))/\P ((y3.1.1,y3.1.2.1,y3.1.2.2.1,y3.1.2.2.2.1,()),(y6.1.1,y6.1.2.1,y6.1.2.2.1,y6.1.2.2.2.1,()),true,()))))=fnW Cy (look [(75,Jf),(101,Ei),(102,Pq)]) bD Try.f52 (p,t,()) P:=by kernel_rfl
theorem je (p:Int×ByteArray×List (List Int)×Unit) (t s:List Int) (P:Bool->Prop):(∃(y4:(List (List Int)×List Int×List Int×Bool×PUnit)×(List (List Int)×List Int×List Int×Bool×PUnit)×Bool×PUnit),bD.fn ((p.1,p.2.1,p.2.2.1,()),t,())=some y4/\Br y4.2.2.1 (∃(y5:Bool),So.fn ((p.1,p.2.1,p.2.2.1,()),(y4.1.1,y4.1.2.1,y4.1.2.2.1,y4.1.2.2.2.1,()),s,())=some y5/\Br y5 (∃(y6:Int),Jm.fn ((y4.2.1.1,y4.2.1.2.1,y4.2.1.2.2.1,y4.2.1.2.2.2.1,()),s,())=some y6/\P (decide (y6>=(0:Int)))) (P false)) (P false))=fnW Cy (look [(52,bD),(53,So),(54,Jm)]) Mc Try.f15 (p,t,s,()) P:=by kernel_rfl
abbrev bO:Type:=Int×ByteArray×List (List Int)×PUnit
theorem wV (p:Int×ByteArray×List (List Int)×Unit) (a b:List Int) (P:Bool->Prop):(Br (decide ((↑a.length:Int)>(1048576:Int))) (P true) (Br (decide ((↑b.length:Int)>(1048576:Int))) (P true) (∃(y4:Int),oL.fn ((p.1,p.2.1,p.2.2.1,()),(1048576:Int),())=some y4/\Br (decide (y4<(0:Int))) (P true) (∃(y5:bO),j0.fn ((p.1,p.2.1,p.2.2.1,()),())=some y5/\ ∃(y6:List Int),Uu.fn (a,())=some y6/\ ∃(y7:List Int),Uu.fn (b,())=some y7/\ ∃(y8:Bool),Mc.fn (y5,y6,y7,())=some y8/\ ∃(y9:bO),j0.fn ((p.1,p.2.1,p.2.2.1,()),())=some y9/\ ∃(zL:List Int),Uu.fn (a,())=some zL/\ ∃(zW:List Int),Uu.fn (b,())=some zW/\ ∃(OY:Bool),Mc.fn ((y9.1,y9.2.1,y9.2.2.1,()),zL,zW,())=some OY/\Br (!OY==y8) (P false) (∃(x5:bO),j0.fn ((p.1,p.2.1,p.2.2.1,()),())=some x5/\ ∃(bY:Bool),oH.fn ((y9.1,y9.2.1,y9.2.2.1,()),x5,())=some bY/\Br (!bY) (P false) (∃(jg:List Int),Uu.fn (a,())=some jg/\ ∃(zX:Bool),Dc.fn (zL,jg,())=some zX/\Br (!zX) (P false) (∃(EO:List Int),Uu.fn (b,())=some EO/\ ∃(NW:Bool),Dc.fn (zW,EO,())=some NW/\Br (!NW) (P false) (P true))))))))=fnW Cy (look [(14,oL),(15,Mc),(18,Mc),(16,j0),(17,Uu),(19,oH),(20,Dc)]) hY Try.f3 (p,a,b,()) P:=by kernel_rfl
theorem uJ (b:ByteArray) (i:Nat):b[i]?=b.data[i]?:=by
 by_cases h:i<b.size
 ·rw [getElem?_pos b i h,getElem?_pos b.data i h];rfl
 ·rw [getElem?_neg b i h,getElem?_neg b.data i h]
theorem KD (a b:ByteArray) (k j:Nat) (hk:k<b.size):(a++b.extract k (k+1))[j]?=if j<a.size then a[j]? else if j=a.size then b[k]? else none:=by
 rw [uJ,ByteArray.data_append,ByteArray.data_extract,Array.getElem?_append]
 by_cases h:j<a.size
 ·rw [if_pos h,if_pos (show j<a.data.size from h),uJ]
 ·rw [if_neg h,if_neg (show ¬j<a.data.size from h)]
  have ew:k<b.data.size:=hk
  by_cases e:j=a.size
  ·rw [if_pos e,uJ]
   have:j-a.data.size=0:=by have:a.data.size=a.size:=rfl
                            omega
   rw [this,Array.getElem?_extract,if_pos (by omega),Nat.add_zero]
  ·rw [if_neg e,Array.getElem?_extract,if_neg]
   have:a.data.size=a.size:=rfl
   omega
theorem qM {b:ByteArray} : ∀(t:List Int) (a:ByteArray),(∀k∈t,0<=k/\k<b.size)->
  (t.foldl (λ(a:ByteArray) (k:Int)=>a++b.extract k.toNat (k+1).toNat) a).size=a.size+t.length/\
  ∀j,(t.foldl (λ(a:ByteArray) (k:Int)=>a++b.extract k.toNat (k+1).toNat) a)[j]?=if j<a.size then a[j]? else (t[j-a.size]?).bind λk=>b[k.toNat]?
 | [],a,_=>by
  refine ⟨rfl,λj=>?_⟩
  by_cases h:j<a.size
  ·rw [if_pos h];rfl
  ·rw [if_neg h]
   simp only [List.foldl_nil,List.getElem?_nil,Option.bind_none]
   exact getElem?_neg a j h
 |k::t,a,h=>by
  obtain ⟨h1,h2⟩:=h k (by simp)
  obtain ⟨kn,rfl⟩:=Int.eq_ofNat_of_zero_le h1
  have XZ:kn<b.size:=by omega
  have Od:(a++b.extract kn (kn+1)).size=a.size+1:=by rw [ByteArray.size_append,ByteArray.size_extract];omega
  obtain ⟨g1,g2⟩:=qM t (a++b.extract kn (kn+1)) λk' ew=>h k' (List.mem_cons_of_mem _ ew)
  simp only [List.foldl_cons]
  rw [show ((kn:Nat):Int).toNat=kn from Int.toNat_natCast kn,show (((kn:Nat):Int)+1).toNat=kn+1 by omega]
  refine ⟨by rw [g1,Od,List.length_cons];omega,λj=>?_⟩
  rw [g2 j,Od,KD a b kn j XZ]
  by_cases e1:j<a.size
  ·rw [if_pos (by omega),if_pos e1,if_pos e1]
  ·rw [if_neg e1]
   by_cases e2:j=a.size
   ·subst e2
    rw [if_pos (by omega),if_pos rfl,if_neg (by omega),Nat.sub_self]
    simp
   ·rw [if_neg (by omega),if_neg e1,show j-a.size=(j-(a.size+1))+1 by omega,List.getElem?_cons_succ]
theorem cv {b:ByteArray} (t:List Int) (h: ∀k∈t,0<=k/\k<b.size):(Nq b t).size=t.length:=by
 have:=(qM t ByteArray.empty h).1
 rw [ByteArray.size_empty,Nat.zero_add] at this
 exact this
theorem tW {b:ByteArray} (t:List Int) (h: ∀k∈t,0<=k/\k<b.size) (j:Nat):(Nq b t)[j]?=(t[j]?).bind λk=>b[k.toNat]?:=by
 have:=(qM t ByteArray.empty h).2 j
 rw [ByteArray.size_empty,if_neg (Nat.not_lt_zero _),Nat.sub_zero] at this
 exact this
theorem oR (b:ByteArray) {t:List Int} {j:Nat} (hl:j<t.length):Nq b (t.take (j+1))=Nq b (t.take j)++b.extract (t[j]).toNat (t[j]+1).toNat:=by
 unfold Nq
 rw [List.take_add_one,List.getElem?_eq_getElem hl,Option.toList_some,List.foldl_append]
 rfl
structure AH (p:PP) (t:List Int):Prop where
 valid:Bc p=true
 pos:0<t.length
 kB:t.length<=p.2.2.1.length
 g8:p.2.2.1.length<=8
 size:p.2.1.size=p.2.2.1.length
 Om: ∀ {j:Nat} (h:j<t.length),∃k:Nat,t[j]=(k:Int)/\k<p.2.2.1.length
 inc: ∀ {i j:Nat} (hi:i<t.length) (hj:j<t.length),i<j->t[i]<t[j]
theorem CZ {n:Int} {xs:List Int} (h:PL n xs xs.length): ∀(j i:Nat) (hi:i<xs.length) (hj:j<xs.length),i<j->xs[i]<xs[j]
 |0,_,_,_,dR=>absurd dR (Nat.not_lt_zero _)
 |j+1,i,hi,hj,dR=>by
  have h1:=(h (j+1) hj hj).2.2 (by omega)
  simp only [Nat.add_sub_cancel] at h1
  by_cases e:i=j
  ·subst e;exact h1
  ·have:=CZ h j i hi (by omega) (by omega)
   omega
theorem lX {p:PP} {t:List Int} (h:Bo p t=true):AH p t:=by
 obtain ⟨hv,hp⟩:=Dg.1 h
 obtain ⟨h1,h2⟩:=Dg.1 hp
 have hV:=valid hv
 obtain ⟨_,_,Od⟩:=Dg.1 hv
 have OD: ∀ {j:Nat} (h:j<t.length),∃k:Nat,t[j]=(k:Int)/\k<p.2.2.1.length:= λ {j} hj=>by
  have:=h2 j hj hj
  obtain ⟨k,hk⟩:=Int.eq_ofNat_of_zero_le this.1
  exact ⟨k,hk,by omega⟩
 refine ⟨hv,h1,?_,hV.kB.2,Od,OD,λhi hj dR=>CZ h2 _ _ hi hj dR⟩
 have h5:=we h2 (t.length-1) (by omega)
 obtain ⟨k,e,hk⟩:=OD (show t.length-1<t.length by omega)
 omega
theorem AH.OT {p:PP} {t:List Int} (h:AH p t): ∀k∈t,0<=k/\k<p.2.1.size:= λk hk=>by
 obtain ⟨j,hj,rfl⟩:=List.mem_iff_getElem.1 hk
 obtain ⟨kn,e,mG⟩:=h.Om hj
 rw [h.size,e]
 omega
theorem lW {p:PP} {t:List Int} (h:Bo p t=true):Bc (Es p t)=true:=by
 have hs:=lX h
 have hV:=valid hs.valid
 obtain ⟨hg,QV,_⟩:=Dg.1 hs.valid
 obtain ⟨g1,g2,g3⟩:=Dg.1 hg
 obtain ⟨n1,n2⟩:=Dg.1 QV
 have Od:=cv t hs.OT
 refine Dg.2 ⟨Dg.2 ⟨g1,?_,λq hq=>?_⟩,Dg.2 ⟨⟨?_,?_⟩,λj hj=>?_⟩,?_⟩
 ·show (t.map _).length<=8
  rw [List.length_map]
  have:=hs.kB
  have:=hs.g8
  omega
 ·obtain ⟨k,hk,rfl⟩:=List.mem_map.1 hq
  obtain ⟨j,hj,rfl⟩:=List.mem_iff_getElem.1 hk
  obtain ⟨kn,e,mG⟩:=hs.Om hj
  rw [e,Int.toNat_natCast,Xz mG]
  exact g3 _ (List.getElem_mem mG)
 ·show 1<=(Nq p.2.1 t).size
  rw [Od];exact hs.pos
 ·show (Nq p.2.1 t).size<=8
  rw [Od];have:=hs.kB;have:=hs.g8;omega
 ·have hj:j<t.length:=by rw [<-Od];exact hj
  obtain ⟨kn,e,mG⟩:=hs.Om hj
  obtain ⟨c,c1,c2,c3,c4⟩:=n2 kn (by rw [hs.size];exact mG)
  refine ⟨c,?_,c2,c3,λi hi=>?_⟩
  ·show (Nq p.2.1 t)[j]?=some c
   rw [tW t hs.OT,List.getElem?_eq_getElem hj,e,Option.bind_some,Int.toNat_natCast,c1]
  ·show (Nq p.2.1 t)[i]?≠some c
   have ga:i<t.length:=by omega
   obtain ⟨k2,e2,QL⟩:=hs.Om ga
   have:=hs.inc ga hj hi
   rw [tW t hs.OT,List.getElem?_eq_getElem ga,e2,Option.bind_some,Int.toNat_natCast]
   exact c4 k2 (by omega)
 ·show (Nq p.2.1 t).size=(t.map _).length
  rw [Od,List.length_map]
theorem lV {p:PP} {t:List Int} (hp:Cm p) (h:Bo p t=true):Cm (Es p t):=by
 have hs:=lX h
 have h1:=hs.kB
 have h2:=hs.g8
 refine ⟨?_,?_,λq hq=>?_⟩
 ·show (Nq p.2.1 t).size<=4294967296
  rw [cv t hs.OT];omega
 ·show (t.map _).length<=4294967296
  rw [List.length_map];omega
 ·obtain ⟨k,hk,rfl⟩:=List.mem_map.1 hq
  obtain ⟨j,hj,rfl⟩:=List.mem_iff_getElem.1 hk
  obtain ⟨kn,e,mG⟩:=hs.Om hj
  rw [e,Int.toNat_natCast,Xz mG]
  exact hp.2.2 _ (List.getElem_mem mG)
theorem xT {p:PP} {t:List Int} (h:Bo p t=true) {x:List Int} (hx:Gn p.1.toNat ((Es p t).2.2.1.map some) x):Gn p.1.toNat (p.2.2.1.map some) x:=by
 refine Vq.mono (λg hg=>?_) hx
 have hg:=Wz.1 hg
 obtain ⟨k,hk,rfl⟩:=List.mem_map.1 hg
 obtain ⟨j,hj,rfl⟩:=List.mem_iff_getElem.1 hk
 obtain ⟨kn,e,mG⟩:=(lX h).Om hj
 rw [e,Int.toNat_natCast,Xz mG]
 exact Wz.2 (List.getElem_mem mG)
theorem im {p:PP} {t:List Int} (hw:Fw p=true) (h:Bo p t=true):Fw (Es p t)=true:=by
 have ux:=lW h
 have hr:=br ux
 refine Bool.and_eq_true_iff.2 ⟨ux,Classical.byContradiction λhn=>?_⟩
 have hn:(Fo (Es p t).2.2.1 (upto (Es p t).1.toNat)).2.2=false:=by simpa using hn
 obtain ⟨h1,z,h2,h3⟩:=hr.big hn
 have h5:=bg (l1:=z::(Fo (Es p t).2.2.1 (upto (Es p t).1.toNat)).1) (l2:=Be p) (List.nodup_cons.2 ⟨h3,hr.nodup⟩) λx hx=>by
  rcases List.mem_cons.1 hx with rfl|hx
  ·exact (JV hw).all rfl _ (xT h h2)
  ·exact (JV hw).all rfl _ (xT h (hr.gen x hx))
 have h6:=DO (Gj hw).1
 simp only [List.length_cons] at h5
 omega
theorem map_take {α β:Type} (f:α->β) {xs:List α} {j:Nat} (h:j<xs.length):(xs.take (j+1)).map f=(xs.take j).map f++ [f xs[j]]:=by
 rw [List.take_add_one,List.getElem?_eq_getElem h,List.map_append];rfl
theorem wa (p:PP) (t:List Int) (h:Cm p/\Bo p t=true):fnW Cy (look [(123,Je)]) Pq Try.f102 (p,t,()) (λ(z:PP)=>z=Es p t):=by
 obtain ⟨hp,Mj⟩:=h
 have hs:=lX Mj
 refine Eq.mp (wY p t _) ⟨rfl,rfl,rfl,rfl,?_⟩
 refine Ba t.length (λv=>v.1) (λj v=>v=((j:Int),p.1,p.2.1,p.2.2.1,0,ByteArray.empty,p.1,Nq p.2.1 (t.take j),[],(t.take j).map λk=>p.2.2.1.getD k.toNat [],())) rfl rfl ?_
 rintro j v K hj hi hR hK
 subst hR
 dsimp only
 have hlen:=hs.kB
 have hg8:=hs.g8
 refine Br.dec (λhl=>?_) λhl=>?_
 ·have hl:j<t.length:=by omega
  obtain ⟨kn,hk,mG⟩:=hs.Om hl
  have XZ:kn<p.2.1.size:=by rw [hs.size];exact mG
  have hw:IntKind.i64.wrap ((kn:Int)+1)=(kn:Int)+1:=Ce (by have:=hs.g8;omega) (by have:=hs.g8;omega)
  have Od:=cv (b:=p.2.1) (t.take j) λk ew=>hs.OT k (List.mem_of_mem_take ew)
  have hex:(p.2.1.extract kn (kn+1)).size=1:=by rw [ByteArray.size_extract];omega
  refine ⟨_,Bf hl,?_⟩
  rw [hk,hw]
  refine ⟨⟨by omega,by omega,by omega⟩,by rw [show ((kn:Int)+1).toNat=kn+1 by omega,Int.toNat_natCast,hex,Od];have:=List.length_take_le j t;omega,_,Bf mG,_,if_pos (hp.2.2 _ (List.getElem_mem mG)),rfl,rfl,?_,rfl,rfl,rfl,rfl,?_⟩
  ·show ((t.take j).map _).length+1<=4294967296
   rw [List.length_map];have:=List.length_take_le j t;have:=hs.g8;omega
  ·rw [Au (by omega),show ((kn:Int)+1).toNat=kn+1 by omega,Int.toNat_natCast]
   refine hK hl _ rfl ?_
   rw [oR _ hl,map_take _ hl,hk,Int.toNat_natCast,show ((kn:Int)+1).toNat=kn+1 by omega,Xz mG]
 ·have:j=t.length:=by omega
  subst this
  rw [List.take_length,Ed]
  rfl
theorem lP:Sound Try.prog 102 Pq:=
 Sound.Dl Bz (Ae bG Ax) mixed Try.func102 (by kernel_rfl) (by kernel_rfl) λx h=>wa x.1 x.2.1 h
theorem qe (p:PP) (t:List Int) (h:Cm p/\Bo p t=true):fnW Cy (look [(145,fJ)]) Ky Try.f107 (p,t,()) (λ(z:PP)=>z=Es p t):=by
 obtain ⟨hp,Mj⟩:=h
 have hs:=lX Mj
 refine Eq.mp (rh p t _) ⟨rfl,rfl,rfl,rfl,?_⟩
 refine Ba t.length (λv=>v.1) (λj v=>v=((j:Int),p.1,p.2.1,p.2.2.1,0,ByteArray.empty,p.1,Nq p.2.1 (t.take j),[],(t.take j).map λk=>p.2.2.1.getD k.toNat [],())) rfl rfl ?_
 rintro j v K hj hi hR hK
 subst hR
 dsimp only
 have hlen:=hs.kB
 have hg8:=hs.g8
 refine Br.dec (λhl=>?_) λhl=>?_
 ·have hl:j<t.length:=by omega
  obtain ⟨kn,hk,mG⟩:=hs.Om hl
  have XZ:kn<p.2.1.size:=by rw [hs.size];exact mG
  have hw:IntKind.i64.wrap ((kn:Int)+1)=(kn:Int)+1:=Ce (by have:=hs.g8;omega) (by have:=hs.g8;omega)
  have Od:=cv (b:=p.2.1) (t.take j) λk ew=>hs.OT k (List.mem_of_mem_take ew)
  have hex:(p.2.1.extract kn (kn+1)).size=1:=by rw [ByteArray.size_extract];omega
  refine ⟨_,Bf hl,?_⟩
  rw [hk,hw]
  refine ⟨⟨by omega,by omega,by omega⟩,by rw [show ((kn:Int)+1).toNat=kn+1 by omega,Int.toNat_natCast,hex,Od];have:=List.length_take_le j t;omega,_,Bf mG,_,if_pos (hp.2.2 _ (List.getElem_mem mG)),rfl,rfl,?_,rfl,rfl,rfl,rfl,?_⟩
  ·show ((t.take j).map _).length+1<=4294967296
   rw [List.length_map];have:=List.length_take_le j t;have:=hs.g8;omega
  ·rw [Au (by omega),show ((kn:Int)+1).toNat=kn+1 by omega,Int.toNat_natCast]
   refine hK hl _ rfl ?_
   rw [oR _ hl,map_take _ hl,hk,Int.toNat_natCast,show ((kn:Int)+1).toNat=kn+1 by omega,Xz mG]
 ·have:j=t.length:=by omega
  subst this
  rw [List.take_length,Ed]
  rfl
theorem ik:Sound Try.prog 107 Ky:=
 Sound.Dl Bz (Ae qC Ax) mixed Try.func107 (by kernel_rfl) (by kernel_rfl) λx h=>qe x.1 x.2.1 h
theorem Nu {p:PP} {t:List Int} :Np p t=true↔Fw p=true/\Bo p t=true:=by unfold Np;rw [Bool.and_eq_true]
theorem tA (p:PP) (t:List Int) (h:Cm p/\short t):fnW Cy (look [(80,Js),(106,Ei),(107,Ky)]) Ix Try.f57 (p,t,()) (λ(z:Option (Option XP×List Int×Option XP×Unit)×Bool×Unit)=>z=(if Np p t=true then (some (Lx p t),true,()) else (none,false,()))):=by
 obtain ⟨hp,ht⟩:=h
 by_cases hw:Fw p=true
 ·have he:Js.fn ((p.1,p.2.1,p.2.2.1,()),())=some (some (Kk p),true,()):=(if_pos hp).trans (congrArg some (if_pos hw))
  refine Eq.mp (jd p t _) ⟨_,he,λhb=>by simp at hb,λ_=>⟨_,if_pos ⟨hp,ht⟩,Br.of (λhm=>?_) λhm=>?_⟩⟩
  ·have hm: ¬Bo p t=true:=Dv hm
   rw [if_neg λh=>hm (Nu.1 h).2]
  have hm:Bo p t=true:=by simpa using hm
  have hws:=im hw hm
  have Xf:Js.fn (Es p t,())=some (some (Kk (Es p t)),true,()):=(if_pos (lV hp hm)).trans (congrArg some (if_pos hws))
  rw [if_pos (Nu.2 ⟨hw,hm⟩)]
  exact ⟨_,if_pos ⟨hp,hm⟩,_,Xf,rfl⟩
 ·have he:Js.fn ((p.1,p.2.1,p.2.2.1,()),())=some (none,false,()):=(if_pos hp).trans (congrArg some (if_neg hw))
  rw [if_neg λh=>hw (Nu.1 h).1]
  exact Eq.mp (jd p t _) ⟨_,he,λ_=>rfl,λhb=>by simp at hb⟩
theorem jA:Sound Try.prog 57 Ix:=
 Sound.Dl Bz (Ae nk (Ae bH (Ae ik Ax))) mixed Try.func57 (by kernel_rfl) (by kernel_rfl) λx h=>tA x.1 x.2.1 h
theorem w8 (p:PP) (t s:List Int) (h:Cm p/\short t/\short s):fnW Cy (look [(57,Ix),(98,Yw)]) Ko Try.f55 (p,t,s,()) (λ(z:Option (Option XP×List Int×Option XP×Unit)×Int×Bool×Unit)=>z=(if Np p t=true then (some (Lx p t),(Wr p s).1,(Wr p s).2.1,()) else (none,0,false,()))):=by
 obtain ⟨hp,ht,hs⟩:=h
 by_cases hw:Np p t=true
 ·have he:Ix.fn ((p.1,p.2.1,p.2.2.1,()),t,())=some (some (Lx p t),true,()):=(if_pos ⟨hp,ht⟩).trans (congrArg some (if_pos hw))
  rw [if_pos hw]
  refine Eq.mp (mg p t s _) ⟨_,he,λhb=>by simp at hb,λ_=>⟨_,rfl,_,if_pos ⟨⟨Kk p,rfl,(Nu.1 hw).1,rfl⟩,hs⟩,?_⟩⟩
  rfl
 ·have he:Ix.fn ((p.1,p.2.1,p.2.2.1,()),t,())=some (none,false,()):=(if_pos ⟨hp,ht⟩).trans (congrArg some (if_neg hw))
  rw [if_neg hw]
  exact Eq.mp (mg p t s _) ⟨_,he,λ_=>rfl,λhb=>by simp at hb⟩
theorem lN:Sound Try.prog 55 Ko:=
 Sound.Dl Bz (Ae jA (Ae lI Ax)) mixed Try.func55 (by kernel_rfl) (by kernel_rfl) λx h=>w8 x.1 x.2.1 x.2.2.1 h
theorem MV (h:Option HP) (i:Int) (hh: ∃p t,Np p t=true/\h=some (Lx p t)/\0<=i/\i<(Be p).length):fnW Cy (look [(98,Yw)]) hJ Try.f56 (h,i,()) (λ(z:Bool)=>z=CJ h i):=by
 obtain ⟨p,t,hw,rfl,h1,h2⟩:=hh
 obtain ⟨k,rfl⟩:=Int.eq_ofNat_of_zero_le h1
 have hk:k<(Be p).length:=by omega
 obtain ⟨RX,hm⟩:=Nu.1 hw
 have Qy:=(xj RX).1
 refine Eq.mp (NQ _ _ _) ⟨Lx p t,rfl,Lx p t,rfl,Kk p,rfl,(Be p)[k],by rw [Qy];exact Bf hk,_,if_pos ⟨⟨Kk (Es p t),rfl,im RX hm,rfl⟩,DA (DN (Gj RX).1 (List.getElem_mem hk))⟩,?_⟩
 show (Wr (Es p t) (Be p)[k]).2.1=decide ((Be p).getD ((k:Nat):Int).toNat []∈Be (Es p t))
 rw [Int.toNat_natCast,Xz hk]
 unfold Wr
 split
 ·rename_i h;rw [decide_eq_true h]
 ·rename_i h;rw [decide_eq_false h]
theorem wI:Sound Try.prog 56 hJ:=
 Sound.Dl Bz (Ae lI Ax) mixed Try.func56 (by kernel_rfl) (by kernel_rfl) λx h=>MV x.1 x.2.1 h
theorem SK {p:PP} {s:List Int} :(Wr p s).2.1=decide (s∈Be p):=by
 unfold Wr
 split
 ·rename_i h;rw [decide_eq_true h]
 ·rename_i h;rw [decide_eq_false h]
theorem SJ {p:PP} {s:List Int} (h:s∈Be p):0<=(Wr p s).1/\(Wr p s).1<(Be p).length/\(Be p).getD (Wr p s).1.toNat []=s:=by
 unfold Wr
 rw [if_pos h]
 have h1:=List.idxOf_lt_length_of_mem h
 refine ⟨Int.natCast_nonneg _,by show ((List.idxOf s (Be p):Nat):Int)<_;omega,?_⟩
 show (Be p).getD ((List.idxOf s (Be p):Nat):Int).toNat []=s
 rw [Int.toNat_natCast,Xz h1]
 exact List.getElem_idxOf h1
theorem tu (p:PP) (t s:List Int) (h:Cm p/\short t/\short s):fnW Cy (look [(55,Ko),(56,hJ)]) Mc Try.f18 (p,t,s,()) (λ(z:Bool)=>z=cj p t s):=by
 obtain ⟨hp,ht,hs⟩:=h
 unfold cj
 by_cases hw:Np p t=true
 ·have he:Ko.fn ((p.1,p.2.1,p.2.2.1,()),t,s,())=some (some (Lx p t),(Wr p s).1,(Wr p s).2.1,()):=(if_pos ⟨hp,ht,hs⟩).trans (congrArg some (if_pos hw))
  rw [hw,Bool.true_and]
  refine Eq.mp (jc p t s _) ⟨_,he,?_⟩
  dsimp only
  rw [SK]
  refine Br.dec (λhm=>?_) λhm=>?_
  ·obtain ⟨i1,i2,i3⟩:=SJ hm
   refine ⟨_,if_pos ⟨p,t,hw,rfl,i1,i2⟩,?_⟩
   rw [decide_eq_true hm,Bool.true_and]
   show decide ((Be p).getD (Wr p s).1.toNat []∈Be (Es p t))=_
   rw [i3]
  ·rw [decide_eq_false hm,Bool.false_and]
 ·have he:Ko.fn ((p.1,p.2.1,p.2.2.1,()),t,s,())=some (none,0,false,()):=(if_pos ⟨hp,ht,hs⟩).trans (congrArg some (if_neg hw))
  rw [Bool.not_eq_true _|>.mp hw,Bool.false_and]
  exact Eq.mp (jc p t s _) ⟨_,he,λhb=>by simp at hb,λ_=>rfl⟩
theorem jw:Sound Try.prog 18 Mc:=
 Sound.Dl Bz (Ae lN (Ae wI Ax)) mixed Try.func18 (by kernel_rfl) (by kernel_rfl) λx h=>tu x.1 x.2.1 x.2.2.1 h
theorem MS (p:PP) (t:List Int) (h:Cm p/\short t):fnW Cy (look [(75,Jf),(101,Ei),(102,Pq)]) bD Try.f52 (p,t,()) (λ(z:SS×SS×Bool×Unit)=>z=(if Np p t=true then (Dq p.2.2.1 (upto p.1.toNat),Dq (Es p t).2.2.1 (upto p.1.toNat),true,()) else ((Fe p).1,(Fe p).1,false,()))):=by
 obtain ⟨hp,ht⟩:=h
 refine Eq.mp (NN p t _) ⟨_,if_pos hp,?_⟩
 have hz: ∀(x:SS),((x.1,x.2.1,x.2.2.1,x.2.2.2.1,()),(x.1,x.2.1,x.2.2.1,x.2.2.2.1,()),false,())=(x,x,false,()):= λx=>rfl
 dsimp only
 by_cases hw:Fw p=true
 ·have hv:=(Gj hw).1
  have e1:Fe (p.1,p.2.1,p.2.2.1,())=(Dq p.2.2.1 (upto p.1.toNat),true,()):=(if_pos hv).trans (by rw [<-hw])
  rw [e1]
  refine ⟨λhb=>by simp at hb,λ_=>⟨_,if_pos ⟨hp,ht⟩,Br.of (λhm=>?_) λhm=>?_⟩⟩
  ·have hm: ¬Bo p t=true:=Dv hm
   rw [if_neg λh=>hm (Nu.1 h).2]
   exact ⟨⟨rfl,rfl⟩,rfl⟩
  have hm:Bo p t=true:=by simpa using hm
  rw [if_pos (Nu.2 ⟨hw,hm⟩)]
  have Xf:Jf.fn (Es p t,())=some (Dq (Es p t).2.2.1 (upto p.1.toNat),true,()):=lT (p:=Es p t) (lV hp hm) (im hw hm)
  exact ⟨_,if_pos ⟨hp,hm⟩,_,Xf,⟨rfl,rfl⟩,rfl⟩
 ·have hwf:(Fe (p.1,p.2.1,p.2.2.1,())).2.1=false:=by
   show (Fe p).2.1=false
   unfold Fe
   split
   ·exact Bool.not_eq_true _|>.mp hw
   ·rfl
  rw [hwf,if_neg λh=>hw (Nu.1 h).1]
  exact ⟨λ_=>⟨⟨rfl,rfl⟩,rfl⟩,λhb=>by simp at hb⟩
theorem wG:Sound Try.prog 52 bD:=
 Sound.Dl Bz (Ae lR (Ae bI (Ae lP Ax))) mixed Try.func52 (by kernel_rfl) (by kernel_rfl) λx h=>MS x.1 x.2.1 h
theorem tB (p:PP) (t s:List Int) (h:Cm p/\short t/\short s):fnW Cy (look [(52,bD),(53,So),(54,Jm)]) Mc Try.f15 (p,t,s,()) (λ(z:Bool)=>z=cj p t s):=by
 obtain ⟨hp,ht,hs⟩:=h
 unfold cj
 by_cases hw:Np p t=true
 ·have he:bD.fn ((p.1,p.2.1,p.2.2.1,()),t,())=some (Dq p.2.2.1 (upto p.1.toNat),Dq (Es p t).2.2.1 (upto p.1.toNat),true,()):=(if_pos ⟨hp,ht⟩).trans (congrArg some (if_pos hw))
  obtain ⟨RX,hm⟩:=Nu.1 hw
  have hv:=(Gj RX).1
  rw [hw,Bool.true_and]
  refine Eq.mp (je p t s _) ⟨_,he,λ_=>⟨_,if_pos ⟨hp,hs,hv,rfl⟩,Br.dec (λUd=>?_) λUd=>?_⟩,λhb=>by simp at hb⟩
  ·have Ud:s∈Be p:=Ud
   have hl:=(DN hv Ud).1
   refine ⟨_,if_pos (by show Cq s.length (Be (Es p t)) (Ro (Be (Es p t)));rw [hl];exact (qG (lW hm)).ok),?_⟩
   show decide (Zv (Be (Es p t)) s>=0)=(decide (s∈Be p)&&_)
   rw [decide_eq_true Ud,Bool.true_and]
   unfold Zv
   split
   ·rename_i hm
    rw [decide_eq_true hm]
    exact decide_eq_true (by omega)
   ·rename_i hm
    rw [decide_eq_false hm]
    rfl
  ·have Ud:s∉Be p:=Ud
   rw [decide_eq_false Ud,Bool.false_and]
 ·have he:bD.fn ((p.1,p.2.1,p.2.2.1,()),t,())=some ((Fe p).1,(Fe p).1,false,()):=(if_pos ⟨hp,ht⟩).trans (congrArg some (if_neg hw))
  rw [Bool.not_eq_true _|>.mp hw,Bool.false_and]
  exact Eq.mp (je p t s _) ⟨_,he,λhb=>by simp at hb,λ_=>rfl⟩
theorem jB:Sound Try.prog 15 Mc:=
 Sound.Dl Bz (Ae wG (Ae nm (Ae Yz Ax))) mixed Try.func15 (by kernel_rfl) (by kernel_rfl) λx h=>tB x.1 x.2.1 x.2.2.1 h
theorem w6 (p:PP) (a:List Int) (b:List Int) (h:Cm p/\short a/\short b):fnW Cy (look [(14,oL),(15,Mc),(18,Mc),(16,j0),(17,Uu),(19,oH),(20,Dc)]) hY Try.f3 (p,a,b,()) (λ(z:Bool)=>z=true):=by
 have h0:Cm (p.1,p.2.1,p.2.2.1,()):=h.1
 have h1:short a:=h.2.1
 have h2:short b:=h.2.2
 refine Eq.mp (wV p a b _) ?_
 refine Br.dec (λ_=>rfl) λAcw=>?_
 refine Br.dec (λ_=>rfl) λAcx=>?_
 refine ⟨_,if_pos ⟨h0,tG⟩,Br.dec (λ_=>rfl) λYX=>?_⟩
 have SA:(((Qd p.2.2.1:Nat):Nat):Int)<=(1048576)-(bf (p.1,p.2.1,p.2.2.1,()) (1048576))/\roomy (bf (p.1,p.2.1,p.2.2.1,()) (1048576)):=DR tG YX
 have Adz:=SA.1
 have Adb:0<=bf (p.1,p.2.1,p.2.2.1,()) (1048576)/\bf (p.1,p.2.1,p.2.2.1,()) (1048576)<=4294967296:=SA.2
 have l0:low (1+(Qd p.2.2.1:Nat)):=⟨by omega,by omega⟩
 have l1:low (1+(Qd p.2.2.1:Nat)+(a.length:Nat)):=⟨by omega,by omega⟩
 have l2:low (1+(Qd p.2.2.1:Nat)+(a.length:Nat)+(b.length:Nat)):=⟨by omega,by omega⟩
 refine ⟨_,if_pos h0,_,if_pos h1,_,if_pos h2,?_⟩
 refine ⟨_,if_pos ⟨h0,h1,h2⟩,_,if_pos h0,_,if_pos h1,_,if_pos h2,?_⟩
 generalize he0:cj p a b=g0
 refine ⟨_,if_pos ⟨h0,h1,h2⟩,?_⟩
 simp only [he0]
 refine ⟨λhe=>yd he,λ_=>?_⟩
 refine ⟨_,if_pos h0,_,if_pos h0,⟨λhe=>absurd (vO _) (Dv he),λ_=>?_⟩⟩
 refine ⟨_,if_pos h1,?_⟩
 refine ⟨_,if_pos h1,⟨λhe=>absurd (Wp _) (Dv he),λ_=>?_⟩⟩
 refine ⟨_,if_pos h2,?_⟩
 refine ⟨_,if_pos h2,⟨λhe=>absurd (Wp _) (Dv he),λ_=>?_⟩⟩
 first|rfl|trivial
theorem lK:Sound Try.prog 3 hY:=
 Sound.Dl Bz (Ae zp (Ae jB (Ae jw (Ae zq (Ae oQ (Ae zk (Ae oP Ax))))))) mixed Try.func3 (by kernel_rfl) (by kernel_rfl) λx h=>w6 x.1 x.2.1 x.2.2.1 h
end Go.Proofs.Ytjbdmibbbpdnnaa
