/-
  Part 42 of the proof that the statement FnExactStageWord holds.
-/
import Derived.Test.YtjbdmibbbpdnnaaCStageWord40
namespace Go.Proofs.Ytjbdmibbbpdnnaa
open Go.RowKit
def ap (p:List Int) (i:Nat):Nat:=(Ca p (i:Int)).toNat
def Pm (n:Nat) (p:List Int):Prop:=p.length=n/\Ud p
theorem Pm.n1 {n:Nat} {p:List Int} (h:Pm n p):1<=n:=h.1▸h.2.pos
theorem Pm.n2 {n:Nat} {p:List Int} (h:Pm n p):n<=20:=h.1▸h.2.len
theorem Pm.Si {n:Nat} {p:List Int} (h:Pm n p) {i:Nat} (hi:i<n):Ca p (i:Int)=(ap p i:Int)/\ap p i<n:=by
 have fk:i<p.length:=by rw [h.1];exact hi
 have:=h.2.row _ (List.getElem_mem fk)
 unfold ap
 rw [Ia fk]
 have h1:=h.1
 omega
theorem Pm.lt {n:Nat} {p:List Int} (h:Pm n p) {i:Nat} (hi:i<n):ap p i<n:=(h.Si hi).2
theorem Pm.ext {n:Nat} {p q:List Int} (h:Pm n p) (k:Pm n q) (e: ∀i,i<n->ap p i=ap q i):p=q:=by
 refine List.ext_getElem (by rw [h.1,k.1]) λi h1 h2=>?_
 have hi:i<n:=by rw [<-h.1];exact h1
 have a:=(h.Si hi).1
 have b:=(k.Si hi).1
 rw [Ia h1] at a
 rw [Ia h2] at b
 rw [a,b,e i hi]
theorem Pm.inj {n:Nat} {p:List Int} (h:Pm n p) {i j:Nat} (hi:i<n) (hj:j<n) (e:ap p i=ap p j):i=j:=
 h.2.inj i j (by rw [h.1];exact hi) (by rw [h.1];exact hj) e
theorem Pm.JE {n:Nat} {p:List Int} (h:Pm n p) {k:Nat} (hk:k<n): ∃i,i<n/\ap p i=k:=by
 obtain ⟨i,h1,h2⟩:=h.2.JE k (by rw [h.1];exact hk)
 exact ⟨i,by rw [<-h.1];exact h1,h2⟩
theorem Pm.of {n:Nat} {p:List Int} (hl:p.length=n) (h1:1<=n) (h2:n<=20) (f:Nat->Nat) (hf: ∀i,i<n->p[i]?=some (f i:Int)/\f i<n) (hi: ∀i j,i<n->j<n->f i=f j->i=j):Pm n p:=by
 refine ⟨hl,by omega,by omega,λy hy=>?_,?_⟩
 ·obtain ⟨i,hi,rfl⟩:=List.mem_iff_getElem.1 hy
  obtain ⟨h3,h4⟩:=hf i (by omega)
  rw [List.getElem?_eq_getElem hi] at h3
  rw [Option.some.inj h3]
  omega
 ·refine List.pairwise_iff_getElem.2 λi j h3 h4 h5 h6=>?_
  have a:=(hf i (by omega)).1
  have b:=(hf j (by omega)).1
  rw [List.getElem?_eq_getElem h3] at a
  rw [List.getElem?_eq_getElem h4] at b
  rw [Option.some.inj a,Option.some.inj b] at h6
  have:=hi i j (by omega) (by omega) (by omega)
  omega
theorem ur {n:Nat} {p q:List Int} (hp:Pm n p) (hq:Pm n q) {i:Nat} (hi:i<n):(Aa p q)[i]?=some (ap q (ap p i):Int):=by
 have h1:i<p.length:=by rw [hp.1];exact hi
 unfold Aa
 rw [List.getElem?_map,List.getElem?_eq_getElem h1]
 have a:=(hp.Si hi).1
 rw [Ia h1] at a
 simp only [Option.map_some,a]
 rw [(hq.Si (hp.Si hi).2).1]
theorem Pm.comp {n:Nat} {p q:List Int} (hp:Pm n p) (hq:Pm n q):Pm n (Aa p q):=
 Pm.of (by rw [Np,hp.1]) hp.n1 hp.n2 (λi=>ap q (ap p i)) (λi hi=>⟨ur hp hq hi,hq.lt (hp.lt hi)⟩) λi j hi hj e=>hp.inj hi hj (hq.inj (hp.lt hi) (hp.lt hj) e)
theorem GO {p:List Int} {i k:Nat} (h:p[i]?=some (k:Int)):ap p i=k:=by
 unfold ap Ca
 rw [Int.toNat_natCast,List.getD_eq_getElem?_getD,h]
 simp
theorem Fk {n:Nat} {p q:List Int} (hp:Pm n p) (hq:Pm n q) {i:Nat} (hi:i<n):ap (Aa p q) i=ap q (ap p i):=GO (ur hp hq hi)
theorem nV {n i:Nat} (hi:i<n):(upto n)[i]?=some (i:Int):=by simp [upto,hi]
theorem dO {n i:Nat} (hi:i<n):ap (upto n) i=i:=GO (nV hi)
theorem Pm.id {n:Nat} (h1:1<=n) (h2:n<=20):Pm n (upto n):=Pm.of (by simp [upto]) h1 h2 (λi=>i) (λi hi=>⟨nV hi,hi⟩) λ_ _ _ _ e=>e
theorem AM {n:Nat} {p:List Int} (hp:Pm n p) {i:Nat} (hi:i<n):(Al p)[ap p i]?=some (i:Int):=IK hp.2 (by rw [hp.1];exact hi)
theorem de {n:Nat} {p:List Int} (hp:Pm n p) {i:Nat} (hi:i<n):ap (Al p) (ap p i)=i:=GO (AM hp hi)
theorem r6 {n:Nat} {p:List Int} (hp:Pm n p) {k:Nat} (hk:k<n):ap p (ap (Al p) k)=k:=by
 obtain ⟨i,hi,rfl⟩:=hp.JE hk
 rw [de hp hi]
theorem Pm.inv {n:Nat} {p:List Int} (hp:Pm n p):Pm n (Al p):=by
 refine Pm.of (by rw [ly,hp.1]) hp.n1 hp.n2 (λk=>ap (Al p) k) (λk hk=>?_) λi j hi hj e=>?_
 ·obtain ⟨i,hi,rfl⟩:=hp.JE hk
  rw [de hp hi]
  exact ⟨AM hp hi,hi⟩
 ·rw [<-r6 hp hi,<-r6 hp hj,e]
theorem Dz {n:Nat} {p q r:List Int} (hp:Pm n p) (hq:Pm n q) (hr:Pm n r):Aa (Aa p q) r=Aa p (Aa q r):=
 ((hp.comp hq).comp hr).ext (hp.comp (hq.comp hr)) λi hi=>by rw [Fk (hp.comp hq) hr hi,Fk hp hq hi,Fk hp (hq.comp hr) hi,Fk hq hr (hp.lt hi)]
theorem comp_id {n:Nat} {p:List Int} (hp:Pm n p):Aa p (upto n)=p:=
 (hp.comp (Pm.id hp.n1 hp.n2)).ext hp λi hi=>by rw [Fk hp (Pm.id hp.n1 hp.n2) hi,dO (hp.lt hi)]
theorem id_comp {n:Nat} {p:List Int} (hp:Pm n p):Aa (upto n) p=p:=
 ((Pm.id hp.n1 hp.n2).comp hp).ext hp λi hi=>by rw [Fk (Pm.id hp.n1 hp.n2) hp hi,dO hi]
theorem bH {n:Nat} {p:List Int} (hp:Pm n p):Aa p (Al p)=upto n:=
 (hp.comp hp.inv).ext (Pm.id hp.n1 hp.n2) λi hi=>by rw [Fk hp hp.inv hi,de hp hi,dO hi]
theorem Ut {n:Nat} {p:List Int} (hp:Pm n p):Aa (Al p) p=upto n:=
 (hp.inv.comp hp).ext (Pm.id hp.n1 hp.n2) λi hi=>by rw [Fk hp.inv hp hi,r6 hp hi,dO hi]
theorem mD {n:Nat} {p q:List Int} (hp:Pm n p) (hq:Pm n q) (h:Aa p q=upto n):Al p=q:=by
 rw [<-comp_id hp.inv,<-h,<-Dz hp.inv hp hq,Ut hp,id_comp hq]
theorem inv_mul {n:Nat} {p q:List Int} (hp:Pm n p) (hq:Pm n q):Al (Aa p q)=Aa (Al q) (Al p):=
 mD (hp.comp hq) (hq.inv.comp hp.inv) (by
  rw [Dz hp hq (hq.inv.comp hp.inv),<-Dz hq hq.inv hp.inv,bH hq,id_comp hp.inv,bH hp])
theorem inv_inv {n:Nat} {p:List Int} (hp:Pm n p):Al (Al p)=p:=mD hp.inv hp (Ut hp)
theorem IL {n:Nat} (h1:1<=n) (h2:n<=20):Al (upto n)=upto n:=mD (Pm.id h1 h2) (Pm.id h1 h2) (comp_id (Pm.id h1 h2))
inductive Xj (n:Nat) (S:List Int->Prop):List Int->Prop where
 |id:Xj n S (upto n)
 |mul {p g:List Int} :Xj n S p->S g->Xj n S (Aa p g)
 |inv {p g:List Int} :Xj n S p->S g->Xj n S (Aa p (Al g))
def zz (n:Nat) (S:List Int->Prop):Prop:=(1<=n/\n<=20)/\ ∀g,S g->Pm n g
theorem Xj.pm {n:Nat} {S:List Int->Prop} (hS:zz n S) {p:List Int} (h:Xj n S p):Pm n p:=by
 induction h with
 |id=>exact Pm.id hS.1.1 hS.1.2
 |mul _ hg ih=>exact ih.comp (hS.2 _ hg)
 |inv _ hg ih=>exact ih.comp (hS.2 _ hg).inv
theorem Xj.comp {n:Nat} {S:List Int->Prop} (hS:zz n S) {p q:List Int} (hp:Xj n S p) (hq:Xj n S q):Xj n S (Aa p q):=by
 induction hq with
 |id=>rw [comp_id (hp.pm hS)];exact hp
 |mul hq hg ih=>rw [<-Dz (hp.pm hS) (hq.pm hS) (hS.2 _ hg)];exact .mul ih hg
 |inv hq hg ih=>rw [<-Dz (hp.pm hS) (hq.pm hS) (hS.2 _ hg).inv];exact .inv ih hg
theorem Xj.one {n:Nat} {S:List Int->Prop} (hS:zz n S) {g:List Int} (hg:S g):Xj n S g:=by
 have:=Xj.mul (n:=n) (S:=S) .id hg
 rwa [id_comp (hS.2 g hg)] at this
theorem Xj.UQ {n:Nat} {S:List Int->Prop} (hS:zz n S) {g:List Int} (hg:S g):Xj n S (Al g):=by
 have:=Xj.inv (n:=n) (S:=S) .id hg
 rwa [id_comp (hS.2 g hg).inv] at this
theorem Xj.rU {n:Nat} {S:List Int->Prop} (hS:zz n S) {p:List Int} (hp:Xj n S p):Xj n S (Al p):=by
 induction hp with
 |id=>rw [IL hS.1.1 hS.1.2];exact .id
 |mul hq hg ih=>rw [inv_mul (hq.pm hS) (hS.2 _ hg)];exact (Xj.UQ hS hg).comp hS ih
 |inv hq hg ih=>rw [inv_mul (hq.pm hS) (hS.2 _ hg).inv,inv_inv (hS.2 _ hg)];exact (Xj.one hS hg).comp hS ih
theorem Xj.trans {n:Nat} {S S':List Int->Prop} (YC:zz n S') (h: ∀g,S g->Xj n S' g) {p:List Int} (hp:Xj n S p):Xj n S' p:=by
 induction hp with
 |id=>exact .id
 |mul _ hg ih=>exact ih.comp YC (h _ hg)
 |inv _ hg ih=>exact ih.comp YC ((h _ hg).rU YC)
abbrev PO:=Option (List Int)
abbrev Row:=List PO
abbrev Cz:=List Row
def Hu (row:Row):List Int:=(upto row.length).filter λy=>(row.getD y.toNat none).isSome
def Iu (T:Cz):Nat->Nat->List Int->Bool
 |0,_,_=>true
 |k+1,i,p=>match (T.getD i []).getD (Ca p (i:Int)).toNat none with
  |none=>false
  |some t=>Iu T k (i+1) (Aa p (Al t))
def Lh (row:Row):Nat:=row.countP (·.isNone)
def Tb (x:Int) (s:Row×List Int) (o:PO):Row×List Int:=
 match s.1.getD (Ca (o.getD []) x).toNat none with
 |some _=>s
 |none=>(s.1.set (Ca (o.getD []) x).toNat (some (Aa ((s.1.getD x.toNat none).getD []) (o.getD []))),s.2++ [Ca (o.getD []) x])
def Sr (x:Int) (gs:List PO) (s:Row×List Int):Row×List Int:=gs.foldl (Tb x) s
def Sl (gs:List PO):Nat->List Int->Row->Row
 |0,_,row=>row
 |_+1,[],row=>row
 |f+1,x::q,row=>Sl gs f (Sr x gs (row,q)).2 (Sr x gs (row,q)).1
def Rk (gs:List PO) (row:Row):Row:=Sl gs 100 (Hu row) row
def Mw (row:Row) (y:Int) (g:PO):List Int:=
 Aa (Aa ((row.getD y.toNat none).getD []) (g.getD [])) (Al ((row.getD (Ca (g.getD []) y).toNat none).getD []))
def aV (row:Row) (gs:List PO):List (List Int):=(Hu row).flatMap λy=>gs.map λg=>Mw row y g
def Dr:Nat->Nat->List Int->Cz×Cz->Cz×Cz
 |0,_,_,s=>s
 |k+1,l,p,s=>
  if Iu s.2 (k+1) l p=true then s else
   (aV (Rk (s.1.getD l []++ [some p]) (s.2.getD l [])) (s.1.getD l []++ [some p])).foldl (λs q=>Dr k (l+1) q s)
    (s.1.set l (s.1.getD l []++ [some p]),s.2.set l (Rk (s.1.getD l []++ [some p]) (s.2.getD l [])))
def Fx (l:Nat) (p:List Int):Prop:= ∀i,i<l->ap p i=i
def Gn (n:Nat) (gs:List PO):List Int->Prop:=Xj n λg=>some g∈gs
structure MF (n l:Nat) (gs:List PO) (row:Row) (H:List Int->Prop):Prop where
 pg: ∀o∈gs,∃g,o=some g/\Pm n g/\Fx l g
 rl:row.length=n
 r0:row.getD l none=some (upto n)
 rt: ∀y t,row.getD y none=some t->Pm n t/\Fx l t/\ap t l=y/\Gn n gs t
 cl: ∀y t g,row.getD y none=some t->some g∈gs->row.getD (ap g y) none≠none
 sg: ∀y t g t',row.getD y none=some t->some g∈gs->row.getD (ap g y) none=some t'->H (Aa (Aa t g) (Al t'))
def eN (n:Nat):Nat->Nat->Cz×Cz->Prop
 |0,l,s=>s.1.getD l []= []
 |k+1,l,s=>eN n k (l+1) s/\MF n l (s.1.getD l []) (s.2.getD l []) (λq=>Iu s.2 k (l+1) q=true)/\ ∀g,some g∈s.1.getD (l+1) []->Gn n (s.1.getD l []) g
theorem PD {l1 l2:List Nat} (hn:l1.Nodup) (hs: ∀x∈l1,x∈l2) (hl:l2.length<=l1.length): ∀x∈l2,x∈l1:=by
 induction l1 generalizing l2 with
 |nil=>
  intro x hx
  have:l2= []:=List.eq_nil_of_length_eq_zero (by simpa using hl)
  rw [this] at hx;cases hx
 |cons a l ih=>
  intro x hx
  obtain ⟨h1,h2⟩:=List.nodup_cons.1 hn
  have ha:=hs a (by simp)
  by_cases e:x=a
  ·subst e;simp
  ·refine List.mem_cons_of_mem _ (ih (l2:=l2.erase a) h2 (λy hy=>?_) ?_ x ((List.mem_erase_of_ne e).2 hx))
   ·have hya:y≠a:= λe'=>h1 (by rw [<-e'];exact hy)
    exact (List.mem_erase_of_ne hya).2 (hs y (by simp [hy]))
   ·rw [List.length_erase_of_mem ha]
    simp only [List.length_cons] at hl
    omega
theorem yy {n:Nat} {g:List Int} (hg:Pm n g) (D:Nat->Bool) (h: ∀y,y<n->D y=true->D (ap g y)=true) {y:Nat} (hy:y<n) (hD:D y=true): ∃x,x<n/\D x=true/\ap g x=y:=by
 have:=PD (l1:=((List.range n).filter D).map (ap g)) (l2:=(List.range n).filter D) ?_ ?_ (by simp) y (List.mem_filter.2 ⟨List.mem_range.2 hy,hD⟩)
 ·obtain ⟨x,hx,e⟩:=List.mem_map.1 this
  obtain ⟨h1,h2⟩:=List.mem_filter.1 hx
  exact ⟨x,List.mem_range.1 h1,h2,e⟩
 ·refine List.pairwise_map.2 (List.Pairwise.imp_of_mem ?_ (List.nodup_range.filter D))
  intro a b ha hb Ek e
  exact Ek (hg.inj (List.mem_range.1 (List.mem_filter.1 ha).1) (List.mem_range.1 (List.mem_filter.1 hb).1) e)
 ·intro x hx
  obtain ⟨z,hz,rfl⟩:=List.mem_map.1 hx
  obtain ⟨h1,h2⟩:=List.mem_filter.1 hz
  exact List.mem_filter.2 ⟨List.mem_range.2 (hg.lt (List.mem_range.1 h1)),h z (List.mem_range.1 h1) h2⟩
theorem lp {row:Row} {y:Nat} {t:List Int} (h:row.getD y none=some t):y<row.length:=by
 rw [List.getD_eq_getElem?_getD] at h
 refine Classical.byContradiction λhn=>?_
 rw [List.getElem?_eq_none (by omega)] at h
 cases h
theorem MF.pms {n l:Nat} {gs:List PO} {row:Row} {H:List Int->Prop} (h:MF n l gs row H):zz n λg=>some g∈gs:=by
 refine ⟨?_,λg hg=>?_⟩
 ·have:=(h.rt l _ h.r0).1
  exact ⟨this.n1,this.n2⟩
 ·obtain ⟨g',e,h1,_⟩:=h.pg _ hg
  cases e;exact h1
theorem Fx.inv {n l:Nat} {p:List Int} (hp:Pm n p) (h:Fx l p) (hl:l<=n):Fx l (Al p):= λi hi=>by
 have:=de hp (i:=i) (by omega)
 rwa [h i hi] at this
theorem Fx.comp {n l:Nat} {p q:List Int} (hp:Pm n p) (hq:Pm n q) (h1:Fx l p) (h2:Fx l q) (hl:l<=n):Fx l (Aa p q):= λi hi=>by
 rw [Fk hp hq (by omega),h1 i hi,h2 i hi]
theorem Fx.all {n:Nat} {p:List Int} (hp:Pm n p) (h:Fx n p):p=upto n:=hp.ext (Pm.id hp.n1 hp.n2) λi hi=>by rw [h i hi,dO hi]
theorem Fx.div {n l:Nat} {p t:List Int} (hp:Pm n p) (ht:Pm n t) (h1:Fx l p) (h2:Fx l t) (hl:l<n) (e:ap t l=ap p l):Fx (l+1) (Aa p (Al t)):= λi hi=>by
 rw [Fk hp ht.inv (by omega)]
 by_cases LX:i<l
 ·rw [h1 i LX];exact h2.inv ht (by omega) i LX
 ·have:i=l:=by omega
  subst this
  rw [<-e,de ht hl]
theorem gy {n:Nat} (h1:1<=n) (h2:n<=20): ∀(k l:Nat) (s:Cz×Cz),l+k=n->eN n k l s-> ∀p,Pm n p->Fx l p->(Iu s.2 k l p=true↔Gn n (s.1.getD l []) p)
 |0,l,s,hk,hc,p,hp,hf=>by
  have hl:l=n:=by omega
  subst hl
  rw [hf.all hp]
  exact ⟨λ_=> .id,λ_=>rfl⟩
 |k+1,l,s,hk,hc,p,hp,hf=>by
  obtain ⟨c1,c2,c3⟩:=hc
  have hS:=c2.pms
  have ih:=gy h1 h2 k (l+1) s (by omega) c1
  have hS1:zz n λg=>some g∈s.1.getD (l+1) []:=⟨⟨h1,h2⟩,λg hg=>(c3 g hg).pm hS⟩
  have aO:l<n:=by omega
  constructor
  ·intro h
   simp only [Iu] at h
   rw [show (Ca p (l:Int)).toNat=ap p l from rfl] at h
   split at h
   ·cases h
   ·rename_i t ht
    obtain ⟨t1,t2,t3,t4⟩:=c2.rt _ _ ht
    have QW:=Fx.div hp t1 hf t2 aO t3
    have hg:=((ih _ (hp.comp t1.inv) QW).1 h).trans hS c3
    have:=Xj.comp hS hg t4
    rwa [Dz hp t1.inv t1,Ut t1,comp_id hp] at this
  ·intro h
   have key: ∀q,Gn n (s.1.getD l []) q-> ∃t,(s.2.getD l []).getD (ap q l) none=some t/\Gn n (s.1.getD (l+1) []) (Aa q (Al t)):=by
    intro q hq
    induction hq with
    |id=>
     refine ⟨upto n,by rw [dO aO];exact c2.r0,?_⟩
     rw [IL h1 h2,comp_id (Pm.id h1 h2)]
     exact .id
    | @mul q g hq hg ihq=>
     obtain ⟨t,e1,e2⟩:=ihq
     have RL:=Xj.pm hS hq
     have Ps:=hS.2 _ hg
     obtain ⟨t1,t2,t3,t4⟩:=c2.rt _ _ e1
     cases e3:(s.2.getD l []).getD (ap g (ap q l)) none with
     |none=>exact absurd e3 (c2.cl _ _ _ e1 hg)
     |some t'=>
      obtain ⟨u1,u2,u3,u4⟩:=c2.rt _ _ e3
      have hsg:=c2.sg _ _ _ _ e1 hg e3
      have hfg:Fx (l+1) (Aa (Aa t g) (Al t')):=Fx.div (t1.comp Ps) u1 (Fx.comp t1 Ps t2 (by obtain ⟨g',e,_,h⟩:=c2.pg _ hg;cases e;exact h) (by omega)) u2 aO (by rw [u3,Fk t1 Ps aO,t3])
      have TE:=(ih _ ((t1.comp Ps).comp u1.inv) hfg).1 hsg
      refine ⟨t',by rw [Fk RL Ps aO];exact e3,?_⟩
      have:=Xj.comp hS1 e2 TE
      rwa [show Aa (Aa q (Al t)) (Aa (Aa t g) (Al t'))=Aa (Aa q g) (Al t') by
       rw [Dz RL t1.inv ((t1.comp Ps).comp u1.inv),Dz t1 Ps u1.inv,<-Dz t1.inv t1 (Ps.comp u1.inv),Ut t1,id_comp (Ps.comp u1.inv),Dz RL Ps u1.inv]] at this
    | @inv q g hq hg ihq=>
     obtain ⟨t,e1,e2⟩:=ihq
     have RL:=Xj.pm hS hq
     have Ps:=hS.2 _ hg
     obtain ⟨t1,t2,t3,t4⟩:=c2.rt _ _ e1
     have hy:ap q l<n:=RL.lt aO
     obtain ⟨x,hx,hD,he⟩:=yy Ps (λy=>((s.2.getD l []).getD y none).isSome) (λy hy hd=>by
      obtain ⟨t0,NU⟩:=Option.isSome_iff_exists.1 hd
      exact Option.ne_none_iff_isSome.1 (c2.cl _ _ _ NU hg)) hy (by rw [e1];rfl)
     obtain ⟨t',e3⟩:=Option.isSome_iff_exists.1 hD
     obtain ⟨u1,u2,u3,u4⟩:=c2.rt _ _ e3
     have hsg:=c2.sg _ _ _ _ e3 hg (by rw [he];exact e1)
     have hfg:Fx (l+1) (Aa (Aa t' g) (Al t)):=Fx.div (u1.comp Ps) t1 (Fx.comp u1 Ps u2 (by obtain ⟨g',e,_,h⟩:=c2.pg _ hg;cases e;exact h) (by omega)) t2 aO (by rw [t3,Fk u1 Ps aO,u3,he])
     have TE:=Xj.rU hS1 ((ih _ ((u1.comp Ps).comp t1.inv) hfg).1 hsg)
     have hax:ap (Al g) (ap q l)=x:=by rw [<-he,de Ps hx]
     refine ⟨t',by rw [Fk RL Ps.inv aO,hax];exact e3,?_⟩
     have:=Xj.comp hS1 e2 TE
     rwa [show Aa (Aa q (Al t)) (Al (Aa (Aa t' g) (Al t)))=Aa (Aa q (Al g)) (Al t') by
      rw [inv_mul (u1.comp Ps) t1.inv,inv_inv t1,inv_mul u1 Ps,Dz RL t1.inv (t1.comp (Ps.inv.comp u1.inv)),<-Dz t1.inv t1 (Ps.inv.comp u1.inv),Ut t1,id_comp (Ps.inv.comp u1.inv),Dz RL Ps.inv u1.inv]] at this
   obtain ⟨t,e1,e2⟩:=key p h
   obtain ⟨t1,t2,t3,t4⟩:=c2.rt _ _ e1
   simp only [Iu]
   rw [show (Ca p (l:Int)).toNat=ap p l from rfl,e1]
   exact (ih _ (hp.comp t1.inv) (Fx.div hp t1 hf t2 aO t3)).2 e2
end Go.Proofs.Ytjbdmibbbpdnnaa

namespace Go.Proofs.Ytjbdmibbbpdnnaa
open Go.RowKit
theorem Ns {α:Type} (xs:List α) (i j:Nat) (x d:α):(xs.set i x).getD j d=if i=j/\i<xs.length then x else xs.getD j d:=by
 rw [List.getD_eq_getElem?_getD,List.getElem?_set,List.getD_eq_getElem?_getD]
 by_cases e:i=j
 ·subst e
  by_cases h:i<xs.length
  ·rw [if_pos rfl,if_pos h,if_pos ⟨rfl,h⟩];rfl
  ·rw [if_pos rfl,if_neg h,if_neg (λhh=>h hh.2),List.getElem?_eq_none (by omega)]
 ·rw [if_neg e,if_neg (λhh=>e hh.1)]
theorem Xj.mono {n:Nat} {S S':List Int->Prop} (h: ∀g,S g->S' g) {p:List Int} (hp:Xj n S p):Xj n S' p:=by
 induction hp with
 |id=>exact .id
 |mul _ hg ih=>exact .mul ih (h _ hg)
 |inv _ hg ih=>exact .inv ih (h _ hg)
structure Ro (n l:Nat) (gs:List PO) (row:Row):Prop where
 rl:row.length=n
 r0:row.getD l none=some (upto n)
 rt: ∀y t,row.getD y none=some t->Pm n t/\Fx l t/\ap t l=y/\Gn n gs t
def PG (n l:Nat) (gs:List PO):Prop:= ∀o∈gs,∃g,o=some g/\Pm n g/\Fx l g
structure Ext (n l:Nat) (gs:List PO) (row:Row) (q:List Int) (s':Row×List Int):Prop where
 ok:Ro n l gs s'.1
 mono: ∀y t,row.getD y none=some t->s'.1.getD y none=some t
 XF:s'.2.length+Lh s'.1=q.length+Lh row
 o6: ∀y∈q,y∈s'.2
 new: ∀y∈s'.2,y∈q\/ ∃yn:Nat,y=yn/\s'.1.getD yn none≠none
 src: ∀y:Nat,s'.1.getD y none≠none->row.getD y none≠none\/(y:Int)∈s'.2
theorem Ext.refl {n l:Nat} {gs:List PO} {row:Row} {q:List Int} (h:Ro n l gs row):Ext n l gs row q (row,q):=⟨h,λ_ _ h=>h,rfl,λ_ h=>h,λ_ h=> .inl h,λ_ h=> .inl h⟩
theorem a5 {a b:Row} (h: ∀y t,a.getD y none=some t->b.getD y none=some t) {y:Nat} (hy:a.getD y none≠none):b.getD y none≠none:=by
 cases e:a.getD y none with
 |none=>exact absurd e hy
 |some t=>rw [h y t e];simp
theorem Ext.trans {n l:Nat} {gs:List PO} {row:Row} {q:List Int} {s1 s2:Row×List Int} (h:Ext n l gs row q s1) (k:Ext n l gs s1.1 s1.2 s2):Ext n l gs row q s2:=by
 refine ⟨k.ok,λy t e=>k.mono y t (h.mono y t e),k.XF.trans h.XF,λy hy=>k.o6 y (h.o6 y hy),λy hy=>?_,λy hy=>?_⟩
 ·rcases k.new y hy with h1|h1
  ·rcases h.new y h1 with h2|⟨yn,h2,h3⟩
   ·exact .inl h2
   ·exact .inr ⟨yn,h2,a5 k.mono h3⟩
  ·exact .inr h1
 ·rcases k.src y hy with h1|h1
  ·exact (h.src y h1).imp id λh2=>k.o6 _ h2
  ·exact .inr h1
theorem CX {row:Row} {i:Nat} {t:List Int} (h:row.getD i none=none) (hi:i<row.length):Lh (row.set i (some t))+1=Lh row:=by
 unfold Lh
 have e:row[i]=none:=by
  rw [List.getD_eq_getElem?_getD,List.getElem?_eq_getElem hi] at h
  exact h
 have h1:=List.countP_set (p:= λo:PO=>o.isNone) (l:=row) (i:=i) (a:=some t) hi
 have mA:0<row.countP (·.isNone):=List.countP_pos_iff.2 ⟨row[i],List.getElem_mem hi,by rw [e];rfl⟩
 rw [h1,e]
 simp
 omega
theorem PC {n l:Nat} {gs:List PO} (aO:l<n) (hg:PG n l gs) {row:Row} {q:List Int} (h:Ro n l gs row) {x:Nat} {t:List Int} (hx:row.getD x none=some t) {g:List Int} (ho:some g∈gs):
  Ext n l gs row q (Tb (x:Int) (row,q) (some g))/\(Tb (x:Int) (row,q) (some g)).1.getD (ap g x) none≠none:=by
 obtain ⟨g',e,Ps,TD⟩:=hg _ ho
 cases e
 obtain ⟨t1,t2,t3,t4⟩:=h.rt _ _ hx
 have AK:x<n:=by rw [<-h.rl];exact lp hx
 obtain ⟨a1,a2⟩:=Ps.Si AK
 unfold Tb
 simp only [Option.getD_some,a1,Int.toNat_natCast]
 cases e:row.getD (ap g x) none with
 |some u=>exact ⟨Ext.refl h,by simp only;rw [e];simp⟩
 |none=>
  simp only [hx,Option.getD_some]
  have hl:ap g x<row.length:=by rw [h.rl];exact a2
  have hS:zz n λg=>some g∈gs:=⟨⟨t1.n1,t1.n2⟩,λg Yz=>by obtain ⟨g',e,h1,_⟩:=hg _ Yz;cases e;exact h1⟩
  have Ae: ∀y,(row.set (ap g x) (some (Aa t g))).getD y none=if ap g x=y/\ap g x<row.length then some (Aa t g) else row.getD y none:= λy=>Ns _ _ _ _ _
  have Ek: ∀y u,row.getD y none=some u->ap g x≠y:= λy u hu e'=>by rw [<-e',e] at hu;cases hu
  refine ⟨⟨⟨by simp [h.rl],?_,λy u hu=>?_⟩,λy u hu=>?_,?_,λy hy=>List.mem_append_left _ hy,λy hy=>?_,λy hy=>?_⟩,?_⟩
  ·rw [Ae,if_neg (λhh=>Ek l _ h.r0 hh.1)];exact h.r0
  ·rw [Ae] at hu
   split at hu
   ·rename_i hc
    cases hu
    exact ⟨t1.comp Ps,Fx.comp t1 Ps t2 TD (by omega),by rw [Fk t1 Ps aO,t3];exact hc.1, .mul t4 ho⟩
   ·exact h.rt y u hu
  ·show (row.set (ap g x) (some (Aa t g))).getD y none=some u
   rw [Ae,if_neg (λhh=>Ek y u hu hh.1)];exact hu
  ·have:=CX (t:=Aa t g) e hl
   simp only [List.length_append,List.length_cons,List.length_nil]
   omega
  ·rcases List.mem_append.1 hy with hy|hy
   ·exact .inl hy
   ·simp only [List.mem_singleton] at hy
    exact .inr ⟨ap g x,hy,by show (row.set (ap g x) (some (Aa t g))).getD (ap g x) none≠none;rw [Ae,if_pos ⟨rfl,hl⟩];simp⟩
  ·have hy:(row.set (ap g x) (some (Aa t g))).getD y none≠none:=hy
   rw [Ae] at hy
   split at hy
   ·rename_i hc
    exact .inr (by show (y:Int)∈q++ [(ap g x:Int)];rw [<-hc.1];simp)
   ·exact .inl hy
  ·show (row.set (ap g x) (some (Aa t g))).getD (ap g x) none≠none
   rw [Ae,if_pos ⟨rfl,hl⟩];simp
theorem JV {n l:Nat} {gs:List PO} (aO:l<n) (hg:PG n l gs): ∀(QK:List PO) {row:Row} {q:List Int},(∀o∈QK,o∈gs)->Ro n l gs row-> ∀ {x:Nat} {t:List Int},row.getD x none=some t->
  Ext n l gs row q (Sr (x:Int) QK (row,q))/\ ∀g,some g∈QK->(Sr (x:Int) QK (row,q)).1.getD (ap g x) none≠none
 | [],row,q,_,h,x,t,hx=>⟨Ext.refl h,λg hg=>by cases hg⟩
 |o::QK,row,q,hs,h,x,t,hx=>by
  obtain ⟨g,rfl,_,_⟩:=hg o (hs o (by simp))
  obtain ⟨e1,e2⟩:=PC (q:=q) aO hg h hx (hs (some g) (by simp))
  obtain ⟨f1,f2⟩:=JV aO hg QK (q:=(Tb (x:Int) (row,q) (some g)).2) (λo ho=>hs o (by simp [ho])) e1.ok (e1.mono x t hx)
  have hb:Sr (x:Int) (some g::QK) (row,q)=Sr (x:Int) QK ((Tb (x:Int) (row,q) (some g)).1,(Tb (x:Int) (row,q) (some g)).2):=rfl
  rw [hb]
  refine ⟨e1.trans f1,λg' Yz=>?_⟩
  rcases List.mem_cons.1 Yz with e|Yz
  ·cases e;exact a5 f1.mono e2
  ·exact f2 g' Yz
def BG (gs:List PO) (q:List Int) (row:Row):Prop:=
 (∀y∈q,∃yn:Nat,y=yn/\row.getD yn none≠none)/\ ∀y:Nat,row.getD y none≠none->(y:Int)∈q\/ ∀g,some g∈gs->row.getD (ap g y) none≠none
theorem yI {n l:Nat} {gs:List PO} (aO:l<n) (hg:PG n l gs) {x:Int} {q:List Int} {row:Row} (h:Ro n l gs row) (hq:BG gs (x::q) row):
  Ext n l gs row q (Sr x gs (row,q))/\BG gs (Sr x gs (row,q)).2 (Sr x gs (row,q)).1/\ ∃(xn:Nat) (t:List Int),x=xn/\row.getD xn none=some t:=by
 obtain ⟨xn,rfl,hx⟩:=hq.1 x (by simp)
 cases e:row.getD xn none with
 |none=>exact absurd e hx
 |some t=>
  obtain ⟨e1,e2⟩:=JV aO hg gs (q:=q) (λo ho=>ho) h e
  refine ⟨e1,⟨λy hy=>?_,λy hy=>?_⟩,xn,t,rfl,e⟩
  ·rcases e1.new y hy with h1|h1
   ·obtain ⟨yn,h2,h3⟩:=hq.1 y (by simp [h1])
    exact ⟨yn,h2,a5 e1.mono h3⟩
   ·exact h1
  ·rcases e1.src y hy with h1|h1
   ·rcases hq.2 y h1 with h2|h2
    ·rcases List.mem_cons.1 h2 with h2|h2
     ·have:y=xn:=by omega
      subst this
      exact .inr λg Yz=>e2 g Yz
     ·exact .inl (e1.o6 _ h2)
    ·exact .inr λg Yz=>a5 e1.mono (h2 g Yz)
   ·exact .inl h1
theorem KA {n l:Nat} {gs:List PO} (aO:l<n) (hg:PG n l gs): ∀(f:Nat) (q:List Int) (row:Row),q.length+Lh row<=f->Ro n l gs row->BG gs q row->
  Ro n l gs (Sl gs f q row)/\(∀y t,row.getD y none=some t->(Sl gs f q row).getD y none=some t)/\ ∀y t g,(Sl gs f q row).getD y none=some t->some g∈gs->(Sl gs f q row).getD (ap g y) none≠none
 |0,q,row,hf,h,hq=>by
  have:q= []:=List.eq_nil_of_length_eq_zero (by omega)
  subst this
  exact ⟨h,λ_ _ h=>h,λy t g e Yz=>by
   rcases hq.2 y (by rw [show row.getD y none=some t from e];simp) with h1|h1
   ·cases h1
   ·exact h1 g Yz⟩
 |f+1,[],row,hf,h,hq=>⟨h,λ_ _ h=>h,λy t g e Yz=>by
   rcases hq.2 y (by rw [show row.getD y none=some t from e];simp) with h1|h1
   ·cases h1
   ·exact h1 g Yz⟩
 |f+1,x::q,row,hf,h,hq=>by
  obtain ⟨e1,e2,_⟩:=yI aO hg h hq
  obtain ⟨r1,r2,r3⟩:=KA aO hg f _ _ (by have:=e1.XF;simp only [List.length_cons] at hf;omega) e1.ok e2
  exact ⟨r1,λy t e=>r2 y t (e1.mono y t e),r3⟩
theorem Mz {row:Row} {y:Int} :y∈Hu row↔ ∃yn:Nat,y=yn/\row.getD yn none≠none:=by
 unfold Hu
 rw [List.mem_filter,Ih]
 constructor
 ·rintro ⟨h1,h2⟩
  exact ⟨y.toNat,by omega,Option.ne_none_iff_isSome.2 h2⟩
 ·rintro ⟨yn,rfl,h⟩
  obtain ⟨t,ht⟩:=Option.ne_none_iff_exists'.1 h
  exact ⟨by have:=lp ht;omega,by simpa using Option.ne_none_iff_isSome.1 h⟩
theorem so (row:Row):(Hu row).length<=row.length:=by
 unfold Hu
 refine Nat.le_trans (List.length_filter_le _ _) (by simp [upto])
theorem vT (row:Row):Lh row<=row.length:=List.countP_le_length
theorem vX {n l:Nat} {gs:List PO} (aO:l<n) (h2:n<=20) (hg:PG n l gs) {row:Row} (h:Ro n l gs row):
  Ro n l gs (Rk gs row)/\(∀y t,row.getD y none=some t->(Rk gs row).getD y none=some t)/\ ∀y t g,(Rk gs row).getD y none=some t->some g∈gs->(Rk gs row).getD (ap g y) none≠none:=
 KA aO hg 100 _ _ (by have:=so row;have:=vT row;have:=h.rl;omega) h ⟨λy hy=>Mz.1 hy,λy hy=> .inl (Mz.2 ⟨y,rfl,hy⟩)⟩
theorem uh {n l:Nat} {gs:List PO} (aO:l<n) (hg:PG n l gs): ∀(f:Nat) (q:List Int) (row:Row),q.length+Lh row<=f->Ro n l gs row->BG gs q row->Sl gs f q row=Sl gs (q.length+Lh row) q row
 |0,q,row,hf,_,_=>by
  have:q.length+Lh row=0:=by omega
  rw [this]
 |f+1,[],row,hf,_,_=>by
  cases h:([]:List Int).length+Lh row with
  |zero=>rfl
  |succ m=>rfl
 |f+1,x::q,row,hf,h,hq=>by
  obtain ⟨e1,e2,_⟩:=yI aO hg h hq
  have NP:=e1.XF
  have:(x::q).length+Lh row=(q.length+Lh row)+1:=by simp only [List.length_cons];omega
  rw [this]
  simp only [Sl]
  rw [uh aO hg f _ _ (by simp only [List.length_cons] at hf;omega) e1.ok e2,NP]
def uq (row:Row):Nat:=row.countP (·.isSome)
theorem pF: ∀(a b:Row),a.length=b.length->(∀y t,a.getD y none=some t->b.getD y none=some t)->uq a<=uq b/\(uq a=uq b->a=b)
 | [],[],_,_=>⟨Nat.le_refl _,λ_=>rfl⟩
 | [],_::_,h,_=>by simp at h
 |_::_,[],h,_=>by simp at h
 |x::a,y::b,h,hm=>by
  obtain ⟨h1,h2⟩:=pF a b (by simpa using h) λi t e=>by simpa using hm (i+1) t (by simpa using e)
  unfold uq at h1 h2⊢
  cases x with
  |none=>
   cases y with
   |none=>simp only [List.countP_cons];exact ⟨by simpa using h1,λe=>by rw [h2 (by simpa using e)]⟩
   |some u=>
    simp only [List.countP_cons,Option.isSome_none,Option.isSome_some]
    simp only [if_true,Bool.false_eq_true,if_false]
    exact ⟨by omega,λe=>by omega⟩
  |some t=>
   have:=hm 0 t (by simp)
   simp only [List.getD_cons_zero] at this
   subst this
   simp only [List.countP_cons]
   exact ⟨by simpa using h1,λe=>by rw [h2 (by simpa using e)]⟩
def fE (T:Cz):Nat->Nat->Nat
 |0,_=>0
 |k+1,l=>uq (T.getD l [])+fE T k (l+1)
def XL:Nat->Nat->Cz×Cz->Prop
 |0,_,_=>True
 |k+1,l,s=>XL k (l+1) s/\(s.1.getD l []).length<=fE s.2 (k+1) l
structure Wp (l0:Nat) (s s':Cz×Cz):Prop where
 Aah:s'.1.length=s.1.length
 mI:s'.2.length=s.2.length
 low: ∀i,i<l0->s'.1.getD i []=s.1.getD i []/\s'.2.getD i []=s.2.getD i []
 zR: ∀i o,o∈s.1.getD i []->o∈s'.1.getD i []
 KY: ∀i y t,(s.2.getD i []).getD y none=some t->(s'.2.getD i []).getD y none=some t
 VG: ∀i,(s'.2.getD i []).length=(s.2.getD i []).length
theorem Wp.refl (l0:Nat) (s:Cz×Cz):Wp l0 s s:=⟨rfl,rfl,λ_ _=>⟨rfl,rfl⟩,λ_ _ h=>h,λ_ _ _ h=>h,λ_=>rfl⟩
theorem Wp.trans {l0 l1:Nat} {a b c:Cz×Cz} (h:Wp l0 a b) (k:Wp l1 b c) (hl:l0<=l1):Wp l0 a c:=
 ⟨k.Aah.trans h.Aah,k.mI.trans h.mI,λi hi=>⟨(k.low i (by omega)).1.trans (h.low i hi).1,(k.low i (by omega)).2.trans (h.low i hi).2⟩,λi o ho=>k.zR i o (h.zR i o ho),λi y t e=>k.KY i y t (h.KY i y t e),λi=>(k.VG i).trans (h.VG i)⟩
theorem Wp.Es {l0 l1:Nat} {a b:Cz×Cz} (h:Wp l1 a b) (hl:l0<=l1):Wp l0 a b:=(Wp.refl l0 a).trans h hl
theorem bZ {T T':Cz} : ∀(k l:Nat) (p:List Int),(∀i,l<=i->i<l+k->T'.getD i []=T.getD i [])->Iu T' k l p=Iu T k l p
 |0,_,_,_=>rfl
 |k+1,l,p,h=>by
  simp only [Iu]
  rw [h l (Nat.le_refl _) (by omega)]
  split
  ·rfl
  ·exact bZ k (l+1) _ λi h1 h2=>h i (by omega) (by omega)
theorem eY {n:Nat} {s s':Cz×Cz} : ∀(k l:Nat),(∀i,l<=i->s'.1.getD i []=s.1.getD i []/\s'.2.getD i []=s.2.getD i [])->eN n k l s->eN n k l s'
 |0,l,h,hc=>by simp only [eN] at hc⊢;rw [(h l (Nat.le_refl _)).1];exact hc
 |k+1,l,h,hc=>by
  simp only [eN] at hc⊢
  obtain ⟨c1,c2,c3⟩:=hc
  refine ⟨eY k (l+1) (λi hi=>h i (by omega)) c1,?_,?_⟩
  ·rw [(h l (Nat.le_refl _)).1,(h l (Nat.le_refl _)).2]
   have e:(λq=>Iu s'.2 k (l+1) q=true)= λq=>Iu s.2 k (l+1) q=true:=funext λq=>by rw [bZ k (l+1) q λi h1 h2=>(h i (by omega)).2]
   rw [e];exact c2
  ·rw [(h (l+1) (by omega)).1,(h l (Nat.le_refl _)).1];exact c3
theorem qn {T T':Cz} : ∀(k l:Nat),(∀i,l<=i->T'.getD i []=T.getD i [])->fE T' k l=fE T k l
 |0,_,_=>rfl
 |k+1,l,h=>by simp only [fE];rw [h l (Nat.le_refl _),qn k (l+1) λi hi=>h i (by omega)]
theorem mg {s s':Cz×Cz} : ∀(k l:Nat),(∀i,l<=i->s'.1.getD i []=s.1.getD i []/\s'.2.getD i []=s.2.getD i [])->XL k l s->XL k l s'
 |0,_,_,_=>trivial
 |k+1,l,h,hg=>⟨mg k (l+1) (λi hi=>h i (by omega)) hg.1,by
  rw [(h l (Nat.le_refl _)).1,qn (k+1) l λi hi=>(h i hi).2];exact hg.2⟩
theorem wi {T T':Cz} (hl: ∀i,(T'.getD i []).length=(T.getD i []).length) (hm: ∀i y t,(T.getD i []).getD y none=some t->(T'.getD i []).getD y none=some t):
  ∀(k l:Nat),fE T k l<=fE T' k l/\(fE T k l=fE T' k l-> ∀i,l<=i->i<l+k->T'.getD i []=T.getD i [])
 |0,l=>⟨Nat.le_refl _,λ_ i h1 h2=>by omega⟩
 |k+1,l=>by
  obtain ⟨h1,h2⟩:=wi hl hm k (l+1)
  obtain ⟨h3,h4⟩:=pF (T.getD l []) (T'.getD l []) (hl l).symm (hm l)
  simp only [fE]
  refine ⟨by omega,λe i g1 g2=>?_⟩
  by_cases hi:i=l
  ·subst hi;exact (h4 (by omega)).symm
  ·exact h2 (by omega) i (by omega) (by omega)
def V (n k l:Nat) (s:Cz×Cz):Prop:=s.1.length=n/\s.2.length=n/\eN n k l s/\XL k l s
structure XK (n k l:Nat) (s:Cz×Cz) (p:List Int) (s':Cz×Cz):Prop where
 v:V n k l s'
 grow:Wp l s s'
 Aae:Gn n (s'.1.getD l []) p
 gens: ∀o∈s'.1.getD l [],o∈s.1.getD l []\/o=some p
theorem MF.row {n l:Nat} {gs:List PO} {row:Row} {H:List Int->Prop} (h:MF n l gs row H):Ro n l gs row:=⟨h.rl,h.r0,h.rt⟩
theorem cM {row:Row} {y:Nat} {t g t':List Int} (h1:row.getD y none=some t) (h2:row.getD (ap g y) none=some t'):Mw row (y:Int) (some g)=Aa (Aa t g) (Al t'):=by
 unfold Mw
 rw [Int.toNat_natCast,h1,Option.getD_some,Option.getD_some,show (Ca g (y:Int)).toNat=ap g y from rfl,h2,Option.getD_some]
theorem je {n l:Nat} {gs:List PO} {row:Row} (hg:PG n l gs) (_h:Ro n l gs row) (hc: ∀y t g,row.getD y none=some t->some g∈gs->row.getD (ap g y) none≠none) {q:List Int} :
  q∈aV row gs↔ ∃(y:Nat) (t g t':List Int),row.getD y none=some t/\some g∈gs/\row.getD (ap g y) none=some t'/\q=Aa (Aa t g) (Al t'):=by
 unfold aV
 rw [List.mem_flatMap]
 constructor
 ·rintro ⟨y,hy,hq⟩
  obtain ⟨o,ho,rfl⟩:=List.mem_map.1 hq
  obtain ⟨yn,rfl,RQ⟩:=Mz.1 hy
  obtain ⟨t,ht⟩:=Option.ne_none_iff_exists'.1 RQ
  obtain ⟨g,rfl,Ps,_⟩:=hg o ho
  obtain ⟨t',lx⟩:=Option.ne_none_iff_exists'.1 (hc yn t g ht ho)
  exact ⟨yn,t,g,t',ht,ho,lx,cM ht lx⟩
 ·rintro ⟨y,t,g,t',h1,h2,h3,rfl⟩
  obtain ⟨g',e,Ps,_⟩:=hg _ h2
  cases e
  exact ⟨(y:Int),Mz.2 ⟨y,rfl,by rw [h1];simp⟩,List.mem_map.2 ⟨some g,h2,cM h1 h3⟩⟩
theorem qY {n:Nat} (h1:1<=n) (h2:n<=20): ∀(k l:Nat) (p:List Int) (s:Cz×Cz),l+k=n->V n k l s->Pm n p->Fx l p->XK n k l s p (Dr k l p s)
 |0,l,p,s,hk,hv,hp,hf=>by
  have hl:l=n:=by omega
  subst hl
  exact ⟨hv,Wp.refl _ _,by rw [hf.all hp];exact .id,λo ho=> .inl ho⟩
 |k+1,l,p,s,hk,hv,hp,hf=>by
  have aO:l<n:=by omega
  obtain ⟨v1,v2,hc,FW⟩:=hv
  have fh:=hc
  obtain ⟨c1,c2,c3⟩:=hc
  unfold Dr
  by_cases hh:Iu s.2 (k+1) l p=true
  ·rw [if_pos hh]
   exact ⟨⟨v1,v2,fh,FW⟩,Wp.refl _ _,(gy h1 h2 (k+1) l s hk fh p hp hf).1 hh,λo ho=> .inl ho⟩
  rw [if_neg hh]
  generalize zX:s.1.getD l []++ [some p]=gs
  have Ye:some p∈gs:=by rw [<-zX];simp
  have Qi: ∀o∈s.1.getD l [],o∈gs:= λo ho=>by rw [<-zX];exact List.mem_append_left _ ho
  have hg:PG n l gs:= λo ho=>by
   rw [<-zX] at ho
   rcases List.mem_append.1 ho with ho|ho
   ·exact c2.pg o ho
   ·rw [List.mem_singleton] at ho;exact ⟨p,ho,hp,hf⟩
  have ZQ:Ro n l gs (s.2.getD l []):=⟨c2.rl,c2.r0,λy t e=>⟨(c2.rt y t e).1,(c2.rt y t e).2.1,(c2.rt y t e).2.2.1,(c2.rt y t e).2.2.2.mono λg hg=>Qi _ hg⟩⟩
  obtain ⟨r1,r2,r3⟩:=vX aO h2 hg ZQ
  generalize hR:Rk gs (s.2.getD l [])=R at r1 r2 r3
  have hS:zz n λg=>some g∈gs:=⟨⟨h1,h2⟩,λg Yz=>by obtain ⟨g',e,h,_⟩:=hg _ Yz;cases e;exact h⟩
  have OW: ∀i,((s.1.set l gs).getD i []=if i=l then gs else s.1.getD i [])/\(s.2.set l R).getD i []=if i=l then R else s.2.getD i []:= λi=>by
   rw [Ns,Ns]
   by_cases e:l=i
   ·subst e;rw [if_pos ⟨rfl,by omega⟩,if_pos rfl,if_pos ⟨rfl,by omega⟩,if_pos rfl];exact ⟨rfl,rfl⟩
   ·rw [if_neg (λhh=>e hh.1),if_neg (Ne.symm e),if_neg (λhh=>e hh.1),if_neg (Ne.symm e)];exact ⟨rfl,rfl⟩
  have RP: ∀i,l+1<=i->(s.1.set l gs).getD i []=s.1.getD i []/\(s.2.set l R).getD i []=s.2.getD i []:= λi hi=>by
   rw [(OW i).1,(OW i).2,if_neg (by omega),if_neg (by omega)];exact ⟨rfl,rfl⟩
  have lv:V n k (l+1) (s.1.set l gs,s.2.set l R):=⟨by simpa using v1,by simpa using v2,eY k (l+1) RP c1,mg k (l+1) RP FW.1⟩
  have TF:Wp l s (s.1.set l gs,s.2.set l R):=by
   refine ⟨by simp,by simp,λi hi=>?_,λi o ho=>?_,λi y t e=>?_,λi=>?_⟩
   ·rw [(OW i).1,(OW i).2,if_neg (by omega),if_neg (by omega)];exact ⟨rfl,rfl⟩
   ·rw [(OW i).1]
    split
    ·rename_i hi;subst hi;exact Qi o ho
    ·exact ho
   ·rw [(OW i).2]
    split
    ·rename_i hi;subst hi;exact r2 y t e
    ·exact e
   ·rw [(OW i).2]
    split
    ·rename_i hi;subst hi;rw [r1.rl,c2.rl]
    ·rfl
  have hq: ∀q∈aV R gs,Pm n q/\Fx (l+1) q/\Gn n gs q:= λq hq=>by
   obtain ⟨y,t,g,t',e1,e2,e3,rfl⟩:=(je hg r1 r3).1 hq
   obtain ⟨t1,t2,t3,t4⟩:=r1.rt _ _ e1
   obtain ⟨u1,u2,u3,u4⟩:=r1.rt _ _ e3
   obtain ⟨g',e,Ps,TD⟩:=hg _ e2
   cases e
   exact ⟨(t1.comp Ps).comp u1.inv,Fx.div (t1.comp Ps) u1 (Fx.comp t1 Ps t2 TD (by omega)) u2 aO (by rw [u3,Fk t1 Ps aO,t3]),Xj.comp hS (.mul t4 e2) (Xj.rU hS u4)⟩
  have fold: ∀(qs:List (List Int)) (s1:Cz×Cz),(∀q∈qs,Pm n q/\Fx (l+1) q)->V n k (l+1) s1->
    V n k (l+1) (qs.foldl (λs q=>Dr k (l+1) q s) s1)/\Wp (l+1) s1 (qs.foldl (λs q=>Dr k (l+1) q s) s1)/\
     (∀q∈qs,Gn n ((qs.foldl (λs q=>Dr k (l+1) q s) s1).1.getD (l+1) []) q)/\ ∀o∈(qs.foldl (λs q=>Dr k (l+1) q s) s1).1.getD (l+1) [],o∈s1.1.getD (l+1) []\/ ∃q∈qs,o=some q:=by
   intro qs
   induction qs with
   |nil=>exact λs1 _ hv=>⟨hv,Wp.refl _ _,(λq hq=>by cases hq),λo ho=>Or.inl ho⟩
   |cons q qs ih=>
    intro s1 NR hv
    have ha:=qY h1 h2 k (l+1) q s1 (by omega) hv (NR q (by simp)).1 (NR q (by simp)).2
    obtain ⟨g1,g2,g3,g4⟩:=ih (Dr k (l+1) q s1) (λq' eb=>NR q' (by simp [eb])) ha.v
    simp only [List.foldl_cons]
    refine ⟨g1,ha.grow.trans g2 (Nat.le_refl _),λq' eb=>?_,λo ho=>?_⟩
    ·rcases List.mem_cons.1 eb with rfl|eb
     ·exact ha.Aae.mono λg hg=>g2.zR _ _ hg
     ·exact g3 q' eb
    ·rcases g4 o ho with h|⟨q',eb,h⟩
     ·rcases ha.gens o h with h|h
      ·exact .inl h
      ·exact .inr ⟨q,by simp,h⟩
     ·exact .inr ⟨q',by simp [eb],h⟩
  obtain ⟨f1,f2,f3,f4⟩:=fold (aV R gs) (s.1.set l gs,s.2.set l R) (λq h=>⟨(hq q h).1,(hq q h).2.1⟩) lv
  generalize (aV R gs).foldl (λs q=>Dr k (l+1) q s) (s.1.set l gs,s.2.set l R)=s' at f1 f2 f3 f4
  obtain ⟨w1,w2,w3,w4⟩:=f1
  have XO:s'.1.getD l []=gs:=by rw [(f2.low l (by omega)).1,(OW l).1,if_pos rfl]
  have el2:s'.2.getD l []=R:=by rw [(f2.low l (by omega)).2,(OW l).2,if_pos rfl]
  have HR:=TF.trans f2 (by omega)
  have Af2:MF n l gs R (λq=>Iu s'.2 k (l+1) q=true):=⟨hg,r1.rl,r1.r0,r1.rt,r3,λy t g t' e1 e2 e3=>by
   have hm:=(je hg r1 r3).2 ⟨y,t,g,t',e1,e2,e3,rfl⟩
   exact (gy h1 h2 k (l+1) s' (by omega) w3 _ (hq _ hm).1 (hq _ hm).2.1).2 (f3 _ hm)⟩
  have QU:eN n (k+1) l s':=⟨w3,by rw [XO,el2];exact Af2,λg Yz=>by
   rw [XO]
   rcases f4 _ Yz with h|⟨q,eb,h⟩
   ·rw [(RP (l+1) (Nat.le_refl _)).1] at h
    exact (c3 g h).mono λg hg=>Qi _ hg
   ·cases h;exact (hq _ eb).2.2⟩
  have Qg:Gn n (s'.1.getD l []) p:=by rw [XO];exact Xj.one hS Ye
  refine ⟨⟨w1,w2,QU,w4,?_⟩,HR,Qg,λo ho=>?_⟩
  ·have hold:=FW.2
   obtain ⟨p1,p2⟩:=wi HR.VG HR.KY (k+1) l
   have Ek:fE s.2 (k+1) l≠fE s'.2 (k+1) l:= λe=>by
    have:=bZ (k+1) l p (p2 e)
    rw [(gy h1 h2 (k+1) l s' hk QU p hp hf).2 Qg] at this
    exact hh this.symm
   rw [XO,<-zX,List.length_append,List.length_singleton]
   omega
  ·rw [XO,<-zX] at ho
   rcases List.mem_append.1 ho with ho|ho
   ·exact .inl ho
   ·rw [List.mem_singleton] at ho;exact .inr ho
end Go.Proofs.Ytjbdmibbbpdnnaa

namespace Go.Proofs.Ytjbdmibbbpdnnaa
open Go.RowKit
theorem JQ {n l:Nat} {gs:List PO} {R:Row} (aO:l<n) (hg:PG n l gs) (r1:Ro n l gs R) (r3: ∀y t g,R.getD y none=some t->some g∈gs->R.getD (ap g y) none≠none): ∀q∈aV R gs,Pm n q/\Fx (l+1) q:=by
 intro q hq
 obtain ⟨y,t,g,t',e1,e2,e3,rfl⟩:=(je hg r1 r3).1 hq
 obtain ⟨t1,t2,t3,t4⟩:=r1.rt _ _ e1
 obtain ⟨u1,u2,u3,u4⟩:=r1.rt _ _ e3
 obtain ⟨g',e,Ps,TD⟩:=hg _ e2
 cases e
 exact ⟨(t1.comp Ps).comp u1.inv,Fx.div (t1.comp Ps) u1 (Fx.comp t1 Ps t2 TD (by omega)) u2 aO (by rw [u3,Fk t1 Ps aO,t3])⟩
theorem V.lower {n k l:Nat} {s:Cz×Cz} (h:V n (k+1) l s) (gs:List PO) (R:Row):V n k (l+1) (s.1.set l gs,s.2.set l R):=by
 obtain ⟨v1,v2,hc,FW⟩:=h
 have RP: ∀i,l+1<=i->(s.1.set l gs).getD i []=s.1.getD i []/\(s.2.set l R).getD i []=s.2.getD i []:= λi hi=>by
  rw [Ns,Ns,if_neg (by omega),if_neg (by omega)];exact ⟨rfl,rfl⟩
 exact ⟨by simpa using v1,by simpa using v2,eY k (l+1) RP hc.1,mg k (l+1) RP FW.1⟩
theorem zN {n k l:Nat} (h1:1<=n) (h2:n<=20) (hk:l+k=n): ∀(qs:List (List Int)) (s1:Cz×Cz),(∀q∈qs,Pm n q/\Fx l q)->V n k l s1->
  V n k l (qs.foldl (λs q=>Dr k l q s) s1)/\Wp l s1 (qs.foldl (λs q=>Dr k l q s) s1)
 | [],s1,_,hv=>⟨hv,Wp.refl _ _⟩
 |q::qs,s1,NR,hv=>by
  have ha:=qY h1 h2 k l q s1 hk hv (NR q (by simp)).1 (NR q (by simp)).2
  obtain ⟨g1,g2⟩:=zN h1 h2 hk qs (Dr k l q s1) (λq' eb=>NR q' (by simp [eb])) ha.v
  exact ⟨g1,ha.grow.trans g2 (Nat.le_refl _)⟩
theorem JT {n:Nat} {s:Cz×Cz} : ∀(k l:Nat),eN n k l s->fE s.2 k l<=n*k
 |0,_,_=>by simp [fE]
 |k+1,l,hc=>by
  have h1:=JT k (l+1) hc.1
  have h2:uq (s.2.getD l [])<=n:=by
   have:=hc.2.1.rl
   have h3:uq (s.2.getD l [])<=(s.2.getD l []).length:=List.countP_le_length
   omega
  simp only [fE]
  rw [Nat.mul_succ]
  omega
theorem MU {n k l:Nat} {s:Cz×Cz} (h2:n<=20) (hk:l+(k+1)=n) (h:V n (k+1) l s):(s.1.getD l []).length<=400:=by
 have h3:=h.2.2.2.2
 have h4:=JT (k+1) l h.2.2.1
 have h5:n*(k+1)<=20*20:=Nat.mul_le_mul h2 (by omega)
 omega
theorem V.lvl {n k l:Nat} {s:Cz×Cz} (h:V n (k+1) l s):MF n l (s.1.getD l []) (s.2.getD l []) (λq=>Iu s.2 k (l+1) q=true):=h.2.2.1.2.1
theorem V.pg {n k l:Nat} {s:Cz×Cz} (h:V n (k+1) l s) {p:List Int} (hp:Pm n p) (hf:Fx l p):PG n l (s.1.getD l []++ [some p]):= λo ho=>by
 rcases List.mem_append.1 ho with ho|ho
 ·exact h.lvl.pg o ho
 ·rw [List.mem_singleton] at ho;exact ⟨p,ho,hp,hf⟩
theorem V.Aga {n k l:Nat} {s:Cz×Cz} (h:V n (k+1) l s) (p:List Int):Ro n l (s.1.getD l []++ [some p]) (s.2.getD l []):=
 ⟨h.lvl.rl,h.lvl.r0,λy t e=>⟨(h.lvl.rt y t e).1,(h.lvl.rt y t e).2.1,(h.lvl.rt y t e).2.2.1,(h.lvl.rt y t e).2.2.2.mono λ_ hg=>List.mem_append_left _ hg⟩⟩
theorem oV {α:Type} (xs:List (List α)) (i:Nat) (h:i<xs.length):xs.set i (xs.getD i [])=xs:=by
 refine List.ext_getElem (by simp) λj h1 h2=>?_
 rw [List.getElem_set]
 split
 ·rename_i e;subst e;rw [List.getD_eq_getElem?_getD,List.getElem?_eq_getElem h];rfl
 ·rfl
theorem dW {α:Type} (xs:List (List α)) (i:Nat) (h:i<xs.length) (r:List α):(xs.set i r).getD i []=r:=by
 rw [Ns,if_pos ⟨rfl,h⟩]
end Go.Proofs.Ytjbdmibbbpdnnaa

namespace Go.Proofs.Ytjbdmibbbpdnnaa
open Go.RowKit
noncomputable abbrev Ko:MSpec:=jf [none] [(false, .Fc XG)] false [none] [.row tI 2] (λx=>List.length x.1<=20) (λx=>((Hu x.1,()),()))
noncomputable abbrev Qr:Spec:=Di (.pair tL (.pair tL .unit)) tO false true (λx=>(0<x.1.length/\x.1.length<=20)/\Gs x.2.1.length x.1) (λx=>some (Aa x.1 x.2.1))
noncomputable abbrev aq:Spec:=Di (.pair tL (.pair tL .unit)) tL false false (λx=>x.1.length<=20/\Gs x.2.1.length x.1) (λx=>Aa x.1 x.2.1)
noncomputable abbrev Oa:Spec:=Di (.pair tI .unit) tL false true (λx=>0<=x.1/\x.1<=20) (λx=>upto x.1.toNat)
noncomputable abbrev Wf:Spec:=Di (.pair tI .unit) tO false true (λx=>1<=x.1/\x.1<=20) (λx=>some (upto x.1.toNat))
abbrev SA:TypeId:=22
structure lE (N L:Nat) (n:Int) (G T:Cz) (l:Int) (p:List Int):Prop where
 n1:1<=N
 n2:N<=20
 en:n=N
 el:l=L
 le:L<=N
 v:V N (N-L) L (G,T)
 pm:Pm N p
 fx:Fx L p
noncomputable abbrev qC:Spec:=Di (.pair (.ptr tq) (.pair tI (.pair tL .unit))) .bool false true (λx=> ∃N L,lE N L x.1.1 x.1.2.1 x.1.2.2.1 x.2.1 x.2.2.1) (λx=>Iu x.1.2.2.1 (x.1.1-x.2.1).toNat x.2.1.toNat x.2.2.1)
noncomputable abbrev RU:MSpec:= {ptr:=some (179,3),Gy:= [none,none],ins:= [(false, .Fc tI),(false, .Ak tO SA true),(false, .Ak tO SA true),(false, .Fc tI),(false, .Fc tO)],Fv:=false,Fz:= [],outs:= [.Fc tI, .Ak tO SA false, .Ak tO SA false],fn:= λ_=>none,keeps:= [(1,1),(2,2)],Cs:= λx=>x.2.2.2.1.toNat}
noncomputable abbrev Pd (m:Nat):MSpec:=xg RU (λx=>(∃N L q,x.2.2.2.2.1=some q/\lE N L x.1 x.2.1 x.2.2.1 x.2.2.2.1 q)/\(x.1-x.2.2.2.1).toNat<m)
 (λx=>((x.1,(Dr (x.1-x.2.2.2.1).toNat x.2.2.2.1.toNat (x.2.2.2.2.1.getD []) (x.2.1,x.2.2.1)).1,(Dr (x.1-x.2.2.2.1).toNat x.2.2.2.1.toNat (x.2.2.2.2.1.getD []) (x.2.1,x.2.2.1)).2,()),()))
theorem wU (n:Int) (P:List Int->Prop):(((0:Int)<=n/\n<(↑Bm:Int)+(1:Int))/\n=n/\0=0/\(List.replicate n.toNat (Int.ofNat (nat_lit 0))).length=(List.replicate n.toNat (Int.ofNat (nat_lit 0))).length/\Bt (λ(v2:Int×List Int×PUnit) (k3:Int×List Int×PUnit->Prop)=>Br (decide (v2.1<(↑(List.replicate n.toNat (Int.ofNat (nat_lit 0))).length:Int))) (((0:Int)<=v2.1/\v2.1<(↑v2.2.1.length:Int))/\0+v2.1.toNat<v2.2.1.length/\0=0/\v2.2.1.length=(v2.2.1.set (0+v2.1.toNat) v2.1).length/\k3 (IntKind.i64.wrap (v2.1+(1:Int)),v2.2.1.set (0+v2.1.toNat) v2.1,())) (P (List.take v2.2.1.length (List.drop 0 v2.2.1)))) ((0:Int),List.replicate n.toNat (Int.ofNat (nat_lit 0)),PUnit.unit))=fnW Cy (look []) Oa Try.f127 (n,()) P:=by kernel_rfl
theorem FK (row:List (Option (List Int))) (P:(List Int×Unit)×Unit->Prop):(0=0/\0=([]:List Int).length/\Bt (λ(v2:Int×List Int×PUnit) (k3:Int×List Int×PUnit->Prop)=>Br (decide (v2.1<(↑row.length:Int))) (∃(y4:Option (List Int)),idx row v2.1=some y4/\Br (!y4.isNone) (0=0/\v2.2.1.length=v2.2.1.length/\v2.2.1.length+(List.take 1 (List.drop 0 [v2.1])).length<=Bm/\0=0/\(v2.2.1++List.take 1 (List.drop 0 [v2.1])).length=(v2.2.1++List.take 1 (List.drop 0 [v2.1])).length/\k3 (IntKind.i64.wrap (v2.1+(1:Int)),v2.2.1++List.take 1 (List.drop 0 [v2.1]),())) (0=0/\v2.2.1.length=v2.2.1.length/\k3 (IntKind.i64.wrap (v2.1+(1:Int)),v2.2.1,()))) (P ((List.take v2.2.1.length (List.drop 0 v2.2.1),()),()))) ((0:Int),[],PUnit.unit))=fnMW Tn (look []) Ko Try.f174 (row,()) P:=by kernel_rfl
theorem Abh (c:Int×List (List (Option (List Int)))×List (List (Option (List Int)))×Unit) (l:Int) (p:List Int) (P:Bool->Prop):(Bt (λ(v4:List Int×Int×PUnit) (k5:List Int×Int×PUnit->Prop)=>Br (decide (v4.2.1<c.1)) (∃(y6:List (Option (List Int))),idx c.2.2.1 v4.2.1=some y6/\ ∃(y7:Int),idx v4.1 v4.2.1=some y7/\ ∃(y8:Option (List Int)),idx y6 y7=some y8/\Br y8.isNone (P false) (∃(y9:List Int),El.fn (y8.getD [],())=some y9/\ ∃(lD:List Int),aq.fn (v4.1,y9,())=some lD/\k5 (lD,IntKind.i64.wrap (v4.2.1+(1:Int)),()))) (P true)) (p,l,PUnit.unit))=fnW Tn (look [(175,El),(156,aq)]) qC Try.f183 (c,l,p,()) P:=by kernel_rfl
theorem Sound.loose {P:Program} {f:FuncId} {arg res:Ty} {pre:arg.den->Prop} {val:arg.den->res.den} (h:Sound P f (Go.Proofs.Ytjbdmibbbpdnnaa.Di arg res false true pre val)):Sound P f (Go.Proofs.Ytjbdmibbbpdnnaa.Di arg res false false pre val):=
 ⟨h.enter,λw S vs x y h1 h2 h3=>Calls.mono (h.calls w S vs x y h1 h2 h3) λe' w' hr=>by
  obtain ⟨v,g1,g2,g3⟩:=hr
  exact ⟨v,g1,g2,Bb.Es (S:= λb=>S b\/(true=true/\b<w.heap.size)) g3 λk _ hk=>hk.elim .inl λhh=>absurd (show false=true from hh.1) (by simp)⟩⟩
theorem ny:Sound Try.prog 156 aq:=Sound.loose Ph
theorem nz:Sound Try.prog 156 Qr:=Sound.toO Ph λx h=>⟨⟨h.1.2,h.2⟩,λe=>by
 have:=Np x.1 x.2.1
 rw [e] at this
 have:=h.1.1
 simp only [List.length_nil] at*
 omega⟩
theorem w5 (n:Int) (h:0<=n/\n<=20):fnW Cy (look []) Oa Try.f127 (n,()) (λ(z:List Int)=>z=upto n.toNat):=by
 refine Eq.mp (wU n _) ⟨⟨by omega,by show n<(4294967296:Int)+1;omega⟩,rfl,rfl,rfl,?_⟩
 refine As n.toNat (λv=>v.1) (λj v=>v.2.1.length=n.toNat/\v.2.1.take j=upto j) rfl ⟨by simp,by simp [upto]⟩ ?_
 rintro j ⟨i,ys,⟨⟩⟩ K hj hi ⟨h1,h2⟩ hK
 dsimp only at hi h1 h2⊢
 subst hi
 rw [List.length_replicate]
 simp only [Int.toNat_natCast,Nat.zero_add]
 refine Br.dec (λhl=>⟨⟨by omega,by omega⟩,by omega,trivial,by rw [List.length_set],?_⟩) λhl=>?_
 ·rw [Ar (by omega)]
  refine hK (by omega) _ rfl ⟨by rw [List.length_set];exact h1,?_⟩
  rw [List.take_add_one,List.take_set_of_le (by omega),h2,List.getElem?_set_self (by omega),Yw]
  rfl
 ·have:j=ys.length:=by omega
  subst this
  rw [List.take_length] at h2
  rw [List.drop_zero,List.take_length,h2,h1]
theorem ba:Sound Try.prog 127 Oa:=
 Sound.Di Bx Ao mixed Try.func127 (by kernel_rfl) (by kernel_rfl) λx h=>w5 x.1 h
theorem PK {n:Int} (h:1<=n/\n<=20):(0<=n/\n<=20)/\upto n.toNat≠ []:=⟨by omega,λe=>by
 have:=congrArg List.length e
 simp [upto] at this
 omega⟩
theorem l6:Sound Try.prog 127 Wf:=Sound.toO ba λ_ h=>PK h
theorem vW {row:Row} {j:Nat} :(upto (j+1)).filter (λy=>(row.getD y.toNat none).isSome)=(upto j).filter (λy=>(row.getD y.toNat none).isSome)++if (row.getD j none).isSome=true then [(j:Int)] else []:=by
 rw [Yw,List.filter_append]
 congr 1
 simp only [List.filter_cons,List.filter_nil,Int.toNat_natCast]
theorem DN (row:List (Option (List Int))) (h:List.length row<=20):fnMW Tn (look []) Ko Try.f174 (row,()) (λ(z:(List Int×Unit)×Unit)=>z=((Hu row,()),())):=by
 refine Eq.mp (FK row _) ⟨rfl,rfl,?_⟩
 refine As row.length (λv=>v.1) (λj v=>v.2.1=(upto j).filter (λy=>(row.getD y.toNat none).isSome)) rfl rfl ?_
 rintro j ⟨i,ys,⟨⟩⟩ K hj hi h1 hK
 dsimp only at hi h1⊢
 subst hi
 refine Br.dec (λhl=>?_) λhl=>?_
 ·have hl:j<row.length:=by omega
  have hlen:ys.length<=j:=by rw [h1];refine Nat.le_trans (List.length_filter_le _ _) (by simp [upto])
  have hg:row.getD j none=row[j]:=by rw [List.getD_eq_getElem?_getD,List.getElem?_eq_getElem hl];rfl
  refine ⟨_,Av hl,Br.of (λhb=>⟨rfl,rfl,?_,rfl,rfl,?_⟩) λhb=>⟨rfl,rfl,?_⟩⟩
  ·show ys.length+1<=4294967296
   omega
  ·rw [Ar (by omega)]
   refine hK hl _ rfl ?_
   show ys++ [(j:Int)]=_
   rw [vW,hg,h1,if_pos (by cases e:row[j] with
    |none=>rw [e] at hb;simp at hb
    |some t=>rfl)]
  ·rw [Ar (by omega)]
   refine hK hl _ rfl ?_
   show ys=_
   rw [vW,hg,h1,if_neg (by cases e:row[j] with
    |none=>simp
    |some t=>rw [e] at hb;simp at hb),List.append_nil]
 ·have:j=row.length:=by omega
  subst this
  rw [List.drop_zero,List.take_length,h1]
  rfl
theorem eu:Cd Try.prog 174 Ko:=
 Cd.jf jK Ao mixed Try.func174 (by kernel_rfl) (by kernel_rfl) λx h=>DN x.1 h
theorem fZ {n:Nat} {s:Cz×Cz} : ∀(k l:Nat),eN n k l s-> ∀i,l<=i->i<l+k->MF n i (s.1.getD i []) (s.2.getD i []) (λq=>Iu s.2 (l+k-i-1) (i+1) q=true)
 |0,_,_,i,h1,h2=>by omega
 |k+1,l,hc,i,h1,h2=>by
  obtain ⟨c1,c2,_⟩:=hc
  by_cases e:i=l
  ·subst e
   rw [show i+(k+1)-i-1=k by omega]
   exact c2
  ·have:=fZ k (l+1) c1 i (by omega) (by omega)
   rwa [show l+1+k-i-1=l+(k+1)-i-1 by omega] at this
theorem uQ {α:Type} {xs:List (List α)} {i:Nat} (h:i<xs.length):xs.getD i []=xs[i]:=by
 rw [List.getD_eq_getElem?_getD,List.getElem?_eq_getElem h];rfl
theorem HH {α:Type} {xs:List (Option α)} {i:Nat} (h:i<xs.length):xs.getD i none=xs[i]:=by
 rw [List.getD_eq_getElem?_getD,List.getElem?_eq_getElem h];rfl
theorem Pm.row {n:Nat} {p:List Int} (h:Pm n p):Gs n p:=by
 have:=h.2.row
 rwa [h.1] at this
theorem Aat (c:Int×List (List (Option (List Int)))×List (List (Option (List Int)))×Unit) (l:Int) (p:List Int) (h: ∃N L,lE N L c.1 c.2.1 c.2.2.1 l p):
  fnW Tn (look [(175,El),(156,aq)]) qC Try.f183 (c,l,p,()) (λ(z:Bool)=>z=Iu c.2.2.1 (c.1-l).toNat l.toNat p):=by
 obtain ⟨n,G,T,⟨⟩⟩:=c
 obtain ⟨N,L,h⟩:=h
 obtain ⟨n1,n2,en,el,hle,v,pm,fx⟩:=h
 dsimp only at en el v⊢
 subst en el
 refine Eq.mp (Abh ((N:Int),G,T,()) (L:Int) p _) ?_
 obtain ⟨v1,v2,v3,v4⟩:=v
 dsimp only at v1 v2
 refine ⟨λv=> ∃i:Nat,L<=i/\i<=N/\v.2.1=i/\Pm N v.1/\Fx i v.1/\Iu T (N-i) i v.1=Iu T (N-L) L p,λv=>N-v.2.1.toNat,⟨L,Nat.le_refl _,hle,rfl,pm,fx,rfl⟩,?_⟩
 rintro ⟨p',i',⟨⟩⟩ ⟨i,h1,h2,h3,h4,h5,h6⟩
 dsimp only at h3 h4 h5 h6⊢
 subst h3
 rw [show (((N:Int)-(L:Int)).toNat)=N-L by omega,show ((L:Int)).toNat=L by omega,<-h6]
 refine Br.dec (λhl=>?_) λhl=>?_
 ·have hl:i<N:=by omega
  have Qh:=fZ (N-L) L v3 i h1 (by omega)
  obtain ⟨a1,a2⟩:=h4.Si hl
  have hT:i<T.length:=by omega
  have hlen:T[i].length=N:=by have:=Qh.rl;dsimp only at this;rwa [uQ hT] at this
  refine ⟨_,Av hT,_,Av (by rw [h4.1];exact hl),?_⟩
  have e1:p'[i]'(by rw [h4.1];exact hl)=(ap p' i:Int):=by rw [<-a1,Ia]
  rw [e1]
  refine ⟨_,Av (by omega),?_⟩
  have e2:N-i=(N-i-1)+1:=by omega
  have e3:(T.getD i []).getD (Ca p' (i:Int)).toNat none=T[i][ap p' i]'(by omega):=by
   rw [uQ hT];exact HH (by show ap p' i<_;omega)
  rw [e2]
  simp only [Iu,e3]
  refine Br.of (λhb=>?_) λhb=>?_
  ·cases e:T[i][ap p' i]'(by omega) with
   |none=>rfl
   |some t=>rw [e] at hb;simp at hb
  ·cases e:T[i][ap p' i]'(by omega) with
   |none=>rw [e] at hb;simp at hb
   |some t=>
    have ht:(T.getD i []).getD (ap p' i) none=some t:=by rw [<-e];exact e3
    obtain ⟨t1,t2,t3,t4⟩:=Qh.rt _ _ ht
    simp only [Option.getD_some]
    refine ⟨_,if_pos ⟨by show t.length<=20;rw [t1.1];exact n2,t1.2.row⟩,_,if_pos ⟨by show p'.length<=20;rw [h4.1];exact n2,by show Gs (Al t).length p';rw [ly,t1.1];exact h4.row⟩,⟨i+1,by omega,by omega,Ar (by omega),h4.comp t1.inv,Fx.div h4 t1 h5 t2 hl t3,?_⟩,?_⟩
    ·rw [show N-(i+1)=N-i-1 by omega]
    ·show N-(IntKind.i64.wrap ((i:Int)+1)).toNat<N-((i:Int)).toNat
     rw [Ar (by omega)]
     omega
 ·rw [show N-i=0 by omega]
  rfl
theorem EK:Sound Try.prog 183 qC:=
 Sound.Di jK (Ah Pj (Ah ny Ao)) mixed Try.func183 (by kernel_rfl) (by kernel_rfl) λx h=>Aat x.1 x.2.1 x.2.2.1 h
end Go.Proofs.Ytjbdmibbbpdnnaa

namespace Go.Proofs.Ytjbdmibbbpdnnaa
open Go.RowKit
abbrev tp:Type:=Nat×Nat×Int×List (List (Option (List Int)))×Nat×List (List (Option (List Int)))×Nat×List Int×Int×PUnit
abbrev KN:Type:=Nat×Int×List (List (Option (List Int)))×Nat×List (List (Option (List Int)))×Nat×List Int×Int×PUnit
abbrev KO:Type:=Nat×List (List (Option (List Int)))×Nat×List (List (Option (List Int)))×Nat×List Int×Int×PUnit
abbrev Gq (G:List (List (Option (List Int)))) (l:Int) (p:Option (List Int)) (T:List (List (Option (List Int)))) (y7:Bool) (n:Int):Prop:=0=0/\(G.getD (0+l.toNat) []).length=(G.getD (0+l.toNat) []).length/\(G.getD (0+l.toNat) []).length+(List.take 1 (List.drop 0 [p])).length<=Bm/\((0:Int)<=l/\l<(↑G.length:Int))/\0=0/\(G.getD (0+l.toNat) []++List.take 1 (List.drop 0 [p])).length=(G.getD (0+l.toNat) []++List.take 1 (List.drop 0 [p])).length/\0+l.toNat=0+l.toNat/\ [(0,G.length),(0,G.length),(0,G.length),(0,T.length)]= [(0,G.length),(0,G.length),(0,G.length),(0,T.length)]/\(l,p,l,p,y7,l,l,0+l.toNat,p,List.take 1 (List.drop 0 [p]),0+l.toNat,G.set (0+l.toNat) (G.getD (0+l.toNat) []++List.take 1 (List.drop 0 [p])),min G.length (0+l.toNat),T,T.length,n,())=(l,p,l,p,y7,l,l,0+l.toNat,p,List.take 1 (List.drop 0 [p]),0+l.toNat,G.set (0+l.toNat) (G.getD (0+l.toNat) []++List.take 1 (List.drop 0 [p])),min G.length (0+l.toNat),T,T.length,n,PUnit.unit)
theorem Ab9 {m:Nat} (n:Int) (G T:List (List (Option (List Int)))) (l:Int) (p:Option (List Int)) (P:(Int×List (List (Option (List Int)))×List (List (Option (List Int)))×Unit)×Unit->Prop):(∃(y7:Bool),qC.fn ((n,List.take G.length (List.drop 0 G),List.take T.length (List.drop 0 T),()),l,p.getD [],())=some y7/\Br y7 ((0=0/\G.length=G.length)/\(0=0/\T.length=T.length)/\(Pd (m+1)).Cs (n,G,T,l,p,())<=G.length/\(Pd (m+1)).Cs (n,G,T,l,p,())<=T.length/\P ((n,G,T,()),())) (((0:Int)<=l/\l<(↑G.length:Int))/\0=0/\(G.getD (0+l.toNat) []).length=(G.getD (0+l.toNat) []).length/\(G.getD (0+l.toNat) []).length+(List.take 1 (List.drop 0 [p])).length<=Bm/\((0:Int)<=l/\l<(↑G.length:Int))/\0=0/\(G.getD (0+l.toNat) []++List.take 1 (List.drop 0 [p])).length=(G.getD (0+l.toNat) []++List.take 1 (List.drop 0 [p])).length/\0+l.toNat=0+l.toNat/\(((0:Int)<=l/\l<(↑T.length:Int))/\ ∃(y8:(List Int×PUnit)×PUnit),Ko.fn (T.getD (0+l.toNat) [],())=some y8/\0=0/\(List.take y8.1.1.length (List.drop 0 y8.1.1)).length=(List.take y8.1.1.length (List.drop 0 y8.1.1)).length/\0=0/\G.length=(G.set (0+l.toNat) (G.getD (0+l.toNat) []++List.take 1 (List.drop 0 [p]))).length/\0=0/\T.length=T.length/\Bt (λ(v9:KO) (k10:KO->Prop)=>Br (decide ((↑v9.2.2.2.2.2.1.length:Int)>(0:Int))) (((0:Int)<=l/\l<(↑v9.2.1.length:Int))/\0=0/\(List.take v9.2.2.2.2.2.1.length (List.drop 0 v9.2.2.2.2.2.1)).length=(List.take v9.2.2.2.2.2.1.length (List.drop 0 v9.2.2.2.2.2.1)).length/\0=0/\v9.2.1.length=v9.2.1.length/\0=0/\v9.2.2.2.1.length=v9.2.2.2.1.length/\Bt (λ(v11:tp) (k12:tp->Prop)=>Br (decide (v11.2.2.1<(↑(v9.2.1.getD (0+l.toNat) []).length:Int))) (((0:Int)<=v11.2.2.1/\v11.2.2.1<(↑(v11.2.2.2.1.getD v11.2.1 []).length:Int))/\((0:Int)<=(0:Int)/\(0:Int)<(↑v11.2.2.2.2.2.2.2.1.length:Int))/\ ∃(iy:Int),v11.2.2.2.2.2.2.2.1[0+Int.toNat (0:Int)]?=some iy/\ ∃(Yy:Int),idx (((v11.2.2.2.1.getD v11.2.1 []).getD v11.2.2.1.toNat (none:Option (List Int))).getD []) iy=some Yy/\((0:Int)<=Yy/\Yy<(↑(v11.2.2.2.2.2.1.getD v11.1 []).length:Int))/\Br ((v11.2.2.2.2.2.1.getD v11.1 []).getD Yy.toNat (none:Option (List Int))).isNone (((0:Int)<=(0:Int)/\(0:Int)<(↑v11.2.2.2.2.2.2.2.1.length:Int))/\ ∃(dc:Int),v11.2.2.2.2.2.2.2.1[0+Int.toNat (0:Int)]?=some dc/\((0:Int)<=dc/\dc<(↑(v11.2.2.2.2.2.1.getD v11.1 []).length:Int))/\ ∃(dM:Option (List Int)),Qr.fn (((v11.2.2.2.2.2.1.getD v11.1 []).getD dc.toNat (none:Option (List Int))).getD [],((v11.2.2.2.1.getD v11.2.1 []).getD v11.2.2.1.toNat (none:Option (List Int))).getD [],())=some dM/\((0:Int)<=Yy/\Yy<(↑(v11.2.2.2.2.2.1.getD v11.1 []).length:Int))/\0=0/\v11.2.2.2.2.2.2.2.1.length=v11.2.2.2.2.2.2.2.1.length/\v11.2.2.2.2.2.2.2.1.length+(List.take 1 (List.drop 0 [Yy])).length<=Bm/\0=0/\(List.take (v11.2.2.2.2.2.2.2.1++List.take 1 (List.drop 0 [Yy])).length (List.drop 0 (v11.2.2.2.2.2.2.2.1++List.take 1 (List.drop 0 [Yy])))).length=(List.take (v11.2.2.2.2.2.2.2.1++List.take 1 (List.drop 0 [Yy])).length (List.drop 0 (v11.2.2.2.2.2.2.2.1++List.take 1 (List.drop 0 [Yy])))).length/\0=0/\v11.2.2.2.1.length=v11.2.2.2.1.length/\0=0/\v11.2.2.2.2.2.1.length=(v11.2.2.2.2.2.1.set v11.1 ((v11.2.2.2.2.2.1.getD v11.1 []).set Yy.toNat dM)).length/\k12 (v11.1,v11.2.1,IntKind.i64.wrap (v11.2.2.1+(1:Int)),v11.2.2.2.1,v11.2.2.2.2.1,v11.2.2.2.2.2.1.set v11.1 ((v11.2.2.2.2.2.1.getD v11.1 []).set Yy.toNat dM),v11.2.2.2.2.2.2.1,List.take (v11.2.2.2.2.2.2.2.1++List.take 1 (List.drop 0 [Yy])).length (List.drop 0 (v11.2.2.2.2.2.2.2.1++List.take 1 (List.drop 0 [Yy]))),v11.2.2.2.2.2.2.2.2.1,())) (0=0/\(List.take v11.2.2.2.2.2.2.2.1.length (List.drop 0 v11.2.2.2.2.2.2.2.1)).length=(List.take v11.2.2.2.2.2.2.2.1.length (List.drop 0 v11.2.2.2.2.2.2.2.1)).length/\0=0/\v11.2.2.2.1.length=v11.2.2.2.1.length/\0=0/\v11.2.2.2.2.2.1.length=v11.2.2.2.2.2.1.length/\k12 (v11.1,v11.2.1,IntKind.i64.wrap (v11.2.2.1+(1:Int)),v11.2.2.2.1,v11.2.2.2.2.1,v11.2.2.2.2.2.1,v11.2.2.2.2.2.2.1,List.take v11.2.2.2.2.2.2.2.1.length (List.drop 0 v11.2.2.2.2.2.2.2.1),v11.2.2.2.2.2.2.2.2.1,()))) (((0:Int)<=(1:Int)/\(1:Int)<=(↑v11.2.2.2.2.2.2.2.1.length:Int)/\(↑v11.2.2.2.2.2.2.2.1.length:Int)<=(↑v11.2.2.2.2.2.2.2.1.length:Int))/\0=0/\(List.take ((↑v11.2.2.2.2.2.2.2.1.length:Int).toNat-Int.toNat (1:Int)) (List.drop (0+Int.toNat (1:Int)) v11.2.2.2.2.2.2.2.1)).length=(List.take ((↑v11.2.2.2.2.2.2.2.1.length:Int).toNat-Int.toNat (1:Int)) (List.drop (0+Int.toNat (1:Int)) v11.2.2.2.2.2.2.2.1)).length/\0=0/\v11.2.2.2.1.length=v11.2.2.2.1.length/\0=0/\v11.2.2.2.2.2.1.length=v11.2.2.2.2.2.1.length/\k10 (v11.1,v11.2.2.2.1,v11.2.2.2.2.1,v11.2.2.2.2.2.1,v11.2.2.2.2.2.2.1,List.take ((↑v11.2.2.2.2.2.2.2.1.length:Int).toNat-Int.toNat (1:Int)) (List.drop (0+Int.toNat (1:Int)) v11.2.2.2.2.2.2.2.1),v11.2.2.2.2.2.2.2.2.1,()))) (v9.1,0+l.toNat,(0:Int),v9.2.1,v9.2.2.1,v9.2.2.2.1,v9.2.2.2.2.1,List.take v9.2.2.2.2.2.1.length (List.drop 0 v9.2.2.2.2.2.1),v9.2.2.2.2.2.2.1,PUnit.unit)) (∃(kM:(List Int×PUnit)×PUnit),Ko.fn (v9.2.2.2.1.getD v9.1 [],())=some kM/\0=0/\kM.1.1.length=kM.1.1.length/\0=0/\v9.2.1.length=v9.2.1.length/\0=0/\v9.2.2.2.1.length=v9.2.2.2.1.length/\Bt (λ(fM:KN) (k13:KN->Prop)=>Br (decide (fM.2.1<(↑kM.1.1.length:Int))) (((0:Int)<=fM.2.1/\fM.2.1<(↑fM.2.2.2.2.2.2.1.length:Int))/\ ∃(Yy:Int),fM.2.2.2.2.2.2.1[0+fM.2.1.toNat]?=some Yy/\((0:Int)<=l/\l<(↑fM.2.2.1.length:Int))/\0=0/\fM.2.2.2.2.2.2.1.length=fM.2.2.2.2.2.2.1.length/\0=0/\fM.2.2.1.length=fM.2.2.1.length/\0=0/\fM.2.2.2.2.1.length=fM.2.2.2.2.1.length/\Bt (λ(La:tp) (k16:tp->Prop)=>Br (decide (La.2.2.1<(↑(fM.2.2.1.getD (0+l.toNat) []).length:Int))) (((0:Int)<=La.2.2.1/\La.2.2.1<(↑(La.2.2.2.1.getD La.2.1 []).length:Int))/\((0:Int)<=Yy/\Yy<(↑(La.2.2.2.2.2.1.getD La.1 []).length:Int))/\ ∃(BD:Option (List Int)),Qr.fn (((La.2.2.2.2.2.1.getD La.1 []).getD Yy.toNat (none:Option (List Int))).getD [],((La.2.2.2.1.getD La.2.1 []).getD La.2.2.1.toNat (none:Option (List Int))).getD [],())=some BD/\ ∃(FO:Int),idx (((La.2.2.2.1.getD La.2.1 []).getD La.2.2.1.toNat (none:Option (List Int))).getD []) Yy=some FO/\((0:Int)<=FO/\FO<(↑(La.2.2.2.2.2.1.getD La.1 []).length:Int))/\ ∃(PX:List Int),El.fn (((La.2.2.2.2.2.1.getD La.1 []).getD FO.toNat (none:Option (List Int))).getD [],())=some PX/\ ∃(GC:Option (List Int)),Qr.fn (BD.getD [],PX,())=some GC/\0=0/\La.2.2.2.1.length=La.2.2.2.1.length/\0=0/\La.2.2.2.2.2.1.length=La.2.2.2.2.2.1.length/\ ∃(xh:(Int×List (List (Option (List Int)))×List (List (Option (List Int)))×PUnit)×PUnit),(Pd m).fn (La.2.2.2.2.2.2.2.2.1,La.2.2.2.1,La.2.2.2.2.2.1,IntKind.i64.wrap (l+(1:Int)),GC,())=some xh/\(La.1<(Pd m).Cs (La.2.2.2.2.2.2.2.2.1,La.2.2.2.1,La.2.2.2.2.2.1,IntKind.i64.wrap (l+(1:Int)),GC,())/\La.1<(List.length xh.1.2.2.1))/\(La.2.1<(Pd m).Cs (La.2.2.2.2.2.2.2.2.1,La.2.2.2.1,La.2.2.2.2.2.1,IntKind.i64.wrap (l+(1:Int)),GC,())/\La.2.1<(List.length xh.1.2.1))/\(La.1<(Pd m).Cs (La.2.2.2.2.2.2.2.2.1,La.2.2.2.1,La.2.2.2.2.2.1,IntKind.i64.wrap (l+(1:Int)),GC,())/\La.1<(List.length xh.1.2.2.1))/\(La.1<(Pd m).Cs (La.2.2.2.2.2.2.2.2.1,La.2.2.2.1,La.2.2.2.2.2.1,IntKind.i64.wrap (l+(1:Int)),GC,())/\La.1<(List.length xh.1.2.2.1))/\0=0/\La.2.2.2.2.2.2.2.1.length=La.2.2.2.2.2.2.2.1.length/\0=0/\xh.1.2.1.length=xh.1.2.1.length/\0=0/\xh.1.2.2.1.length=xh.1.2.2.1.length/\k16 (La.1,La.2.1,IntKind.i64.wrap (La.2.2.1+(1:Int)),xh.1.2.1,min La.2.2.2.2.1 ((Pd m).Cs (La.2.2.2.2.2.2.2.2.1,La.2.2.2.1,La.2.2.2.2.2.1,IntKind.i64.wrap (l+(1:Int)),GC,())),xh.1.2.2.1,min La.2.2.2.2.2.2.1 ((Pd m).Cs (La.2.2.2.2.2.2.2.2.1,La.2.2.2.1,La.2.2.2.2.2.1,IntKind.i64.wrap (l+(1:Int)),GC,())),La.2.2.2.2.2.2.2.1,xh.1.1,())) (0=0/\La.2.2.2.2.2.2.2.1.length=La.2.2.2.2.2.2.2.1.length/\0=0/\La.2.2.2.1.length=La.2.2.2.1.length/\0=0/\La.2.2.2.2.2.1.length=La.2.2.2.2.2.1.length/\k13 (La.1,IntKind.i64.wrap (fM.2.1+(1:Int)),La.2.2.2.1,La.2.2.2.2.1,La.2.2.2.2.2.1,La.2.2.2.2.2.2.1,La.2.2.2.2.2.2.2.1,La.2.2.2.2.2.2.2.2.1,()))) (fM.1,0+l.toNat,(0:Int),fM.2.2.1,fM.2.2.2.1,fM.2.2.2.2.1,fM.2.2.2.2.2.1,fM.2.2.2.2.2.2.1,fM.2.2.2.2.2.2.2.1,PUnit.unit)) ((0=0/\fM.2.2.1.length=fM.2.2.1.length)/\(0=0/\fM.2.2.2.2.1.length=fM.2.2.2.2.1.length)/\(Pd (m+1)).Cs (n,G,T,l,p,())<=fM.2.2.2.1/\(Pd (m+1)).Cs (n,G,T,l,p,())<=fM.2.2.2.2.2.1/\P ((fM.2.2.2.2.2.2.2.1,fM.2.2.1,fM.2.2.2.2.1,()),()))) (v9.1,(0:Int),v9.2.1,v9.2.2.1,v9.2.2.2.1,v9.2.2.2.2.1,kM.1.1,v9.2.2.2.2.2.2.1,PUnit.unit))) (0+l.toNat,G.set (0+l.toNat) (G.getD (0+l.toNat) []++List.take 1 (List.drop 0 [p])),min G.length (0+l.toNat),T,T.length,List.take y8.1.1.length (List.drop 0 y8.1.1),n,PUnit.unit))/\(((((0:Int)<=l/\l<(↑G.length:Int))/\((Gq G l p T y7 n))/\(Gq G l p T y7 n))/\((0:Int)<=l/\l<(↑G.length:Int))/\(Gq G l p T y7 n))/\((0:Int)<=l/\l<(↑G.length:Int))/\(Gq G l p T y7 n))/\(((((0:Int)<=l/\l<(↑G.length:Int))/\((Gq G l p T y7 n))/\(Gq G l p T y7 n))/\((0:Int)<=l/\l<(↑G.length:Int))/\(Gq G l p T y7 n))/\(((0:Int)<=l/\l<(↑G.length:Int))/\(((Gq G l p T y7 n))/\(Gq G l p T y7 n))/\(((Gq G l p T y7 n))/\((Gq G l p T y7 n))/\(Gq G l p T y7 n))/\((Gq G l p T y7 n))/\((Gq G l p T y7 n))/\(Gq G l p T y7 n))/\(((0:Int)<=l/\l<(↑G.length:Int))/\(Gq G l p T y7 n))/\((0:Int)<=l/\l<(↑G.length:Int))/\((Gq G l p T y7 n))/\((Gq G l p T y7 n))/\(Gq G l p T y7 n))/\(((0:Int)<=l/\l<(↑G.length:Int))/\(Gq G l p T y7 n))/\(((0:Int)<=l/\l<(↑G.length:Int))/\(Gq G l p T y7 n))/\((0:Int)<=l/\l<(↑G.length:Int))/\((Gq G l p T y7 n))/\((Gq G l p T y7 n))/\(Gq G l p T y7 n)))=fnMW (KS [Ho+7]) (look [(183,qC),(174,Ko),(156,Qr),(175,El),(173,Vo.m (Pd m))]) (Pd (m+1)) Try.f173 (n,G,T,l,p,()) P:=by kernel_rfl
theorem u7 {k l:Nat} {p:List Int} {s:Cz×Cz} (h:Iu s.2 k l p=true):Dr k l p s=s:=by
 cases k with
 |zero=>rfl
 |succ k=>unfold Dr;rw [if_pos h]
theorem u6 (k l:Nat) (p:List Int) (s:Cz×Cz):Dr (k+1) l p s=if Iu s.2 (k+1) l p=true then s else
   (aV (Rk (s.1.getD l []++ [some p]) (s.2.getD l [])) (s.1.getD l []++ [some p])).foldl (λs q=>Dr k (l+1) q s)
    (s.1.set l (s.1.getD l []++ [some p]),s.2.set l (Rk (s.1.getD l []++ [some p]) (s.2.getD l []))):=rfl
theorem IG {n:Nat} {p:List Int} (h:Pm n p) {i:Nat} (hi:i<n):idx p (i:Int)=some (ap p i:Int):=by
 have fk:i<p.length:=by rw [h.1];exact hi
 rw [Av fk,<-(h.Si hi).1,Ia fk]
theorem xr {x:Int} {gs:List PO} {j:Nat} (hj:j<gs.length) (s:Row×List Int):Sr x (gs.take (j+1)) s=Tb x (Sr x (gs.take j) s) gs[j]:=by
 unfold Sr
 rw [List.take_add_one,List.getElem?_eq_getElem hj,Option.toList_some,List.foldl_append]
 rfl
theorem xt {gs:List PO} {f:Nat} {row:Row} :Sl gs f [] row=row:=by cases f<;>rfl
theorem eZ {n:Nat} {p:List Int} (h:Pm n p):0<p.length/\p.length<=20:=⟨by rw [h.1];exact h.n1,by rw [h.1];exact h.n2⟩
theorem yR {n:Nat} {p q:List Int} (h:Pm n p) (k:Pm n q):Gs q.length p:=by rw [k.1];exact h.row
theorem Aal {m:Nat} (n:Int) (G T:List (List (Option (List Int)))) (l:Int) (p:Option (List Int)) (h:(∃N L q,p=some q/\lE N L n G T l q)/\(n-l).toNat<m+1):
  fnMW (KS [Ho+7]) (look [(183,qC),(174,Ko),(156,Qr),(175,El),(173,Vo.m (Pd m))]) (Pd (m+1)) Try.f173 (n,G,T,l,p,()) (λ(z:(Int×List (List (Option (List Int)))×List (List (Option (List Int)))×Unit)×Unit)=>z=((n,(Dr (n-l).toNat l.toNat (p.getD []) (G,T)).1,(Dr (n-l).toNat l.toNat (p.getD []) (G,T)).2,()),())):=by
 obtain ⟨⟨N,L,q,rfl,h⟩,hm⟩:=h
 have h':=h
 obtain ⟨n1,n2,en,el,hle,v,pm,fx⟩:=h
 subst en el
 have hk:((N:Int)-(L:Int)).toNat=N-L:=by omega
 rw [hk,Int.toNat_natCast]
 refine Eq.mp (Ab9 (N:Int) G T (L:Int) (some q) _) ⟨_,if_pos ⟨N,L,?a⟩,?b⟩
 case a=>
  simp only [List.drop_zero,List.take_length,Option.getD_some]
  exact h'
 obtain ⟨v1,v2,v3,v4⟩:=v
 dsimp only at v1 v2
 have hw:IntKind.i64.wrap ((L:Int)+1)=((L+1:Nat):Int):=Ar (by omega)
 simp only [Gq]
 simp only [List.drop_zero,List.take_length,Option.getD_some,hk,Int.toNat_natCast,Nat.zero_add,eq_self,true_and,and_true,List.take_succ_cons,List.take_zero,List.length_cons,List.length_nil,List.length_set,hw]
 refine Br.of (λhh=>⟨by show Int.toNat (L:Int)<=G.length;omega,by show Int.toNat (L:Int)<=T.length;omega,?_⟩) λhh=>?_
 ·rw [u7 (s:=(G,T)) hh]
 obtain ⟨k,hNk⟩: ∃k,N-L=k+1:=by
  cases e:N-L with
  |zero=>rw [e] at hh;simp [Iu] at hh
  |succ k=>exact ⟨k,rfl⟩
 have YB:L<N:=by omega
 have hv:V N (k+1) L (G,T):=by rw [<-hNk];exact ⟨v1,v2,v3,v4⟩
 rw [hNk] at hh⊢
 have e1:(0:Int)<=(L:Int)/\(L:Int)<(G.length:Int):=by omega
 have e1':(0:Int)<=(L:Int)/\(L:Int)<(T.length:Int):=by omega
 have hgl:(G.getD L []).length<=400:=MU n2 (by omega) hv
 have e2:(G.getD L []).length+1<=Bm:=by show _<=4294967296;omega
 simp only [e1,e1',e2,and_self,true_and,and_true]
 generalize zX:G.getD L []++ [some q]=gs
 have Aja:gs.length<=401:=by rw [<-zX,List.length_append,List.length_singleton];omega
 have hg:PG N L gs:=by rw [<-zX];exact hv.pg pm fx
 have TW:Ro N L gs (T.getD L []):=by rw [<-zX];exact hv.Aga q
 obtain ⟨r1,r2,r3⟩:=vX YB n2 hg TW
 generalize hR:Rk gs (T.getD L [])=R at r1 r2 r3
 have kX:Dr (k+1) L q (G,T)=(aV R gs).foldl (λs q=>Dr k (L+1) q s) (G.set L gs,T.set L R):=by
  rw [u6,if_neg (by rw [hh];simp)]
  dsimp only
  rw [zX,hR]
 rw [kX]
 have hTl:L<T.length:=by omega
 have hGl:L<G.length:=by omega
 have hG1:(G.set L gs).getD L []=gs:=dW G L hGl gs
 have hT1: ∀row:Row,(T.set L row).getD L []=row:=dW T L hTl
 refine ⟨_,if_pos (by show (T.getD L []).length<=20;rw [TW.rl];exact n2),?_⟩
 dsimp only
 have WU:(Hu (T.getD L [])).length+Lh (T.getD L [])<=40:=by have:=so (T.getD L []);have:=vT (T.getD L []);have:=TW.rl;omega
 have hq0:BG gs (Hu (T.getD L [])) (T.getD L []):=⟨λy hy=>Mz.1 hy,λy hy=> .inl (Mz.2 ⟨y,rfl,hy⟩)⟩
 refine ⟨λv=> ∃(row:Row) (qu:List Int) (kg kt:Nat),v=(L,G.set L gs,kg,T.set L row,kt,qu,(N:Int),())/\L<=kg/\L<=kt/\qu.length+Lh row<=40/\Ro N L gs row/\BG gs qu row/\Sl gs (qu.length+Lh row) qu row=R,
  fun v=>v.2.2.2.2.2.1.length+Lh (v.2.2.2.1.getD v.1 []),⟨T.getD L [],Hu (T.getD L []),min G.length L,T.length,?_,by omega,by omega,WU,TW,hq0,?_⟩,?_⟩
 ·rw [oV T L hTl]
 ·rw [<-uh YB hg 100 _ _ (by omega) TW hq0];exact hR
 rintro v ⟨row,qu,kg,kt,rfl,TJ,TM,hb,HZ,hqi,HM⟩
 dsimp only
 simp only [hG1,hT1,List.length_set]
 refine Br.dec (λhl=>⟨e1.2,?_⟩) λhl=>?_
 ·cases qu with
  |nil=>simp at hl
  |cons x qu=>
  obtain ⟨p1,p2,xn,t,rfl,ht⟩:=yI YB hg HZ hqi
  have AK:xn<N:=by rw [<-HZ.rl];exact lp ht
  refine As gs.length (λv=>v.2.2.1) (λj v=> ∃kg kt:Nat,v=(L,L,(j:Int),G.set L gs,kg,T.set L (Sr (xn:Int) (gs.take j) (row,qu)).1,kt,(xn:Int)::(Sr (xn:Int) (gs.take j) (row,qu)).2,(N:Int),())/\L<=kg/\L<=kt) rfl ⟨kg,kt,rfl,TJ,TM⟩ ?_
  rintro j v K hj hi ⟨kg,kt,rfl,h1,h2⟩ hK
  dsimp only
  simp only [hG1,hT1,Int.toNat_natCast]
  refine Br.dec (λhl=>?_) λhl=>?_
  ·have hl:j<gs.length:=by omega
   obtain ⟨x1,x2⟩:=JV YB hg (gs.take j) (q:=qu) (λo ho=>List.mem_of_mem_take ho) HZ ht
   have Pp:=xr (x:=(xn:Int)) hl (row,qu)
   generalize Sr (xn:Int) (gs.take j) (row,qu)=s at x1 x2 Pp⊢
   obtain ⟨r,qq⟩:=s
   dsimp only at x1 x2⊢
   obtain ⟨g,oh,Ps,TD⟩:=hg gs[j] (List.getElem_mem hl)
   have htx:r.getD xn none=some t:=x1.mono _ _ ht
   obtain ⟨t1,t2,t3,t4⟩:=x1.ok.rt _ _ htx
   have ZP:r.length=N:=x1.ok.rl
   have hgj:gs.getD j none=some g:=by rw [HH hl];exact oh
   have hy:=Ps.lt AK
   have hga:=(Ps.Si AK).1
   have NP:qq.length+Lh r=qu.length+Lh row:=x1.XF
   simp only [List.length_cons] at hb
   simp only [hgj,Option.getD_some]
   refine ⟨⟨by omega,by omega⟩,⟨by omega,by simp only [List.length_cons];omega⟩,_,rfl,_,IG Ps AK,⟨by omega,by omega⟩,?_⟩
   rw [oh] at Pp
   unfold Tb at Pp
   dsimp only at Pp
   rw [Option.getD_some,hga,Int.toNat_natCast,Int.toNat_natCast,htx,Option.getD_some] at Pp
   rw [Int.toNat_natCast]
   refine Br.of (λhn=>?_) λhn=>?_
   ·have hn:r.getD (ap g xn) none=none:=by
     cases e:r.getD (ap g xn) none with
     |none=>rfl
     |some u=>rw [e] at hn;simp at hn
    rw [hn] at Pp
    refine ⟨⟨by omega,by simp only [List.length_cons];omega⟩,_,rfl,⟨by omega,by omega⟩,some (Aa t g),?_,⟨by omega,by omega⟩,?_,?_⟩
    ·rw [Int.toNat_natCast,htx,Option.getD_some]
     exact if_pos ⟨eZ t1,yR t1 Ps⟩
    ·show qq.length+1+1<=4294967296
     omega
    ·rw [Ar (by omega)]
     refine hK hl _ rfl ⟨kg,kt,?_,h1,h2⟩
     rw [Pp,List.set_set]
     rfl
   ·have hn: ∃u,r.getD (ap g xn) none=some u:=by
     cases e:r.getD (ap g xn) none with
     |none=>rw [e] at hn;simp at hn
     |some u=>exact ⟨u,rfl⟩
    obtain ⟨u,hn⟩:=hn
    rw [hn] at Pp
    rw [Ar (by omega)]
    refine hK hl _ rfl ⟨kg,kt,?_,h1,h2⟩
    rw [Pp]
  ·have:j=gs.length:=by omega
   subst this
   rw [List.take_length]
   generalize hs:Sr (xn:Int) gs (row,qu)=s at p1 p2⊢
   obtain ⟨r,qq⟩:=s
   dsimp only at p1 p2⊢
   have NP:qq.length+Lh r=qu.length+Lh row:=p1.XF
   simp only [List.length_cons] at hb HM
   refine ⟨⟨by omega,by simp only [List.length_cons];omega,Int.le_refl _⟩,⟨r,qq,kg,kt,?_,h1,h2,by omega,p1.ok,p2,?_⟩,?_⟩
   ·simp
   ·rw [show qu.length+1+Lh row=(qu.length+Lh row)+1 by omega] at HM
    simp only [Sl,hs] at HM
    rw [NP]
    exact HM
   ·simp only [List.length_cons]
    have:(List.take (qq.length+1-Int.toNat 1) (List.drop (Int.toNat 1) ((xn:Int)::qq))).length=qq.length:=by simp
    rw [this]
    omega
 ·have:qu= []:=List.eq_nil_of_length_eq_zero (by omega)
  subst this
  rw [xt] at HM
  subst HM
  have hpr:=JQ YB hg HZ r3
  have ZZ:=hv.lower gs row
  have QX: ∀qs:List (List Int),(∀q∈qs,q∈aV row gs)->V N k (L+1) (qs.foldl (λs q=>Dr k (L+1) q s) (G.set L gs,T.set L row))/\Wp (L+1) (G.set L gs,T.set L row) (qs.foldl (λs q=>Dr k (L+1) q s) (G.set L gs,T.set L row)):=
   fun qs NR=>zN n1 n2 (by omega) qs _ (λq hq=>hpr q (NR q hq)) ZZ
  refine ⟨_,if_pos (by show row.length<=20;rw [HZ.rl];exact n2),?_⟩
  dsimp only
  have hol:=so row
  have ZP:=HZ.rl
  refine As (Hu row).length (λv=>v.2.1) (λi v=> ∃(s:Cz×Cz) (kg kt:Nat),v=(L,(i:Int),s.1,kg,s.2,kt,Hu row,(N:Int),())/\L<=kg/\L<=kt/\s=(((Hu row).take i).flatMap λy=>gs.map (Mw row y)).foldl (λs q=>Dr k (L+1) q s) (G.set L gs,T.set L row)) rfl ⟨_,kg,kt,rfl,TJ,TM,rfl⟩ ?_
  rintro i v K hi fk ⟨s,kg,kt,rfl,h1,h2,hs⟩ hK
  dsimp only
  have Qi: ∀q∈((Hu row).take i).flatMap (λy=>gs.map (Mw row y)),q∈aV row gs:= λq hq=>by
   obtain ⟨y,hy,hq⟩:=List.mem_flatMap.1 hq
   exact List.mem_flatMap.2 ⟨y,List.mem_of_mem_take hy,hq⟩
  refine Br.dec (λhl=>?_) λhl=>?_
  ·have hl:i<(Hu row).length:=by omega
   obtain ⟨f1,f2⟩:=QX _ Qi
   rw [<-hs] at f1 f2
   have g1:s.1.getD L []=gs:=by rw [(f2.low L (by omega)).1];exact hG1
   have g2:s.1.length=N:=f1.1
   obtain ⟨yn,RQ,hyr⟩:=Mz.1 (List.getElem_mem hl)
   obtain ⟨t,ht⟩:=Option.ne_none_iff_exists'.1 hyr
   have hyN:yn<N:=by rw [<-ZP];exact lp ht
   obtain ⟨t1,t2,t3,t4⟩:=HZ.rt _ _ ht
   refine ⟨⟨by omega,by omega⟩,(yn:Int),by rw [Int.toNat_natCast,List.getElem?_eq_getElem hl,RQ],by omega,?_⟩
   rw [g1]
   refine As gs.length (λv=>v.2.2.1) (λj v=> ∃(s':Cz×Cz) (kg kt:Nat),v=(L,L,(j:Int),s'.1,kg,s'.2,kt,Hu row,(N:Int),())/\L<=kg/\L<=kt/\s'=(((Hu row).take i).flatMap (λy=>gs.map (Mw row y))++(gs.take j).map (Mw row (yn:Int))).foldl (λs q=>Dr k (L+1) q s) (G.set L gs,T.set L row)) rfl ⟨s,kg,kt,rfl,h1,h2,by simpa using hs⟩ ?_
   rintro j v K' hj rI ⟨s',kg,kt,rfl,h1,h2,pT⟩ YA
   dsimp only
   refine Br.dec (λHa=>?_) λHa=>?_
   ·have Ha:j<gs.length:=by omega
    have AI: ∀q∈((Hu row).take i).flatMap (λy=>gs.map (Mw row y))++(gs.take j).map (Mw row (yn:Int)),q∈aV row gs:= λq hq=>by
     rcases List.mem_append.1 hq with hq|hq
     ·exact Qi q hq
     ·obtain ⟨o,ho,rfl⟩:=List.mem_map.1 hq
      exact List.mem_flatMap.2 ⟨(yn:Int),Mz.2 ⟨yn,rfl,hyr⟩,List.mem_map.2 ⟨o,List.mem_of_mem_take ho,rfl⟩⟩
    obtain ⟨WG,f2'⟩:=QX _ AI
    rw [<-pT] at WG f2'
    obtain ⟨G',T'⟩:=s'
    dsimp only at WG f2'⊢
    have g1':G'.getD L []=gs:=by have:=(f2'.low L (by omega)).1;dsimp only at this;rw [this];exact hG1
    have g3':T'.getD L []=row:=by have:=(f2'.low L (by omega)).2;dsimp only at this;rw [this];exact hT1 row
    have g4':G'.length=N:=WG.1
    have g5':T'.length=N:=WG.2.1
    obtain ⟨g,oh,Ps,TD⟩:=hg gs[j] (List.getElem_mem Ha)
    have hgj:gs.getD j none=some g:=by rw [HH Ha];exact oh
    have hgm:some g∈gs:=by rw [<-oh];exact List.getElem_mem Ha
    have hy:=Ps.lt hyN
    obtain ⟨t',lx⟩:=Option.ne_none_iff_exists'.1 (r3 yn t g ht hgm)
    obtain ⟨u1,u2,u3,u4⟩:=HZ.rt _ _ lx
    have ZS:Mw row (yn:Int) gs[j]=Aa (Aa t g) (Al t'):=by rw [oh];exact cM ht lx
    have RK:=hpr _ (List.mem_flatMap.2 ⟨(yn:Int),Mz.2 ⟨yn,rfl,hyr⟩,List.mem_map.2 ⟨gs[j],List.getElem_mem Ha,ZS⟩⟩)
    simp only [g1',g3',Int.toNat_natCast,hgj,ht,Option.getD_some]
    have my:L<Int.toNat ((L+1:Nat):Int):=by omega
    have HJ:=qY n1 n2 k (L+1) _ (G',T') (by omega) WG RK.1 RK.2
    have Ah6:((Dr k (L+1) (Aa (Aa t g) (Al t')) (G',T')).1).length=N:=HJ.v.1
    have Ah7:((Dr k (L+1) (Aa (Aa t g) (Al t')) (G',T')).2).length=N:=HJ.v.2.1
    have LY:((N:Int)-((L+1:Nat):Int)).toNat=k:=by omega
    refine ⟨⟨by omega,by omega⟩,⟨by omega,by omega⟩,some (Aa t g),if_pos ⟨eZ t1,yR t1 Ps⟩,_,IG Ps hyN,⟨by omega,by omega⟩,Al t',?_,some (Aa (Aa t g) (Al t')),?_,_,if_pos ⟨⟨N,L+1,_,rfl,?pr⟩,?lt⟩,⟨my,?k1⟩,⟨my,?k2⟩,⟨my,?k3⟩,⟨my,?k4⟩,?go⟩
    case pr=>exact ⟨n1,n2,rfl,rfl,by omega,by rw [show N-(L+1)=k by omega];exact WG,RK.1,RK.2⟩
    case lt=>
     show ((N:Int)-((L+1:Nat):Int)).toNat<m
     omega
    case go=>
     dsimp only
     rw [Ar (by omega)]
     refine YA Ha _ rfl ⟨_,_,_,rfl,?_,?_,?_⟩
     ·show L<=min kg (Int.toNat ((L+1:Nat):Int));omega
     ·show L<=min kt (Int.toNat ((L+1:Nat):Int));omega
     ·rw [List.take_add_one,List.getElem?_eq_getElem Ha,Option.toList_some,List.map_append,<-List.append_assoc,List.foldl_append,<-pT]
      simp only [List.map_cons,List.map_nil,List.foldl_cons,List.foldl_nil,ZS,LY,Int.toNat_natCast,Option.getD_some]
    case k1=>simp only [LY,Int.toNat_natCast,Option.getD_some];omega
    case k2=>simp only [LY,Int.toNat_natCast,Option.getD_some];omega
    case k3=>simp only [LY,Int.toNat_natCast,Option.getD_some];omega
    case k4=>simp only [LY,Int.toNat_natCast,Option.getD_some];omega
    ·rw [Int.toNat_natCast,lx,Option.getD_some]
     exact if_pos ⟨by show t'.length<=20;rw [u1.1];exact n2,u1.2.row⟩
    ·exact if_pos ⟨eZ (t1.comp Ps),yR (t1.comp Ps) u1.inv⟩
   ·have:j=gs.length:=by omega
    subst this
    rw [Ar (by omega)]
    refine hK hl _ rfl ⟨s',kg,kt,rfl,h1,h2,?_⟩
    rw [pT,List.take_length,List.take_add_one,List.getElem?_eq_getElem hl,Option.toList_some,List.flatMap_append,RQ]
    simp
  ·have:i=(Hu row).length:=by omega
   subst this
   rw [List.take_length] at hs
   refine ⟨h1,h2,?_⟩
   rw [hs]
   rfl
theorem KI {m:Nat} (UI:Cd Try.prog 173 (Pd m)):Cd Try.prog 173 (Pd (m+1)):=
 Cd.xg (PH [Ho+7]) (Ah EK (Hg eu (Ah nz (Ah Pj (Hg UI Ao))))) mixed Try.func173 (by kernel_rfl) (by kernel_rfl) λx h=>Aal x.1 x.2.1 x.2.2.1 x.2.2.2.1 x.2.2.2.2.1 h
theorem yY:Cd Try.prog 173 (Pd 0):=
 Cd.xg jK Ao mixed Try.func173 (by kernel_rfl) (by kernel_rfl) λ_ h=>absurd h.2 (Nat.not_lt_zero _)
theorem nw: ∀m,Cd Try.prog 173 (Pd m)
 |0=>yY
 |m+1=>KI (nw m)
noncomputable abbrev sN:MSpec:=xg RU (λx=> ∃N L q,x.2.2.2.2.1=some q/\lE N L x.1 x.2.1 x.2.2.1 x.2.2.2.1 q)
 (λx=>((x.1,(Dr (x.1-x.2.2.2.1).toNat x.2.2.2.1.toNat (x.2.2.2.2.1.getD []) (x.2.1,x.2.2.1)).1,(Dr (x.1-x.2.2.2.1).toNat x.2.2.2.1.toNat (x.2.2.2.2.1.getD []) (x.2.1,x.2.2.1)).2,()),()))
theorem yZ:Cd Try.prog 173 sN:=Cd.Aaj (λx=>(x.1-x.2.2.2.1).toNat) nw
end Go.Proofs.Ytjbdmibbbpdnnaa

namespace Go.Proofs.Ytjbdmibbbpdnnaa
open Go.RowKit
def Sp (n:Nat):Cz:=List.replicate n []
def Yv (n i:Nat):Row:=(List.replicate n none).set i (some (upto n))
def Xg (n:Nat):Cz:=(List.range n).map λi=>Yv n i
def Nd (n:Nat) (gens:List PO):Cz×Cz:=gens.foldl (λs o=>Dr n 0 (o.getD []) s) (Sp n,Xg n)
noncomputable abbrev yc:MSpec:= {Gy:= [none,none],ins:= [(false, .Fc tI),(false, .Fc XG)],Fv:=false,Fz:= [none,none,none],outs:= [.Fc tI, .Ak tO SA false, .Ak tO SA false],fn:= λ_=>none,rp:=some 179}
noncomputable abbrev cL:MSpec:=xg yc (λx=>(1<=x.1/\x.1<=20)/\List.length x.2.1<=4294967296/\ ∀o∈(x.2.1:List PO),∃g,o=some g/\Pm x.1.toNat g)
 (λx=>((x.1,(Nd x.1.toNat x.2.1).1,(Nd x.1.toNat x.2.1).2,()),()))
abbrev Tm:Type:=Int×List (List (Option (List Int)))×Int×List (List (Option (List Int)))×PUnit
theorem wY (n:Int) (gens:List (Option (List Int))) (P:(Int×List (List (Option (List Int)))×List (List (Option (List Int)))×Unit)×Unit->Prop):(((0:Int)<=n/\n<(↑Bm:Int)+(1:Int))/\n=n/\0=0/\(List.replicate n.toNat ([]:List (Option (List Int)))).length=(List.replicate n.toNat ([]:List (Option (List Int)))).length/\0=0/\0=([]:List Int).length/\Bt (λ(v3:Tm) (k4:Tm->Prop)=>Br (decide (v3.1<n)) (((0:Int)<=n/\n<(↑Bm:Int)+(1:Int))/\n=n/\ ∃(y5:Option (List Int)),Wf.fn (n,())=some y5/\((0:Int)<=v3.1/\v3.1<(↑(List.replicate n.toNat (none:Option (List Int))).length:Int))/\0+v3.1.toNat<(List.replicate n.toNat (none:Option (List Int))).length/\0=0/\(List.replicate n.toNat (none:Option (List Int))).length=((List.replicate n.toNat (none:Option (List Int))).set (0+v3.1.toNat) y5).length/\(0=0/\v3.2.2.2.1.length=v3.2.2.2.1.length)/\(0=0/\1= [(List.replicate n.toNat (none:Option (List Int))).set (0+v3.1.toNat) y5].length)/\0< [(List.replicate n.toNat (none:Option (List Int))).set (0+v3.1.toNat) y5].length/\v3.2.2.2.1.length+ [(List.replicate n.toNat (none:Option (List Int))).set (0+v3.1.toNat) y5].length<=Bm/\0=0/\v3.2.1.length=v3.2.1.length/\0=0/\(v3.2.2.2.1++ [(List.replicate n.toNat (none:Option (List Int))).set (0+v3.1.toNat) y5]).length=(v3.2.2.2.1++ [(List.replicate n.toNat (none:Option (List Int))).set (0+v3.1.toNat) y5]).length/\k4 (IntKind.i64.wrap (v3.1+(1:Int)),v3.2.1,v3.2.2.1,v3.2.2.2.1++ [(List.replicate n.toNat (none:Option (List Int))).set (0+v3.1.toNat) y5],())) (0=0/\v3.2.1.length=v3.2.1.length/\0=0/\v3.2.2.2.1.length=v3.2.2.2.1.length/\Bt (λ(v5:Tm) (k6:Tm->Prop)=>Br (decide (v5.1<(↑gens.length:Int))) (∃(y7:Option (List Int)),idx gens v5.1=some y7/\0=0/\v5.2.1.length=v5.2.1.length/\0=0/\v5.2.2.2.1.length=v5.2.2.2.1.length/\ ∃(y8:(Int×List (List (Option (List Int)))×List (List (Option (List Int)))×PUnit)×PUnit),sN.fn (v5.2.2.1,v5.2.1,v5.2.2.2.1,(0:Int),y7,())=some y8/\0=0/\y8.1.2.1.length=y8.1.2.1.length/\0=0/\y8.1.2.2.1.length=y8.1.2.2.1.length/\k6 (IntKind.i64.wrap (v5.1+(1:Int)),y8.1.2.1,y8.1.1,y8.1.2.2.1,())) ((0=0/\v5.2.1.length=v5.2.1.length)/\(0=0/\v5.2.2.2.1.length=v5.2.2.2.1.length)/\P ((v5.2.2.1,v5.2.1,v5.2.2.2.1,()),()))) ((0:Int),v3.2.1,v3.2.2.1,v3.2.2.2.1,PUnit.unit))) ((0:Int),List.replicate n.toNat ([]:List (Option (List Int))),n,[],PUnit.unit))=fnMW Tn (look [(127,Wf),(173,sN)]) cL Try.f154 (n,gens,()) P:=by kernel_rfl
theorem Vf (n i:Nat):(Sp n).getD i []= []:=by
 unfold Sp
 rw [List.getD_eq_getElem?_getD,List.getElem?_replicate]
 split<;>rfl
theorem fJ {n i:Nat} (h:i<n):(Xg n).getD i []=Yv n i:=by
 unfold Xg
 rw [List.getD_eq_getElem?_getD,List.getElem?_map,List.getElem?_range h]
 rfl
theorem il {n i y:Nat} (h:i<n):(Yv n i).getD y none=if i=y then some (upto n) else none:=by
 unfold Yv
 rw [Ns,List.length_replicate]
 by_cases e:i=y
 ·rw [if_pos ⟨e,h⟩,if_pos e]
 ·rw [if_neg (λhh=>e hh.1),if_neg e,List.getD_eq_getElem?_getD,List.getElem?_replicate]
  split<;>rfl
theorem nM {n:Nat} (h1:1<=n) (h2:n<=20): ∀(k l:Nat),l+k=n->eN n k l (Sp n,Xg n)
 |0,l,hk=>Vf n l
 |k+1,l,hk=>by
  have hl:l<n:=by omega
  have hg: ∀(g:List Int) (j:Nat),some g∈(Sp n).getD j []->False:= λg j hg=>by rw [Vf] at hg;cases hg
  refine ⟨nM h1 h2 k (l+1) (by omega),⟨λo ho=>?_,?_,?_,λy t e0=>?_,λy t g _ Yz=>(hg _ _ Yz).elim,λy t g t' _ Yz=>(hg _ _ Yz).elim⟩,λg Yz=>(hg _ _ Yz).elim⟩
  ·have ho:o∈(Sp n).getD l []:=ho
   rw [Vf] at ho;cases ho
  ·show ((Xg n).getD l []).length=n
   rw [fJ hl];simp [Yv]
  ·show ((Xg n).getD l []).getD l none=_
   rw [fJ hl,il hl,if_pos rfl]
  ·replace e0:((Xg n).getD l []).getD y none=some t:=e0
   rw [fJ hl,il hl] at e0
   by_cases hy:l=y
   ·rw [if_pos hy] at e0
    have e1:=Option.some.inj e0
    subst e1 hy
    exact ⟨Pm.id h1 h2,λi hi=>dO (by omega),dO hl, .id⟩
   ·rw [if_neg hy] at e0;cases e0
theorem wH (n:Nat): ∀(k l:Nat),XL k l (Sp n,Xg n)
 |0,_=>trivial
 |k+1,l=>⟨wH n k (l+1),by show ((Sp n).getD l []).length<=_;rw [Vf];exact Nat.zero_le _⟩
theorem AX {n:Nat} (h1:1<=n) (h2:n<=20):V n n 0 (Sp n,Xg n):=⟨by simp [Sp],by simp [Xg],nM h1 h2 n 0 (by omega),wH n n 0⟩
def PmL (n:Nat) (gens:List PO):Prop:= ∀o∈gens,∃g,o=some g/\Pm n g
theorem u5 {n:Nat} {gens:List PO} {j:Nat} (hj:j<gens.length):Nd n (gens.take (j+1))=Dr n 0 (gens[j].getD []) (Nd n (gens.take j)):=by
 unfold Nd
 rw [List.take_add_one,List.getElem?_eq_getElem hj,Option.toList_some,List.foldl_append]
 rfl
theorem iG {n:Nat} (h1:1<=n) (h2:n<=20): ∀(gens:List PO) (s:Cz×Cz),PmL n gens->V n n 0 s->V n n 0 (gens.foldl (λs o=>Dr n 0 (o.getD []) s) s)/\
  Wp 0 s (gens.foldl (λs o=>Dr n 0 (o.getD []) s) s)/\(∀g,some g∈gens->Gn n ((gens.foldl (λs o=>Dr n 0 (o.getD []) s) s).1.getD 0 []) g)/\ ∀o∈(gens.foldl (λs o=>Dr n 0 (o.getD []) s) s).1.getD 0 [],o∈s.1.getD 0 []\/o∈gens
 | [],s,_,hv=>⟨hv,Wp.refl _ _,(λ_ hg=>by cases hg),λ_ ho=> .inl ho⟩
 |o::gens,s,hg,hv=>by
  obtain ⟨g,rfl,Ps⟩:=hg o (by simp)
  have ha:=qY h1 h2 n 0 g s (by omega) hv Ps (λi hi=>absurd hi (Nat.not_lt_zero _))
  obtain ⟨a1,a2,a3,a4⟩:=iG h1 h2 gens (Dr n 0 g s) (λo ho=>hg o (by simp [ho])) ha.v
  refine ⟨a1,ha.grow.trans a2 (Nat.le_refl _),λg' Yz=>?_,λo ho=>?_⟩
  ·rcases List.mem_cons.1 Yz with e|Yz
   ·cases e;exact ha.Aae.mono λg hg=>a2.zR _ _ hg
   ·exact a3 g' Yz
  ·rcases a4 o ho with h|h
   ·rcases ha.gens o h with h|h
    ·exact .inl h
    ·exact .inr (by simp [h])
   ·exact .inr (by simp [h])
theorem tZ {n:Nat} (h1:1<=n) (h2:n<=20) {gens:List PO} (hg:PmL n gens):V n n 0 (Nd n gens):=(iG h1 h2 gens _ hg (AX h1 h2)).1
theorem mj {n:Nat} (h1:1<=n) (h2:n<=20) {gens:List PO} (hg:PmL n gens) {p:List Int} (hp:Pm n p):Iu (Nd n gens).2 n 0 p=true↔Gn n gens p:=by
 obtain ⟨a1,a2,a3,a4⟩:=iG h1 h2 gens _ hg (AX h1 h2)
 have hS:zz n λg=>some g∈gens:=⟨⟨h1,h2⟩,λg Yz=>by obtain ⟨g',e,h⟩:=hg _ Yz;cases e;exact h⟩
 have Qi: ∀g,some g∈(Nd n gens).1.getD 0 []->some g∈gens:= λg Yz=>by
  rcases a4 _ Yz with h|h
  ·have h:some g∈(Sp n).getD 0 []:=h
   rw [Vf] at h;cases h
  ·exact h
 have YC:zz n λg=>some g∈(Nd n gens).1.getD 0 []:=⟨⟨h1,h2⟩,λg Yz=>hS.2 g (Qi g Yz)⟩
 refine (gy h1 h2 n 0 (Nd n gens) (by omega) a1.2.2.1 p hp λi hi=>absurd hi (Nat.not_lt_zero _)).trans ⟨λh=>h.mono Qi,λh=>h.trans YC λg Yz=>a3 g Yz⟩
theorem w9 (n:Int) (gens:List (Option (List Int))) (h:(1<=n/\n<=20)/\List.length gens<=4294967296/\ ∀o∈(gens:List PO),∃g,o=some g/\Pm n.toNat g):
  fnMW Tn (look [(127,Wf),(173,sN)]) cL Try.f154 (n,gens,()) (λ(z:(Int×List (List (Option (List Int)))×List (List (Option (List Int)))×Unit)×Unit)=>z=((n,(Nd n.toNat gens).1,(Nd n.toNat gens).2,()),())):=by
 obtain ⟨⟨h1,h2⟩,h3,hg⟩:=h
 obtain ⟨N,rfl⟩: ∃N:Nat,n=N:=⟨n.toNat,by omega⟩
 rw [Int.toNat_natCast] at hg⊢
 have h1:1<=N:=by omega
 have h2:N<=20:=by omega
 refine Eq.mp (wY (N:Int) gens _) ?_
 have hm:((0:Int)<=(N:Int)/\(N:Int)<(Bm:Int)+1):=⟨by omega,by show (N:Int)<(4294967296:Int)+1;omega⟩
 simp only [hm,and_self,eq_self,true_and,Int.toNat_natCast,Nat.zero_add,List.length_nil,List.length_set,List.length_replicate,List.length_cons,Nat.lt_add_one,List.length_append]
 refine As N (λv=>v.1) (λj v=>v=((j:Int),Sp N,(N:Int),(List.range j).map (Yv N),())) rfl rfl ?_
 rintro j v K hj hi rfl hK
 dsimp only
 refine Br.dec (λhl=>?_) λhl=>?_
 ·refine ⟨_,if_pos ⟨by show (1:Int)<=N;omega,by show (N:Int)<=20;omega⟩,⟨by omega,by omega⟩,by rw [Int.toNat_natCast];omega,?_,?_⟩
  ·show _<=4294967296
   simp only [List.length_map,List.length_range]
   omega
  ·rw [Ar (by omega)]
   refine hK (by omega) _ rfl ?_
   rw [List.range_succ,List.map_append]
   rfl
 ·have:j=N:=by omega
  subst this
  refine As gens.length (λv=>v.1) (λi v=>v=((i:Int),(Nd j (gens.take i)).1,(j:Int),(Nd j (gens.take i)).2,())) rfl rfl ?_
  rintro i v K' fk Ajc rfl YA
  dsimp only
  refine Br.dec (λHa=>?_) λHa=>?_
  ·have Ha:i<gens.length:=by omega
   obtain ⟨g,oh,Ps⟩:=hg gens[i] (List.getElem_mem Ha)
   have hv:=tZ h1 h2 (gens:=gens.take i) λo ho=>hg o (List.mem_of_mem_take ho)
   refine ⟨_,Av Ha,_,if_pos ⟨j,0,g,oh,h1,h2,rfl,rfl,Nat.zero_le _,hv,Ps,λi hi=>absurd hi (Nat.not_lt_zero _)⟩,?_⟩
   rw [Ar (by omega)]
   refine YA Ha _ rfl ?_
   rw [u5 Ha]
   simp only [Int.sub_zero,Int.toNat_natCast]
   rfl
  ·have:i=gens.length:=by omega
   subst this
   rw [List.take_length]
theorem l9:Cd Try.prog 154 cL:=
 Cd.xg jK (Ah l6 (Hg yZ Ao)) mixed Try.func154 (by kernel_rfl) (by kernel_rfl) λx h=>w9 x.1 x.2.1 h
end Go.Proofs.Ytjbdmibbbpdnnaa

namespace Go.Proofs.Ytjbdmibbbpdnnaa
open Go.RowKit
def Uy (T:Cz):Nat->Nat
 |0=>1
 |j+1=>Uy T j*(Hu (T.getD j [])).length
noncomputable abbrev dC:Spec:=Di (.pair (.ptr tq) (.pair tI .unit)) tI false true (λx=>x.2.1=0/\ ∃N:Nat,(1<=N/\N<=20)/\x.1.1=N/\V N N 0 (x.1.2.1,x.1.2.2.1)) (λx=>(Uy x.1.2.2.1 x.1.1.toNat:Int))
noncomputable abbrev vg:MSpec:= {Gy:= [none,none],ins:= [(false, .Fc tI),(false, .Fc iB)],Fv:=false,Fz:= [none,none,none],outs:= [.Fc tI, .Ak tO SA false, .Ak tO SA false],fn:= λ_=>none,rp:=some 179}
def Tc (n:Int) (g:List (List Int)):Cz×Cz:=Nd n.toNat (g.map some)
noncomputable abbrev Qw:MSpec:=xg vg (λx=>(1<=x.1/\x.1<=20)/\List.length x.2.1<=4294967296/\ ∀g∈(x.2.1:List (List Int)),Pm x.1.toNat g)
 (λx=>((x.1,(Tc x.1 x.2.1).1,(Tc x.1 x.2.1).2,()),()))
noncomputable def Ow (p:PP):Int:=if Bd p=true then (Uy (Tc p.1 p.2.2.1).2 p.1.toNat:Int) else 0
noncomputable abbrev Lx:Spec:=Di (.pair Dn .unit) tI false true (λx=>Dt x.1) (λx=>Ow x.1)
theorem PU (c:Int×List (List (Option (List Int)))×List (List (Option (List Int)))×Unit) (l:Int) (P:Int->Prop):(Bt (λ(v3:Int×Int×PUnit) (k4:Int×Int×PUnit->Prop)=>Br (decide (v3.2.1<c.1)) (∃(y5:List (Option (List Int))),idx c.2.2.1 v3.2.1=some y5/\ ∃(y6:(List Int×PUnit)×PUnit),Ko.fn (y5,())=some y6/\ ∃(y7:Int),Mk.fn (List.take y6.1.1.length (List.drop 0 y6.1.1),())=some y7/\k4 (IntKind.i64.wrap (v3.1*y7),IntKind.i64.wrap (v3.2.1+(1:Int)),())) (P v3.1)) ((1:Int),l,PUnit.unit))=fnW Tn (look [(174,Ko),(82,Mk)]) dC Try.f155 (c,l,()) P:=by kernel_rfl
theorem tP (p:Int×ByteArray×List (List Int)×Unit) (P:Int->Prop):(∃(y2:Bool),Fm.fn ((p.1,p.2.1,p.2.2.1,()),())=some y2/\Br (!y2) (P (0:Int)) (∃(y3:(Int×List (List (Option (List Int)))×List (List (Option (List Int)))×PUnit)×PUnit),Qw.fn (p.1,p.2.2.1,())=some y3/\ ∃(y4:Int),dC.fn ((y3.1.1,List.take y3.1.2.1.length (List.drop 0 y3.1.2.1),List.take y3.1.2.2.1.length (List.drop 0 y3.1.2.2.1),()),(0:Int),())=some y4/\P y4))=fnW Cy (look [(130,Fm),(154,Qw),(155,dC)]) Lx Try.f126 (p,()) P:=by kernel_rfl
theorem PJ (n i:Nat):(upto n).countP (λy=>decide ((i:Int)<=y))=n-i:=by
 induction n with
 |zero=>simp [upto]
 |succ n ih=>
  rw [Yw,List.countP_append,ih]
  simp only [List.countP_cons,List.countP_nil,decide_eq_true_eq]
  split<;>omega
theorem OI {n i:Nat} {gs:List PO} {row:Row} {H:List Int->Prop} (hi:i<n) (h:MF n i gs row H):(Hu row).length<=n-i:=by
 rw [<-PJ n i]
 unfold Hu
 rw [h.rl,<-List.countP_eq_length_filter]
 refine List.countP_mono_left λy hy hs=>?_
 obtain ⟨h1,h2⟩:=Ih.1 hy
 obtain ⟨t,ht⟩:=Option.isSome_iff_exists.1 hs
 obtain ⟨t1,t2,t3,_⟩:=h.rt _ _ ht
 refine decide_eq_true ?_
 refine Classical.byContradiction λhn=>?_
 have hy':y.toNat<i:=by omega
 have:=t1.inj hi (by omega:y.toNat<n) (by rw [t3,t2 _ hy'])
 omega
def fact:Nat->Nat
 |0=>1
 |n+1=>(n+1)*fact n
theorem uJ: ∀n,1<=fact n
 |0=>Nat.le_refl _
 |n+1=>by have:=uJ n;simp only [fact];exact Nat.le_trans this (Nat.le_mul_of_pos_left _ (by omega))
theorem BR {a b:Nat} (h:a<=b):fact a<=fact b:=by
 induction h with
 |refl=>exact Nat.le_refl _
 |step _ ih=>simp only [fact];exact Nat.le_trans ih (Nat.le_mul_of_pos_left _ (by omega))
theorem JF {n:Nat} {s:Cz×Cz} (hc:eN n n 0 s): ∀j,j<=n->Uy s.2 j*fact (n-j)<=fact n
 |0,_=>by simp [Uy]
 |j+1,hj=>by
  have ih:=JF hc j (by omega)
  have h1:=OI (by omega) (fZ n 0 hc j (by omega) (by omega))
  have e:n-j=(n-(j+1))+1:=by omega
  simp only [Uy]
  rw [e] at ih h1
  simp only [fact] at ih
  rw [Nat.mul_assoc]
  exact Nat.le_trans (Nat.mul_le_mul_left _ (Nat.mul_le_mul_right _ h1)) ih
theorem DA {n:Nat} (h2:n<=20) {s:Cz×Cz} (hc:eN n n 0 s) {j:Nat} (hj:j<=n):Uy s.2 j<=2432902008176640000:=by
 have h1:=JF hc j hj
 have h3:=uJ (n-j)
 have h4:fact n<=2432902008176640000:=Nat.le_trans (BR h2) (by decide)
 have h5:Uy s.2 j*1<=Uy s.2 j*fact (n-j):=Nat.mul_le_mul_left _ h3
 omega
theorem OQ (c:Int×List (List (Option (List Int)))×List (List (Option (List Int)))×Unit) (l:Int) (h:l=0/\ ∃N:Nat,(1<=N/\N<=20)/\c.1=N/\V N N 0 (c.2.1,c.2.2.1)):
  fnW Tn (look [(174,Ko),(82,Mk)]) dC Try.f155 (c,l,()) (λ(z:Int)=>z=(Uy c.2.2.1 c.1.toNat:Int)):=by
 obtain ⟨rfl,N,⟨h1,h2⟩,hN,v⟩:=h
 obtain ⟨n,G,T,⟨⟩⟩:=c
 dsimp only at hN v⊢
 subst hN
 refine Eq.mp (PU ((N:Int),G,T,()) 0 _) ?_
 obtain ⟨v1,v2,v3,v4⟩:=v
 dsimp only at v1 v2⊢
 rw [Int.toNat_natCast]
 refine As N (λv=>v.2.1) (λj v=>v.1=(Uy T j:Int)) rfl rfl ?_
 rintro j ⟨o,i,⟨⟩⟩ K hj hi ho hK
 dsimp only at hi ho⊢
 subst hi ho
 refine Br.dec (λhl=>?_) λhl=>?_
 ·have hl:j<N:=by omega
  have hT:j<T.length:=by omega
  have Qh:=fZ N 0 v3 j (by omega) (by omega)
  have ZP:=Qh.rl
  dsimp only at ZP
  rw [uQ hT] at ZP
  refine ⟨_,Av hT,_,if_pos (by show (T[j]).length<=20;omega),_,if_pos trivial,?_⟩
  rw [List.drop_zero,List.take_length,Ar (by omega)]
  have hb:=DA h2 v3 (j:=j+1) (by omega)
  simp only [Uy] at hb
  rw [uQ hT] at hb
  have e:(Uy T j:Int)*((Hu T[j]).length:Int)=((Uy T j*(Hu T[j]).length:Nat):Int):=by push_cast;rfl
  show K (IntKind.i64.wrap ((Uy T j:Int)*((Hu T[j]).length:Int)),_,())
  rw [e,Bw (by omega) (by omega)]
  refine hK hl _ rfl ?_
  simp only [Uy]
  rw [uQ hT]
 ·have:j=N:=by omega
  subst this
  rfl
theorem wE:Sound Try.prog 155 dC:=
 Sound.Di jK (Hg eu (Ah aw Ao)) mixed Try.func155 (by kernel_rfl) (by kernel_rfl) λx h=>OQ x.1 x.2.1 h
theorem Cells.told {w:World} {S:Nat->Prop} {e:Ty} {cs:List Value} {xs:List e.den} (h:Cells w S (.slice e) cs xs): ∃o:Option (List e.den),Cells w S (.oslice e) cs o/\o.getD []=xs:=by
 simp only [Cells] at h
 obtain ⟨a,len,cap,rfl,h1,h2,h3⟩:=h
 cases a with
 |none=>
  rcases h3 with rfl|⟨g,o,h,_⟩
  ·refine ⟨none,?_,rfl⟩
   simp only [Cells]
   exact .inl ⟨trivial,cap,by rw [h1];rfl⟩
  ·cases h
 |some ad=>
  refine ⟨some xs,?_,rfl⟩
  simp only [Cells]
  exact .inr ⟨xs,ad,len,cap,rfl,rfl,h1,h2,h3.imp id λ⟨g,o,h,h4⟩=>⟨g,o,Option.some.inj h,h4⟩⟩
theorem xo {α β:Type} (Q:Nat->α->β->Prop): ∀(xs:List α),(∀i x,xs[i]?=some x-> ∃y,Q i x y)-> ∃ys:List β,ys.length=xs.length/\ ∀i x y,xs[i]?=some x->ys[i]?=some y->Q i x y:=by
 intro xs h
 refine ⟨List.ofFn λi:Fin xs.length=>Classical.choose (h i xs[i] (List.getElem?_eq_getElem i.2)),by simp,λi x y h1 h2=>?_⟩
 obtain ⟨hi,rfl⟩:=List.getElem?_eq_some_iff.1 h1
 obtain ⟨fk,rfl⟩:=List.getElem?_eq_some_iff.1 h2
 rw [List.getElem_ofFn]
 exact Classical.choose_spec (h i xs[i] (List.getElem?_eq_getElem hi))
theorem Bb.Ab8 {w:World} {S:Nat->Prop} {e:Ty} {v:Value} {xs:List (List e.den)} (h:Bb w S (.slice (.slice e)) v xs): ∃os:List (Option (List e.den)),Bb w S (.slice (.oslice e)) v os/\os.map (·.getD [])=xs:=by
 obtain ⟨cs,hc,rfl⟩:=h
 simp only [Cells] at hc
 obtain ⟨a,len,cap,rfl,h1,h2,h3⟩:=hc
 rcases h3 with rfl|⟨g,o,rfl,hg,hS,h4⟩
 ·refine ⟨[],⟨_,?_,rfl⟩,rfl⟩
  simp only [Cells]
  exact ⟨a,len,cap,rfl,h1,h2, .inl trivial⟩
 ·obtain ⟨os,e1,e2⟩:=xo (λi (x:List e.den) (y:Option (List e.den))=>y.getD []=x/\ ∃es:List Value,es.length=1/\(∀j u,es[j]?=some u->w.cell? ⟨g,o+i*1+j,none⟩=some u)/\Cells w S (.oslice e) es y) xs λi x hx=>by
   obtain ⟨es,k1,k2,k3⟩:=h4 i x hx
   obtain ⟨y,k4,k5⟩:=Cells.told (e:=e) (by simp only [Cells];exact k3)
   exact ⟨y,k5,es,k1,k2,k4⟩
  refine ⟨os,⟨_,?_,rfl⟩,?_⟩
  ·simp only [Cells]
   refine ⟨_,len,cap,rfl,by rw [h1,e1],h2, .inr ⟨g,o,rfl,hg,hS,λi y hy=>?_⟩⟩
   obtain ⟨hi,_⟩:=List.getElem?_eq_some_iff.1 hy
   obtain ⟨_,es,k1,k2,k3⟩:=e2 i _ y (List.getElem?_eq_getElem (by omega)) hy
   simp only [Cells] at k3
   exact ⟨es,k1,k2,k3⟩
  ·refine List.ext_getElem (by simp [e1]) λi g1 g2=>?_
   rw [List.getElem_map]
   exact (e2 i _ _ (List.getElem?_eq_getElem g2) (List.getElem?_eq_getElem (by omega))).1
theorem nF:Cd Try.prog 154 Qw:=by
 have h:=l9
 refine ⟨h.enter,λw S π us x r o g vs h1 hg h2 h3 hS h4 h5=>?_⟩
 obtain ⟨n,gens,⟨⟩⟩:=x
 match us,h2 with
 |u1::u2::us,h2=>
  obtain ⟨h6,⟨h7,h8⟩,h9⟩:=h2
  obtain ⟨os,jY,dX⟩:=Bb.Ab8 (e:=tI) h8
  have dX:os.map (·.getD [])=(gens:List (List Int)):=dX
  have rQ:(1<=n/\n<=20)/\List.length gens<=4294967296/\ ∀g∈(gens:List (List Int)),Pm n.toNat g:=Classical.byContradiction λhn=>by
   have:Qw.fn (n,gens,())=none:=if_neg hn
   rw [this] at h5;cases h5
  have hos:os=gens.map some:=by
   rw [<-dX,List.map_map]
   refine (List.map_id os).symm.trans (List.map_congr_left λx hx=>?_)
   cases x with
   |some y=>rfl
   |none=>
    have:=rQ.2.2 [] (by rw [<-dX];exact List.mem_map.2 ⟨none,hx,rfl⟩)
    have h1:=this.n1
    have h2:=this.1
    simp at h2
    omega
  have hv:Qw.fn (n,gens,())=some ((n,(Tc n gens).1,(Tc n gens).2,()),()):=if_pos rQ
  rw [hv] at h5
  have h5:=Option.some.inj h5
  refine h.calls w S π (u1::u2::us) (n,os,()) r o g vs h1 hg ⟨h6,⟨h7,jY⟩,h9⟩ h3 hS h4 ?_
  refine (if_pos ⟨rQ.1,by rw [hos,List.length_map];exact rQ.2.1,λy hy=>?pp⟩).trans (congrArg some ?qq)
  case pp=>
   replace hy:y∈os:=hy
   rw [hos] at hy
   obtain ⟨g,hg,rfl⟩:=List.mem_map.1 hy
   exact ⟨g,rfl,rQ.2.2 g hg⟩
  case qq=>subst hos;exact h5
theorem fY {p:PP} (hv:Valid p):(1<=p.1/\p.1<=20)/\List.length p.2.2.1<=4294967296/\ ∀g∈p.2.2.1,Pm p.1.toNat g:=
 ⟨hv.n,by have:=hv.o3;omega,λg hg=>⟨by have:=hv.len g hg;omega,fD (hv.perm g hg)⟩⟩
theorem nf {n:Nat} {g:List (List Int)} (h: ∀x∈g,Pm n x):PmL n (g.map some):= λo ho=>by
 obtain ⟨x,hx,rfl⟩:=List.mem_map.1 ho
 exact ⟨x,rfl,h x hx⟩
theorem rj {p:PP} (hv:Valid p):V p.1.toNat p.1.toNat 0 (Tc p.1 p.2.2.1):=by
 have:=hv.n
 exact tZ (by omega) (by omega) (nf (fY hv).2.2)
theorem sA (p:PP) (h:Dt p):fnW Cy (look [(130,Fm),(154,Qw),(155,dC)]) Lx Try.f126 (p,()) (λ(z:Int)=>z=Ow p):=by
 refine Eq.mp (tP p _) ⟨_,if_pos h,?_⟩
 show Br (!Bd p) _ _
 unfold Ow
 cases hv:Bd p with
 |false=>exact Br.of (λ_=>rfl) λhh=>by cases hh
 |true=>
  refine Br.of (λhh=>by cases hh) λ_=>?_
  have hV:=valid hv
  have hn:=hV.n
  refine ⟨_,if_pos (fY hV),_,if_pos ⟨rfl,p.1.toNat,⟨by omega,by omega⟩,(Int.toNat_of_nonneg (by omega:(0:Int)<=p.1)).symm,?vv⟩,?_⟩
  case vv=>
   simp only [List.drop_zero,List.take_length]
   exact rj hV
  simp only [List.drop_zero,List.take_length]
  exact (if_pos trivial).symm
theorem jH:Sound Try.prog 126 Lx:=
 Sound.Di Bx (Ah jD (Hg nF (Ah wE Ao))) mixed Try.func126 (by kernel_rfl) (by kernel_rfl) λx h=>sA x.1 h
end Go.Proofs.Ytjbdmibbbpdnnaa

namespace Go.Proofs.Ytjbdmibbbpdnnaa
open Go.RowKit
theorem cr {α:Type} [DecidableEq α]: ∀ {l1 l2:List α},l1.Nodup->(∀x∈l1,x∈l2)->l1.length<=l2.length
 | [],_,_,_=>Nat.zero_le _
 |a::l,l2,hn,hs=>by
  obtain ⟨h1,h2⟩:=List.nodup_cons.1 hn
  have ha:=hs a (by simp)
  have:=cr (l1:=l) (l2:=l2.erase a) h2 λy hy=>by
   have hya:y≠a:= λe'=>h1 (by rw [<-e'];exact hy)
   exact (List.mem_erase_of_ne hya).2 (hs y (by simp [hy]))
  rw [List.length_erase_of_mem ha] at this
  have:=List.length_pos_of_mem ha
  simp only [List.length_cons]
  omega
def jd (n:Nat) (T:Cz):Nat->Nat->List (List Int)
 |0,_=> [upto n]
 |k+1,l=>(Hu (T.getD l [])).flatMap λy=>(jd n T k (l+1)).map λq=>Aa q (((T.getD l []).getD y.toNat none).getD [])
def qo (T:Cz):Nat->Nat->Nat
 |0,_=>1
 |k+1,l=>(Hu (T.getD l [])).length*qo T k (l+1)
theorem vK (n:Nat) (T:Cz): ∀k l,(jd n T k l).length=qo T k l
 |0,_=>rfl
 |k+1,l=>by
  simp only [jd,qo,List.length_flatMap,List.length_map,vK n T k (l+1)]
  generalize Hu (T.getD l [])=o
  induction o with
  |nil=>simp
  |cons a o ih=>simp only [List.map_cons,List.sum_cons,ih,List.length_cons,Nat.succ_mul];omega
theorem qf (T:Cz): ∀k j,Uy T (j+k)=Uy T j*qo T k j
 |0,j=>by simp [qo]
 |k+1,j=>by
  have:=qf T k (j+1)
  rw [show j+(k+1)=j+1+k by omega,this]
  simp only [Uy,qo]
  rw [Nat.mul_assoc]
theorem vY (n:Nat) (T:Cz):(jd n T n 0).length=Uy T n:=by
 rw [vK,show Uy T n=Uy T (0+n) by rw [Nat.zero_add],qf]
 simp [Uy]
theorem mL {n:Nat} (h1:1<=n) (h2:n<=20) {s:Cz×Cz} : ∀(k l:Nat),l+k=n->eN n k l s-> ∀p,p∈jd n s.2 k l↔Pm n p/\Fx l p/\Iu s.2 k l p=true
 |0,l,hk,hc,p=>by
  have hl:l=n:=by omega
  subst hl
  simp only [jd,List.mem_singleton]
  exact ⟨λe=>by subst e;exact ⟨Pm.id h1 h2,λi hi=>dO hi,rfl⟩,λh=>h.2.1.all h.1⟩
 |k+1,l,hk,hc,p=>by
  obtain ⟨c1,c2,c3⟩:=hc
  have ih:=mL h1 h2 k (l+1) (by omega) c1
  have aO:l<n:=by omega
  simp only [jd,List.mem_flatMap,List.mem_map]
  constructor
  ·rintro ⟨y,hy,q,hq,rfl⟩
   obtain ⟨yn,rfl,RQ⟩:=Mz.1 hy
   obtain ⟨t,ht⟩:=Option.ne_none_iff_exists'.1 RQ
   obtain ⟨t1,t2,t3,t4⟩:=c2.rt _ _ ht
   obtain ⟨q1,q2,q3⟩:=(ih q).1 hq
   rw [Int.toNat_natCast,ht,Option.getD_some]
   have hap:ap (Aa q t) l=yn:=by rw [Fk q1 t1 aO,q2 l (by omega),t3]
   refine ⟨q1.comp t1,λi hi=>by rw [Fk q1 t1 (by omega),q2 i (by omega),t2 i hi],?_⟩
   simp only [Iu]
   rw [show (Ca (Aa q t) (l:Int)).toNat=ap (Aa q t) l from rfl,hap,ht]
   show Iu s.2 k (l+1) (Aa (Aa q t) (Al t))=true
   rw [Dz q1 t1 t1.inv,bH t1,comp_id q1]
   exact q3
  ·rintro ⟨p1,p2,p3⟩
   simp only [Iu] at p3
   rw [show (Ca p (l:Int)).toNat=ap p l from rfl] at p3
   split at p3
   ·cases p3
   ·rename_i t ht
    obtain ⟨t1,t2,t3,t4⟩:=c2.rt _ _ ht
    refine ⟨(ap p l:Int),Mz.2 ⟨ap p l,rfl,by rw [ht];simp⟩,Aa p (Al t),(ih _).2 ⟨p1.comp t1.inv,Fx.div p1 t1 p2 t2 aO t3,p3⟩,?_⟩
    rw [Int.toNat_natCast,ht,Option.getD_some,Dz p1 t1.inv t1,Ut t1,comp_id p1]
theorem mM {n:Nat} (h1:1<=n) (h2:n<=20) {s:Cz×Cz} : ∀(k l:Nat),l+k=n->eN n k l s->(jd n s.2 k l).Nodup
 |0,l,hk,hc=>by simp [jd]
 |k+1,l,hk,hc=>by
  obtain ⟨c1,c2,c3⟩:=hc
  have ih:=mM h1 h2 k (l+1) (by omega) c1
  have hm:=mL h1 h2 k (l+1) (by omega) c1
  have aO:l<n:=by omega
  have rep: ∀y∈Hu (s.2.getD l []),∃(yn:Nat) (t:List Int),y=yn/\((s.2.getD l []).getD y.toNat none).getD []=t/\Pm n t/\ap t l=yn:= λy hy=>by
   obtain ⟨yn,rfl,RQ⟩:=Mz.1 hy
   obtain ⟨t,ht⟩:=Option.ne_none_iff_exists'.1 RQ
   obtain ⟨t1,t2,t3,t4⟩:=c2.rt _ _ ht
   exact ⟨yn,t,rfl,by rw [Int.toNat_natCast,ht];rfl,t1,t3⟩
  simp only [jd]
  refine List.pairwise_flatMap.2 ⟨λy hy=>?_,?_⟩
  ·obtain ⟨yn,t,rfl,e,t1,t3⟩:=rep y hy
   rw [e]
   refine List.pairwise_map.2 (List.Pairwise.imp_of_mem ?_ ih)
   intro a b ha hb Ek he
   have ha:=((hm a).1 ha).1
   have hb:=((hm b).1 hb).1
   have h3:=congrArg (λz=>Aa z (Al t)) he
   simp only [Dz ha t1 t1.inv,Dz hb t1 t1.inv,bH t1,comp_id ha,comp_id hb] at h3
   exact Ek h3
  ·refine List.Pairwise.imp_of_mem ?_ ((nW _).filter _)
   intro y z hy hz Ek a ha b hb he
   obtain ⟨yn,t,rfl,e,t1,t3⟩:=rep y hy
   obtain ⟨zn,u,rfl,e',u1,u3⟩:=rep z hz
   rw [e] at ha
   rw [e'] at hb
   obtain ⟨q,hq,rfl⟩:=List.mem_map.1 ha
   obtain ⟨q',eb,rfl⟩:=List.mem_map.1 hb
   obtain ⟨a1,a2,_⟩:=(hm q).1 hq
   obtain ⟨b1,b2,_⟩:=(hm q').1 eb
   have h3:=congrArg (λz=>ap z l) he
   simp only [Fk a1 t1 aO,Fk b1 u1 aO,a2 l (by omega),b2 l (by omega),t3,u3] at h3
   exact Ek (by rw [h3])
theorem iI {g:List (List Int)} (Q:List Int->Prop) {x:List Int} {d:Int} : ∀(ls:List Int) (L:List (List Int)) (D:List Int),(∀l∈ls,Q (Aa x (Af g l)))->(∀y∈L,Q y)->
  (∀y∈(Ep g x d ls L D).1,Q y)/\(∀y∈L,y∈(Ep g x d ls L D).1)/\((Ep g x d ls L D).2.2=true-> ∀l∈ls,Aa x (Af g l)∈(Ep g x d ls L D).1)/\
   ((Ep g x d ls L D).2.2=false->(Ep g x d ls L D).1.length=3000/\ ∃z,Q z/\z∉(Ep g x d ls L D).1)
 | [],L,D,_,h=>⟨h,λ_ h=>h,(λ_ l hl=>by cases hl),(λe=>by cases e)⟩
 |l::ls,L,D,hq,h=>by
  have eb: ∀l∈ls,Q (Aa x (Af g l)):= λl' h'=>hq l' (List.mem_cons_of_mem _ h')
  simp only [Ep]
  split
  ·rename_i hm
   obtain ⟨a1,a2,a3,a4⟩:=iI Q (d:=d) ls L D eb h
   refine ⟨a1,a2,λe l' Ha=>?_,a4⟩
   rcases List.mem_cons.1 Ha with rfl|Ha
   ·exact a2 _ hm
   ·exact a3 e l' Ha
  ·rename_i hn
   split
   ·rename_i hf
    exact ⟨h,λ_ h=>h,(λe=>by cases e),λ_=>⟨hf,_,hq l (by simp),hn⟩⟩
   ·obtain ⟨a1,a2,a3,a4⟩:=iI Q (d:=d) ls (L++ [Aa x (Af g l)]) (D++ [d+1]) eb λy hy=>by
     rcases List.mem_append.1 hy with hy|hy
     ·exact h y hy
     ·rw [List.mem_singleton.1 hy];exact hq l (by simp)
    refine ⟨a1,λy hy=>a2 y (List.mem_append_left _ hy),λe l' Ha=>?_,a4⟩
    rcases List.mem_cons.1 Ha with rfl|Ha
    ·exact a2 _ (List.mem_append_right _ (by simp))
    ·exact a3 e l' Ha
theorem pz {p:PP} (hV:Valid p) {m:Nat} {ls:List Int} (hl: ∀l∈ls,Gt (List.length p.2.2.1) l) (Q:List Int->Prop) (hQ: ∀x,Q x-> ∀l∈ls,Q (Aa x (Af p.2.2.1 l))):
  ∀(f k:Nat) (L:List (List Int)) (D:List Int),3001<=f+k->k<=L.length->Ok p m L D->(∀y∈L,Q y)->(∀(j:Nat) (h:j<L.length),j<k-> ∀l∈ls,Aa L[j] (Af p.2.2.1 l)∈L)->
  (∀y∈(Gi p.2.2.1 ls f k L D).1,Q y)/\((Gi p.2.2.1 ls f k L D).2.2=true-> ∀x∈(Gi p.2.2.1 ls f k L D).1,∀l∈ls,Aa x (Af p.2.2.1 l)∈(Gi p.2.2.1 ls f k L D).1)/\
   ((Gi p.2.2.1 ls f k L D).2.2=false->(Gi p.2.2.1 ls f k L D).1.length=3000/\ ∃z,Q z/\z∉(Gi p.2.2.1 ls f k L D).1)
 |0,k,L,D,hf,QY,hb,hq,hc=>by
  have:=hb.ok.o3
  omega
 |f+1,k,L,D,hf,QY,hb,hq,hc=>by
  simp only [Gi]
  split
  ·rename_i hk
   have BX:k<D.length:=by rw [hb.len];exact hk
   have hd:=hb.dep k BX
   have e:D.getD k 0=D[k]:=by rw [List.getD_eq_getElem?_getD,List.getElem?_eq_getElem BX];rfl
   rw [Oo hk,e]
   obtain ⟨k1,⟨A,k2⟩,_⟩:=fW hV (hb.row _ (List.getElem_mem hk)) (hb.ok.len _ (List.getElem_mem hk)) (d:=D[k]) ls L D hl hb ⟨by omega,by omega⟩
   obtain ⟨a1,a2,a3,a4⟩:=iI (g:=p.2.2.1) Q (x:=L[k]) (d:=D[k]) ls L D (hQ _ (hq _ (List.getElem_mem hk))) hq
   split
   ·rename_i L' D' he
    rw [he] at k1 k2 a1 a2 a3 a4
    have k2:L'=L++A:=k2
    refine pz hV hl Q hQ f (k+1) L' D' (by omega) (by rw [k2,List.length_append];omega) k1 a1 λj hj hjk l Ha=>?_
    by_cases e':j<k
    ·have e2:L'[j]=L[j]:=by simp only [k2];rw [List.getElem_append_left (by omega)]
     rw [e2];exact a2 _ (hc j (by omega) e' l Ha)
    ·have:j=k:=by omega
     subst this
     have e2:L'[j]=L[j]:=by simp only [k2];rw [List.getElem_append_left (by omega)]
     rw [e2];exact a3 rfl l Ha
   ·rename_i L' D' he
    rw [he] at a1 a4
    exact ⟨a1,(λe=>by cases e),λ_=>a4 rfl⟩
  ·rename_i hk
   refine ⟨hq,λ_ x hx l Ha=>?_,λe=>by cases e⟩
   obtain ⟨j,hj,rfl⟩:=List.mem_iff_getElem.1 hx
   have hj:j<L.length:=hj
   exact hc j hj (by omega) l Ha
theorem zE {p:PP} (hv:Bd p=true) {s:List Int} (hs:s.length<=20) (hr: ∀y∈s,0<=y/\y<p.1) (Q:List Int->Prop) (hQs:Q s) (hQ: ∀x,Q x-> ∀l∈Ag p.2.2.1.length,Q (Aa x (Af p.2.2.1 l))):
  (∀y∈(Dl p.2.2.1 s).1,Q y)/\((Dl p.2.2.1 s).2.2=true-> ∀x∈(Dl p.2.2.1 s).1,∀l∈Ag p.2.2.1.length,Aa x (Af p.2.2.1 l)∈(Dl p.2.2.1 s).1)/\
   ((Dl p.2.2.1 s).2.2=false->(Dl p.2.2.1 s).1.length=3000/\ ∃z,Q z/\z∉(Dl p.2.2.1 s).1):=
 pz (valid hv) (λ_ hl=>Jq hl) Q hQ 3001 0 [s] [0] (by omega) (Nat.zero_le _) (df hs hr) (λy hy=>by rw [List.mem_singleton.1 hy];exact hQs) λj _ hj=>absurd hj (Nat.not_lt_zero _)
theorem hZ {g:List (List Int)} {x:List Int} :some x∈g.map some↔x∈g:=by simp
theorem yi {n:Nat} {g:List (List Int)} {x:List Int} (h:Gn n (g.map some) x) {l:Int} (hl:l∈Ag g.length):Gn n (g.map some) (Aa x (Af g l)):=by
 obtain ⟨k,hk,rfl|rfl⟩:=Ov (Jq hl)
 ·rw [Nh hk];exact .mul h (hZ.2 (List.getElem_mem hk))
 ·rw [Ng hk];exact .inv h (hZ.2 (List.getElem_mem hk))
theorem Wa {n k:Nat} (hk:k<n):(k:Int)+1∈Ag n/\ -((k:Int)+1)∈Ag n:=by
 unfold Ag
 exact ⟨List.mem_flatMap.2 ⟨k,List.mem_range.2 hk,by simp⟩,List.mem_flatMap.2 ⟨k,List.mem_range.2 hk,by simp⟩⟩
theorem xM {n:Nat} {g:List (List Int)} {L:List (List Int)} (h0:upto n∈L) (hc: ∀x∈L,∀l∈Ag g.length,Aa x (Af g l)∈L) {p:List Int} (hp:Gn n (g.map some) p):p∈L:=by
 induction hp with
 |id=>exact h0
 |mul _ hg ih=>
  obtain ⟨k,hk,rfl⟩:=List.mem_iff_getElem.1 (hZ.1 hg)
  have:=hc _ ih _ (Wa hk).1
  rwa [Nh hk] at this
 |inv _ hg ih=>
  obtain ⟨k,hk,rfl⟩:=List.mem_iff_getElem.1 (hZ.1 hg)
  have:=hc _ ih _ (Wa hk).2
  rwa [Ng hk] at this
structure Reach (p:PP) (L:List (List Int)) (D:List Int) (whole:Bool):Prop where
 ok:Ok p p.1.toNat L D
 nodup:L.Nodup
 first: ∃A,L=upto p.1.toNat::A
 gen: ∀x∈L,Gn p.1.toNat (p.2.2.1.map some) x
 all:whole=true-> ∀x,Gn p.1.toNat (p.2.2.1.map some) x->x∈L
 big:whole=false->L.length=3000/\ ∃z,Gn p.1.toNat (p.2.2.1.map some) z/\z∉L
theorem Ct.nodup {m:Nat} {L:List (List Int)} {Hs:List Int} (h:Ct m L Hs):L.Nodup:=
 List.pairwise_iff_getElem.2 λi j hi hj iZ e=>by have:=h.inj hi hj e;omega
theorem Ym {p:PP} (hv:Bd p=true):Reach p (Dl p.2.2.1 (upto p.1.toNat)).1 (Dl p.2.2.1 (upto p.1.toNat)).2.1 (Dl p.2.2.1 (upto p.1.toNat)).2.2:=by
 have hV:=valid hv
 have hn:=hV.n
 have hl:(upto p.1.toNat).length=p.1.toNat:=Pn _
 have hr: ∀y∈upto p.1.toNat,0<=y/\y<p.1:= λy hy=>by have:=Ih.1 hy;omega
 obtain ⟨b1,b2⟩:=r9 hv (by omega) hr
 rw [hl] at b1
 obtain ⟨a1,a2,a3⟩:=zE hv (by omega) hr (λx=>Gn p.1.toNat (p.2.2.1.map some) x) .id λx hx l hl=>yi hx hl
 exact ⟨b1,b1.ok.nodup,b2,a1,λhw x hx=>xM (by obtain ⟨A,e⟩:=b2;rw [e];simp) (a2 hw) hx,a3⟩
theorem Wc {p:PP} (hV:Valid p) {x:List Int} :x∈jd p.1.toNat (Tc p.1 p.2.2.1).2 p.1.toNat 0↔Gn p.1.toNat (p.2.2.1.map some) x:=by
 have hn:=hV.n
 have hg:=nf (fY hV).2.2
 have hS:zz p.1.toNat λg=>some g∈p.2.2.1.map some:=⟨⟨by omega,by omega⟩,λg Yz=>by obtain ⟨g',e,h⟩:=hg _ Yz;cases e;exact h⟩
 refine (mL (by omega) (by omega) _ 0 (by omega) (rj hV).2.2.1 x).trans ⟨λh=>(mj (by omega) (by omega) hg h.1).1 h.2.2,λh=>?_⟩
 have hp:=Xj.pm hS h
 exact ⟨hp,λi hi=>absurd hi (Nat.not_lt_zero _),(mj (by omega) (by omega) hg hp).2 h⟩
theorem oF {p:PP} (hV:Valid p):(jd p.1.toNat (Tc p.1 p.2.2.1).2 p.1.toNat 0).Nodup:=by
 have hn:=hV.n
 exact mM (by omega) (by omega) _ 0 (by omega) (rj hV).2.2.1
theorem count_eq {p:PP} (hv:Bd p=true):Ow p=((jd p.1.toNat (Tc p.1 p.2.2.1).2 p.1.toNat 0).length:Int):=by
 unfold Ow
 rw [if_pos hv,vY]
theorem uv {p:PP} (hv:Bd p=true):(Dl p.2.2.1 (upto p.1.toNat)).2.2=decide (1<=Ow p/\Ow p<=3000):=by
 have hV:=valid hv
 have h:=Ym hv
 rw [count_eq hv]
 have ow:=oF hV
 have h1:=cr h.nodup λx hx=>(Wc hV).2 (h.gen x hx)
 obtain ⟨A,hA⟩:=h.first
 have mA:1<=(Dl p.2.2.1 (upto p.1.toNat)).1.length:=by rw [hA];simp
 cases hw:(Dl p.2.2.1 (upto p.1.toNat)).2.2 with
 |true=>
  have h2:=cr ow λx hx=>h.all hw x ((Wc hV).1 hx)
  have h3:=h.ok.ok.o3
  exact (decide_eq_true ⟨by omega,by omega⟩).symm
 |false=>
  obtain ⟨h2,z,h3,h4⟩:=h.big hw
  have h5:=cr (l1:=z::(Dl p.2.2.1 (upto p.1.toNat)).1) (List.nodup_cons.2 ⟨h4,h.nodup⟩) λx hx=>by
   rcases List.mem_cons.1 hx with rfl|hx
   ·exact (Wc hV).2 h3
   ·exact (Wc hV).2 (h.gen x hx)
  simp only [List.length_cons] at h5
  exact (decide_eq_false (by omega)).symm
end Go.Proofs.Ytjbdmibbbpdnnaa

namespace Go.Proofs.Ytjbdmibbbpdnnaa
open Go.RowKit
def si (g:List (List Int)) (s:List Int):List (List Int):=(Ag g.length).map λl=>Aa s (Af g l)
noncomputable abbrev dB:Spec:=Di (.pair Dn (.pair tL .unit)) iB false true (λx=>Bd x.1=true/\List.length x.2.1<=20/\ ∀y∈x.2.1,0<=y/\y<x.1.1) (λx=>si x.1.2.2.1 x.2.1)
abbrev EX:Type:=List (List Int)×List Int×List Int×List Int
def Vk (g:List (List Int)) (k:Int) (x:List Int) (d:Int):List Int->EX->List Int->EX×List Int
 | [],s,row=>(s,row)
 |l::ls,s,row=>if Aa x (Af g l)∈s.1 then Vk g k x d ls s (row++ [(s.1.idxOf (Aa x (Af g l)):Int)])
  else Vk g k x d ls (s.1++ [Aa x (Af g l)],s.2.1++ [d+1],s.2.2.1++ [k],s.2.2.2++ [l]) (row++ [(s.1.length:Int)])
def Wt (g:List (List Int)) (ls:List Int):Nat->Nat->EX->List (List Int)->EX×List (List Int)
 |0,_,s,N=>(s,N)
 |f+1,k,s,N=>if k<s.1.length then Wt g ls f (k+1) (Vk g (k:Int) (s.1.getD k []) (s.2.1.getD k 0) ls s []).1 (N++ [(Vk g (k:Int) (s.1.getD k []) (s.2.1.getD k 0) ls s []).2]) else (s,N)
def cc (key:ByteArray):List (List Int)->Nat->Option Int
 | [],_=>none
 |x::r,i=>if Mc x=key then some (i:Int) else cc key r (i+1)
def Rj (L:List (List Int)):ByteArray->Option Int:= λkey=>cc key L 0
def XQ (p:PP) (r:EX×List (List Int)):Wi.den:=(p,r.1.1,r.1.2.1,Rj r.1.1,r.1.2.2.1,r.1.2.2.2,r.2,())
def Ji (p:PP):Wi.den:=XQ p (Wt p.2.2.1 (Ag p.2.2.1.length) 3001 0 ([upto p.1.toNat],[0],[0],[0]) [])
noncomputable def Bq (p:PP):Bool:=Bd p&&(Dl p.2.2.1 (upto p.1.toNat)).2.2
noncomputable abbrev Nz:Spec:=Di (.pair Dn .unit) (.pair (.optr Wi) (.pair .bool .unit)) true false (λx=>Dt x.1) (λx=>if Bq x.1=true then (some (Ji x.1),true,()) else (none,false,()))
abbrev wL:Type:=Int×Int×ByteArray×List (List Int)×List (List Int)×PUnit
theorem PT (p:Int×ByteArray×List (List Int)×Unit) (s:List Int) (P:List (List Int)->Prop):(∃(y3:List Int),Hz.fn ((↑p.2.2.1.length:Int),())=some y3/\0=0/\0=([]:List Int).length/\Bt (λ(v4:wL) (k5:wL->Prop)=>Br (decide (v4.1<(↑y3.length:Int))) (∃(y6:Int),idx y3 v4.1=some y6/\ ∃(y7:List Int),Qv.fn (v4.2.2.2.1,y6,())=some y7/\ ∃(y8:List Int),Ts.fn (s,y7,())=some y8/\0=0/\v4.2.2.2.2.1.length=v4.2.2.2.2.1.length/\v4.2.2.2.2.1.length+(List.take 1 (List.drop 0 [y8])).length<=Bm/\0=0/\(v4.2.2.2.2.1++List.take 1 (List.drop 0 [y8])).length=(v4.2.2.2.2.1++List.take 1 (List.drop 0 [y8])).length/\k5 (IntKind.i64.wrap (v4.1+(1:Int)),v4.2.1,v4.2.2.1,v4.2.2.2.1,v4.2.2.2.2.1++List.take 1 (List.drop 0 [y8]),())) (P (List.take v4.2.2.2.2.1.length (List.drop 0 v4.2.2.2.2.1)))) ((0:Int),p.1,p.2.1,p.2.2.1,[],PUnit.unit))=fnW Cy (look [(117,Hz),(157,Qv),(156,Ts)]) dB Try.f129 (p,s,()) P:=by kernel_rfl
theorem OP (p:PP) (s:List Int) (h:Bd p=true/\s.length<=20/\ ∀y∈s,0<=y/\y<p.1):fnW Cy (look [(117,Hz),(157,Qv),(156,Ts)]) dB Try.f129 (p,s,()) (λ(z:List (List Int))=>z=si p.2.2.1 s):=by
 obtain ⟨hv,hs,hr⟩:=h
 have hV:=valid hv
 have hf:=hV.o3
 refine Eq.mp (PT p s _) ⟨Ag p.2.2.1.length,if_pos ⟨Int.natCast_nonneg _,by show ((p.2.2.1.length:Nat):Int)<=8;omega⟩,rfl,rfl,?_⟩
 have hL:=Kl p.2.2.1.length
 refine As (Ag p.2.2.1.length).length (λv=>v.1) (λj v=>v=((j:Int),p.1,p.2.1,p.2.2.1,((Ag p.2.2.1.length).take j).map (λl=>Aa s (Af p.2.2.1 l)),())) rfl (by simp) ?_
 rintro j v K hj hi rfl hK
 dsimp only
 refine Br.dec (λhl=>?_) λhl=>?_
 ·have hl:j<(Ag p.2.2.1.length).length:=by omega
  have WR:=Jq (List.getElem_mem hl)
  obtain ⟨h1,h2⟩:=j9 hV WR
  refine ⟨_,Av hl,_,if_pos ⟨WR,hf.2,hV.perm⟩,_,if_pos ⟨hs,λy hy=>by have:=hr y hy;show 0<=y/\y<((Af p.2.2.1 (Ag p.2.2.1.length)[j]).length:Int);omega⟩,rfl,rfl,?_,rfl,rfl,?_⟩
  ·show (((Ag p.2.2.1.length).take j).map _).length+1<=4294967296
   rw [List.length_map,List.length_take]
   omega
  ·rw [Ar (by omega)]
   refine hK hl _ rfl ?_
   have e:(Ag p.2.2.1.length).take (j+1)=(Ag p.2.2.1.length).take j++ [(Ag p.2.2.1.length)[j]]:=by
    rw [List.take_add_one,List.getElem?_eq_getElem hl,Option.toList_some]
   rw [e,List.map_append]
   rfl
 ·have:j=(Ag p.2.2.1.length).length:=by omega
  subst this
  rw [List.drop_zero,List.take_length,List.take_length]
  rfl
theorem wD:Sound Try.prog 129 dB:=
 Sound.Di Bx (Ah Xf (Ah nE (Ah Ph Ao))) mixed Try.func129 (by kernel_rfl) (by kernel_rfl) λx h=>OP x.1 x.2.1 h
end Go.Proofs.Ytjbdmibbbpdnnaa

namespace Go.Proofs.Ytjbdmibbbpdnnaa
open Go.RowKit
theorem Ew {α:Type} {xs ys:List α} {i:Nat} {d:α} (h:i<xs.length):(xs++ys).getD i d=xs.getD i d:=by
 rw [List.getD_eq_getElem?_getD,List.getD_eq_getElem?_getD,List.getElem?_append_left h]
theorem dj {α:Type} {xs:List α} {x d:α} :(xs++ [x]).getD xs.length d=x:=by
 rw [List.getD_eq_getElem?_getD,List.getElem?_append_right (Nat.le_refl _),Nat.sub_self];rfl
theorem Cv {α:Type} {xs:List α} {i:Nat} {d:α} (h:i<xs.length):xs.getD i d=xs[i]:=by
 rw [List.getD_eq_getElem?_getD,List.getElem?_eq_getElem h];rfl
structure Lv (g:List (List Int)) (ls:List Int) (k:Nat) (L:List (List Int)) (D:List Int):Prop where
 len:D.length=L.length
 pos:0<L.length
 mono: ∀i j,i<=j->j<L.length->D.getD i 0<=D.getD j 0
 CV:k<L.length-> ∀j,j<L.length->D.getD j 0<=D.getD k 0+1
 par: ∀j,0<j->j<L.length-> ∃i l,i<j/\l∈ls/\L.getD j []=Aa (L.getD i []) (Af g l)/\D.getD j 0=D.getD i 0+1
 zero:D.getD 0 0=0
theorem Lv.add {g:List (List Int)} {ls:List Int} {k:Nat} {L:List (List Int)} {D:List Int} (h:Lv g ls k L D) (hk:k<L.length) {l:Int} (hl:l∈ls):
  Lv g ls k (L++ [Aa (L.getD k []) (Af g l)]) (D++ [D.getD k 0+1]):=by
 have hlen:=h.len
 have hD: ∀i,i<L.length->(D++ [D.getD k 0+1]).getD i 0=D.getD i 0:= λi hi=>Ew (by omega)
 have QM:(D++ [D.getD k 0+1]).getD L.length 0=D.getD k 0+1:=by rw [<-hlen];exact dj
 refine ⟨by simp [hlen],by simp,λi j iZ hj=>?_,λ_ j hj=>?_,λj h0 hj=>?_,?_⟩
 ·rw [List.length_append,List.length_singleton] at hj
  by_cases e:j=L.length
  ·subst e
   rw [QM]
   by_cases e':i=L.length
   ·subst e';rw [QM];exact Int.le_refl _
   ·rw [hD i (by omega)]
    exact h.CV hk i (by omega)
  ·rw [hD i (by omega),hD j (by omega)]
   exact h.mono i j iZ (by omega)
 ·rw [List.length_append,List.length_singleton] at hj
  rw [hD k hk]
  by_cases e:j=L.length
  ·subst e;rw [QM];exact Int.le_refl _
  ·rw [hD j (by omega)];exact h.CV hk j (by omega)
 ·rw [List.length_append,List.length_singleton] at hj
  by_cases e:j=L.length
  ·subst e
   exact ⟨k,l,hk,hl,by rw [dj,Ew hk],by rw [QM,hD k hk]⟩
  ·obtain ⟨i,l',h1,h2,h3,h4⟩:=h.par j h0 (by omega)
   exact ⟨i,l',h1,h2,by rw [Ew (by omega),Ew (by omega)];exact h3,by rw [hD j (by omega),hD i (by omega)];exact h4⟩
 ·rw [hD 0 h.pos];exact h.zero
theorem lV {g:List (List Int)} {ls:List Int} {k:Nat} : ∀(AP:List Int) (L:List (List Int)) (D:List Int),(∀l∈AP,l∈ls)->Lv g ls k L D->k<L.length-> ∀ {x:List Int} {d:Int},x=L.getD k []->d=D.getD k 0->
  Lv g ls k (Ep g x d AP L D).1 (Ep g x d AP L D).2.1/\(∃A,(Ep g x d AP L D).1=L++A)/\(∃A,(Ep g x d AP L D).2.1=D++A)/\
  ((Ep g x d AP L D).2.2=true-> ∀l∈AP,∃j,j<(Ep g x d AP L D).1.length/\(Ep g x d AP L D).1.getD j []=Aa x (Af g l)/\(Ep g x d AP L D).2.1.getD j 0<=d+1)
 | [],L,D,_,h,_,x,d,_,_=>⟨h,⟨[],by simp [Ep]⟩,⟨[],by simp [Ep]⟩,λ_ l hl=>by cases hl⟩
 |l::AP,L,D,hs,h,hk,x,d,hx,hd=>by
  have pT: ∀l∈AP,l∈ls:= λl' h'=>hs l' (List.mem_cons_of_mem _ h')
  have hlen:=h.len
  simp only [Ep]
  split
  ·rename_i hm
   obtain ⟨a1,⟨A,a2⟩,⟨A',a3⟩,a4⟩:=lV AP L D pT h hk hx hd
   refine ⟨a1,⟨A,a2⟩,⟨A',a3⟩,λe l' Ha=>?_⟩
   rcases List.mem_cons.1 Ha with rfl|Ha
   ·obtain ⟨j,hj,hjx⟩:=List.mem_iff_getElem.1 hm
    refine ⟨j,by rw [a2,List.length_append];omega,by rw [a2,Ew hj,Cv hj];exact hjx,?_⟩
    rw [a3,Ew (by omega),hd]
    exact h.CV hk j hj
   ·exact a4 e l' Ha
  ·split
   ·exact ⟨h,⟨[],by simp⟩,⟨[],by simp⟩,λe=>by cases e⟩
   ·have HJ:=h.add hk (hs l (by simp))
    rw [<-hx,<-hd] at HJ
    obtain ⟨a1,⟨A,a2⟩,⟨A',a3⟩,a4⟩:=lV AP (L++ [Aa x (Af g l)]) (D++ [d+1]) pT HJ (by rw [List.length_append];omega) (x:=x) (d:=d) (by rw [Ew hk];exact hx) (by rw [Ew (by omega)];exact hd)
    refine ⟨a1,⟨_::A,by rw [a2,List.append_assoc];rfl⟩,⟨_::A',by rw [a3,List.append_assoc];rfl⟩,λe l' Ha=>?_⟩
    rcases List.mem_cons.1 Ha with rfl|Ha
    ·refine ⟨L.length,by rw [a2,List.length_append,List.length_append];simp only [List.length_singleton];omega,?_,?_⟩
     ·rw [a2,Ew (by simp),dj]
     ·rw [a3,Ew (by simp [hlen]),<-hlen,dj]
      exact Int.le_refl _
    ·exact a4 e l' Ha
structure iD (g:List (List Int)) (ls:List Int) (L:List (List Int)) (D:List Int):Prop where
 len:D.length=L.length
 pos:0<L.length
 zero:D.getD 0 0=0
 par: ∀j,0<j->j<L.length-> ∃i l,i<j/\l∈ls/\L.getD j []=Aa (L.getD i []) (Af g l)/\D.getD j 0=D.getD i 0+1
 step: ∀i,i<L.length-> ∀l∈ls,∃j,j<L.length/\L.getD j []=Aa (L.getD i []) (Af g l)/\D.getD j 0<=D.getD i 0+1
theorem uf {g:List (List Int)} {ls:List Int} : ∀(f k:Nat) (L:List (List Int)) (D:List Int),3001<=f+k->Lv g ls k L D->k<=L.length->
  (∀i,i<k-> ∀l∈ls,∃j,j<L.length/\L.getD j []=Aa (L.getD i []) (Af g l)/\D.getD j 0<=D.getD i 0+1)->
  (Gi g ls f k L D).2.2=true->(Gi g ls f k L D).1.length<=3000->iD g ls (Gi g ls f k L D).1 (Gi g ls f k L D).2.1
 |0,k,L,D,hf,h,QY,hc,hw,h3=>by
  simp only [Gi] at h3⊢
  omega
 |f+1,k,L,D,hf,h,QY,hc,hw,h3=>by
  simp only [Gi] at hw h3⊢
  split
  ·rename_i hk
   rw [if_pos hk] at hw h3
   obtain ⟨a1,⟨A,a2⟩,⟨A',a3⟩,a4⟩:=lV (x:=L.getD k []) (d:=D.getD k 0) ls L D (λ_ h=>h) h hk rfl rfl
   have hlen:=h.len
   split
   ·rename_i L' D' he
    rw [he] at a1 a2 a3 a4
    simp only [he] at hw h3
    have a2:L'=L++A:=a2
    have a3:D'=D++A':=a3
    have a4:=a4 rfl
    dsimp only at a4
    have hLl:L.length<=L'.length:=by rw [a2,List.length_append];omega
    refine uf f (k+1) L' D' (by omega) ⟨a1.len,a1.pos,a1.mono,λhk1 j hj=>?_,a1.par,a1.zero⟩ (by omega) (λi hi l hl=>?_) hw h3
    ·have h1:D'.getD j 0<=D'.getD k 0+1:=a1.CV (show k<L'.length by omega) j hj
     have h2:D'.getD k 0<=D'.getD (k+1) 0:=a1.mono k (k+1) (by omega) hk1
     omega
    ·by_cases e:i=k
     ·subst e
      obtain ⟨j,b1,b2,b3⟩:=a4 l hl
      refine ⟨j,b1,?_,?_⟩
      ·rw [b2,a2,Ew (by omega)]
      ·rw [show D'.getD i 0=D.getD i 0 by rw [a3,Ew (by omega)]];exact b3
     ·obtain ⟨j,b1,b2,b3⟩:=hc i (by omega) l hl
      refine ⟨j,by omega,?_,?_⟩
      ·rw [a2,Ew (by omega),Ew (by omega)];exact b2
      ·rw [a3,Ew (by omega),Ew (by omega)];exact b3
   ·rename_i L' D' he
    simp only [he] at hw
    cases hw
  ·rename_i hk
   exact ⟨h.len,h.pos,h.zero,h.par,λi hi=>hc i (by have hi:i<L.length:=hi;omega)⟩
theorem eV {p:PP} {s:List Int} (hv:Bd p=true) (hs:s.length<=20) (hr: ∀y∈s,0<=y/\y<p.1) (hw:(Dl p.2.2.1 s).2.2=true):
  iD p.2.2.1 (Ag p.2.2.1.length) (Dl p.2.2.1 s).1 (Dl p.2.2.1 s).2.1:=by
 have hb:=(r9 hv hs hr).1.ok.o3
 refine uf 3001 0 [s] [0] (by omega) ⟨rfl,by simp,λi j iZ hj=>?_,λ_ j hj=>?_,λj h0 hj=>?_,rfl⟩ (Nat.zero_le _) (λi hi=>absurd hi (Nat.not_lt_zero _)) hw hb
 ·have:j=0:=by simpa using hj
  subst this
  have:i=0:=by omega
  subst this
  exact Int.le_refl _
 ·have:j=0:=by simpa using hj
  subst this
  simp
 ·have:j=0:=by simpa using hj
  omega
theorem kf {p:PP} (hV:Valid p) {x:List Int} (hx: ∀y∈x,0<=y/\y<p.1) {l:Int} (hl:l∈Ag p.2.2.1.length):
  -l∈Ag p.2.2.1.length/\Aa (Aa x (Af p.2.2.1 l)) (Af p.2.2.1 (-l))=x:=by
 obtain ⟨k,hk,Ix⟩:=Ov (Jq hl)
 have hg:=fD (hV.perm _ (List.getElem_mem hk))
 have hgl:=hV.len _ (List.getElem_mem hk)
 have hn:=hV.n
 have hp:Pm p.1.toNat (p.2.2.1[k]):=⟨by omega,hg⟩
 have key: ∀q r:List Int,Pm p.1.toNat q->Pm p.1.toNat r->Aa q r=upto p.1.toNat->Aa (Aa x q) r=x:= λq r hq hr he=>by
  refine List.ext_getElem (by rw [Np,Np]) λi h1 h2=>?_
  have hxi:=hx _ (List.getElem_mem h2)
  obtain ⟨xi,hxe⟩:=Int.eq_ofNat_of_zero_le hxi.1
  have AK:xi<p.1.toNat:=by omega
  have e1:ap (Aa q r) xi=ap (upto p.1.toNat) xi:=congrArg (λz=>ap z xi) he
  rw [Fk hq hr AK,dO AK] at e1
  simp only [Aa,List.getElem_map,hxe]
  have h3:=(hq.Si AK).1
  have h4:=(hr.Si (hq.lt AK)).1
  rw [h3,h4,e1]
 rcases Ix with rfl|rfl
 ·refine ⟨(Wa hk).2,?_⟩
  rw [Nh hk,Ng hk]
  exact key _ _ hp hp.inv (bH hp)
 ·refine ⟨by rw [Int.neg_neg];exact (Wa hk).1,?_⟩
  rw [Int.neg_neg,Nh hk,Ng hk]
  exact key _ _ hp.inv hp (Ut hp)
structure Jb (g:List (List Int)) (ls:List Int) (L:List (List Int)) (S:List Int->Prop) (d:List Int->Int):Prop where
 nn: ∀x∈L,0<=d x
 zero: ∀x∈L,d x=0↔S x
 step: ∀x∈L,∀l∈ls,d (Aa x (Af g l))<=d x+1
 down: ∀x∈L,0<d x-> ∃l∈ls,d (Aa x (Af g l))=d x-1
structure lF (g:List (List Int)) (ls:List Int) (L:List (List Int)):Prop where
 next: ∀x∈L,∀l∈ls,Aa x (Af g l)∈L
 back: ∀x∈L,∀l∈ls,-l∈ls/\Aa (Aa x (Af g l)) (Af g (-l))=x
theorem Jb.le {g:List (List Int)} {ls:List Int} {L:List (List Int)} {S:List Int->Prop} {d d':List Int->Int} (hc:lF g ls L) (h:Jb g ls L S d) (h':Jb g ls L S d'):
  ∀(n:Nat) (x:List Int),x∈L->d' x=n->d x<=n
 |0,x,hx,e=>by
  have:=(h.zero x hx).2 ((h'.zero x hx).1 e)
  omega
 |n+1,x,hx,e=>by
  obtain ⟨l,hl,hd⟩:=h'.down x hx (by omega)
  obtain ⟨b1,b2⟩:=hc.back x hx l hl
  have h1:=Jb.le hc h h' n _ (hc.next x hx l hl) (by omega)
  have h2:=h.step _ (hc.next x hx l hl) _ b1
  rw [b2] at h2
  omega
theorem Jb.eq {g:List (List Int)} {ls:List Int} {L:List (List Int)} {S:List Int->Prop} {d d':List Int->Int} (hc:lF g ls L) (h:Jb g ls L S d) (h':Jb g ls L S d') {x:List Int} (hx:x∈L):d x=d' x:=by
 have n1:=h.nn x hx
 have n2:=h'.nn x hx
 have h1:=Jb.le hc h h' (d' x).toNat x hx (by omega)
 have h2:=Jb.le hc h' h (d x).toNat x hx (by omega)
 omega
theorem Jb.CV {g:List (List Int)} {ls:List Int} {L:List (List Int)} {S:List Int->Prop} {d:List Int->Int} (hc:lF g ls L) (h:Jb g ls L S d) {x:List Int} (hx:x∈L) {l:Int} (hl:l∈ls):
  d x-1<=d (Aa x (Af g l)):=by
 obtain ⟨b1,b2⟩:=hc.back x hx l hl
 have h2:=h.step _ (hc.next x hx l hl) _ b1
 rw [b2] at h2
 omega
def ki (L:List (List Int)) (D:List Int) (x:List Int):Int:=if x∈L then D.getD (L.idxOf x) 0 else-1
theorem Jv {L:List (List Int)} (hn:L.Nodup) {j:Nat} (hj:j<L.length):L.idxOf (L.getD j [])=j:=by
 rw [Cv hj]
 exact hn.idxOf_getElem j hj
theorem Kc {L:List (List Int)} {j:Nat} (hj:j<L.length):L.getD j []∈L:=by rw [Cv hj];exact List.getElem_mem hj
theorem fa {L:List (List Int)} {D:List Int} (hn:L.Nodup) {j:Nat} (hj:j<L.length):ki L D (L.getD j [])=D.getD j 0:=by
 unfold ki
 rw [if_pos (Kc hj),Jv hn hj]
theorem Ww {p:PP} (hV:Valid p) {m:Nat} {L:List (List Int)} {D:List Int} (hb:Ok p m L D) (h:iD p.2.2.1 (Ag p.2.2.1.length) L D):lF p.2.2.1 (Ag p.2.2.1.length) L where
 next x hx l hl:=by
  obtain ⟨i,hi,rfl⟩:=List.mem_iff_getElem.1 hx
  obtain ⟨j,h1,h2,_⟩:=h.step i hi l hl
  rw [Cv hi] at h2
  rw [<-h2]
  exact Kc h1
 back x hx l hl:=kf hV (hb.row x hx) hl
theorem cf {p:PP} (hV:Valid p) {m:Nat} {L:List (List Int)} {D:List Int} (hb:Ok p m L D) (h:iD p.2.2.1 (Ag p.2.2.1.length) L D):
  Jb p.2.2.1 (Ag p.2.2.1.length) L (λx=>x=L.getD 0 []) (ki L D) where
 nn x hx:=by
  obtain ⟨i,hi,rfl⟩:=List.mem_iff_getElem.1 hx
  rw [<-Cv (d:= []) hi,fa hb.ok.nodup hi]
  have:=hb.dep i (by rw [hb.len];exact hi)
  rw [Cv (by rw [hb.len];exact hi)]
  omega
 zero x hx:=by
  obtain ⟨i,hi,rfl⟩:=List.mem_iff_getElem.1 hx
  rw [<-Cv (d:= []) hi,fa hb.ok.nodup hi]
  constructor
  ·intro h0
   by_cases e:i=0
   ·rw [e]
   ·obtain ⟨k,l,h1,_,_,h4⟩:=h.par i (by omega) hi
    have hk:k<D.length:=by rw [hb.len];omega
    have:=hb.dep k hk
    rw [<-Cv (d:=0) hk] at this
    omega
  ·intro e
   have:i=0:=by
    have h1:=Jv hb.ok.nodup hi
    have h2:=Jv hb.ok.nodup h.pos
    rw [e,h2] at h1
    exact h1.symm
   rw [this]
   exact h.zero
 step x hx l hl:=by
  obtain ⟨i,hi,rfl⟩:=List.mem_iff_getElem.1 hx
  rw [<-Cv (d:= []) hi,fa hb.ok.nodup hi]
  obtain ⟨j,h1,h2,h3⟩:=h.step i hi l hl
  rw [<-h2,fa hb.ok.nodup h1]
  exact h3
 down x hx h0:=by
  obtain ⟨i,hi,rfl⟩:=List.mem_iff_getElem.1 hx
  rw [<-Cv (d:= []) hi,fa hb.ok.nodup hi] at h0⊢
  have YS:0<i:=by
   rcases Nat.eq_zero_or_pos i with e|e
   ·subst e;rw [h.zero] at h0;omega
   ·exact e
  obtain ⟨k,l,h1,h2,h3,h4⟩:=h.par i YS hi
  have hk:k<L.length:=by omega
  obtain ⟨b1,b2⟩:=kf hV (hb.row _ (Kc hk)) h2
  refine ⟨-l,b1,?_⟩
  rw [h3,b2,fa hb.ok.nodup hk]
  omega
end Go.Proofs.Ytjbdmibbbpdnnaa

namespace Go.Proofs.Ytjbdmibbbpdnnaa
open Go.RowKit
def Te (x:Int):List Int->List Int×List Int->List Int×List Int
 | [],s=>s
 |t::r,s=>if s.1.getD t.toNat 0<0 then Te x r (s.1.set t.toNat (s.1.getD x.toNat 0+1),s.2++ [t]) else Te x r s
def BP (N:Nat->List Int):Nat->List Int->List Int->List Int
 |0,out,_=>out
 |_+1,out,[]=>out
 |f+1,out,x::q=>BP N f (Te x (N x.toNat) (out,q)).1 (Te x (N x.toNat) (out,q)).2
def FT (S:Nat->Bool) (m:Nat):List Int:=(List.range m).map λi=>if S i=true then 0 else-1
def MP (S:Nat->Bool) (m:Nat):List Int:=((List.range m).filter S).map λ(i:Nat)=>(i:Int)
def kZ (N:Nat->List Int) (S:Nat->Bool) (m:Nat):List Int:=BP N (m+1) (FT S m) (MP S m)
def a7 (out:List Int):Nat:=out.countP λv=>decide (v<0)
theorem dk {xs:List Int} {i j:Nat} {v:Int} (hj:j<xs.length):(xs.set i v).getD j 0=if i=j then v else xs.getD j 0:=by
 rw [Ns]
 by_cases e:i=j
 ·subst e;rw [if_pos ⟨rfl,hj⟩,if_pos rfl]
 ·rw [if_neg λh=>e h.1,if_neg e]
theorem vO {xs:List Int} {i:Nat} {v:Int} (hi:i<xs.length) (h:xs.getD i 0<0) (hv:0<=v):a7 (xs.set i v)+1=a7 xs:=by
 unfold a7
 rw [List.countP_set hi]
 rw [MV hi] at h
 have hp:0<xs.countP λv=>decide (v<0):=List.countP_pos_iff.2 ⟨xs[i],List.getElem_mem hi,decide_eq_true h⟩
 simp only [decide_eq_true h,if_true]
 rw [if_neg (by simp;omega)]
 omega
structure DI (N:Nat->List Int) (S:Nat->Bool) (m:Nat) (w:Nat->Prop) (out q:List Int):Prop where
 len:out.length=m
 ge: ∀i,i<m-> -1<=out.getD i 0
 inq: ∀y∈q,0<=y/\y<m/\0<=out.getD y.toNat 0
 src: ∀i,i<m->S i=true->out.getD i 0=0
 OZ: ∀i,i<m->out.getD i 0=0->S i=true
 par: ∀i,i<m->0<out.getD i 0-> ∃j,j<m/\(i:Int)∈N j/\out.getD j 0=out.getD i 0-1
 done: ∀i,i<m->0<=out.getD i 0->(i:Int)∉q-> ¬w i-> ∀t∈N i,0<=out.getD t.toNat 0/\out.getD t.toNat 0<=out.getD i 0+1
 ord:q.Pairwise λa b=>out.getD a.toNat 0<=out.getD b.toNat 0
structure DX (N:Nat->List Int) (S:Nat->Bool) (m:Nat) (x:Nat) (d:Int) (out q:List Int):Prop where
 base:DI N S m (λi=>i=x) out q
 lt:x<m
 Si:out.getD x 0=d
 d0:0<=d
 lo: ∀y∈q,d<=out.getD y.toNat 0
 hi: ∀i,i<m->out.getD i 0<=d+1
def eP (N:Nat->List Int) (m:Nat):Prop:= ∀i,i<m-> ∀t∈N i,0<=t/\t<m
theorem zJ {N:Nat->List Int} {S:Nat->Bool} {m x:Nat} {d:Int} {out q:List Int} (hr:eP N m) (h:DX N S m x d out q) {t:Int} (ht:t∈N x) (XE:0<=t/\t<m) (kU:out.getD t.toNat 0<0):
  DX N S m x d (out.set t.toNat (d+1)) (q++ [t]):=by
 obtain ⟨⟨b1,b2,b3,b4,b5,b6,b7,b8⟩,h1,h2,h3,h4,h5⟩:=h
 obtain ⟨tn,rfl⟩:=Int.eq_ofNat_of_zero_le XE.1
 simp only [Int.toNat_natCast] at kU⊢
 have UB:tn<m:=by omega
 have hg: ∀i,i<m->(out.set tn (d+1)).getD i 0=if tn=i then d+1 else out.getD i 0:= λi hi=>dk (by omega)
 have Ek: ∀i,0<=out.getD i 0->tn≠i:= λi hi e=>by subst e;omega
 have hq: ∀y∈q,(out.set tn (d+1)).getD y.toNat 0=out.getD y.toNat 0:= λy hy=>by
  have:=b3 y hy
  rw [hg _ (by omega),if_neg (Ek _ this.2.2)]
 refine ⟨⟨by rw [List.length_set];exact b1,λi hi=>?_,λy hy=>?_,λi hi hs=>?_,λi hi h0=>?_,λi hi h0=>?_,λi hi h0 hn hw=>?_,?_⟩,h1,?_,h3,λy hy=>?_,λi hi=>?_⟩
 ·rw [hg i hi];split
  ·omega
  ·exact b2 i hi
 ·rcases List.mem_append.1 hy with hy|hy
  ·rw [hq y hy];exact b3 y hy
  ·rw [List.mem_singleton.1 hy]
   refine ⟨by omega,by omega,?_⟩
   rw [hg _ (by omega),if_pos (by omega)];omega
 ·have:=b4 i hi hs
  rw [hg i hi,if_neg (Ek i (by omega))];exact this
 ·rw [hg i hi] at h0
  split at h0
  ·omega
  ·exact b5 i hi h0
 ·rw [hg i hi] at h0⊢
  by_cases e:tn=i
  ·subst e
   rw [if_pos rfl]
   exact ⟨x,h1,ht,by rw [hg x h1,if_neg (Ek x (by omega)),h2];omega⟩
  ·rw [if_neg e] at h0⊢
   obtain ⟨j,j1,j2,j3⟩:=b6 i hi h0
   exact ⟨j,j1,j2,by rw [hg j j1,if_neg (Ek j (by omega))];exact j3⟩
 ·rw [hg i hi] at h0⊢
  have Qg: ¬tn=i:= λe=>hn (by rw [<-e];simp)
  rw [if_neg Qg] at h0⊢
  intro t lx
  obtain ⟨c1,c2⟩:=b7 i hi h0 (λh=>hn (List.mem_append_left _ h)) hw t lx
  have:=hr i hi t lx
  rw [hg _ (by omega),if_neg (Ek _ c1)]
  exact ⟨c1,c2⟩
 ·refine List.pairwise_append.2 ⟨?_,List.pairwise_singleton _ _,λa ha b hb=>?_⟩
  ·refine b8.imp_of_mem λha hb h=>?_
   rw [hq _ ha,hq _ hb];exact h
  ·rw [List.mem_singleton.1 hb,hq _ ha,hg _ (by omega),if_pos (by omega)]
   have:=b3 a ha
   exact h5 _ (by omega)
 ·rw [hg x h1,if_neg (Ek x (by omega))];exact h2
 ·rcases List.mem_append.1 hy with hy|hy
  ·rw [hq y hy];exact h4 y hy
  ·rw [List.mem_singleton.1 hy,hg _ (by omega),if_pos (by omega)];omega
 ·rw [hg i hi];split
  ·exact Int.le_refl _
  ·exact h5 i hi
theorem HC {N:Nat->List Int} {S:Nat->Bool} {m x:Nat} {d:Int} (hr:eP N m): ∀(ts:List Int) (out q:List Int),(∀t∈ts,t∈N x)->DX N S m x d out q->
  DX N S m x d (Te x ts (out,q)).1 (Te x ts (out,q)).2/\(Te x ts (out,q)).2.length+a7 (Te x ts (out,q)).1=q.length+a7 out/\
  (∀t∈ts,0<=(Te x ts (out,q)).1.getD t.toNat 0)/\(∀i,i<m->0<=out.getD i 0->(Te x ts (out,q)).1.getD i 0=out.getD i 0)
 | [],out,q,_,h=>⟨h,rfl,(λt ht=>nomatch ht),λ_ _ _=>rfl⟩
 |t::ts,out,q,hs,h=>by
  have pT: ∀t∈ts,t∈N x:= λt' h'=>hs t' (List.mem_cons_of_mem _ h')
  have XE:=hr x h.lt t (hs t (by simp))
  simp only [Te]
  have NX:out.getD ((x:Nat):Int).toNat 0=d:=by rw [Int.toNat_natCast];exact h.Si
  by_cases kU:out.getD t.toNat 0<0
  ·rw [if_pos kU,NX]
   have h1:=zJ hr h (hs t (by simp)) XE kU
   have hd:=h.d0
   have hlen:=h.base.len
   obtain ⟨a1,a2,a3,a4⟩:=HC hr ts _ _ pT h1
   have hti:(out.set t.toNat (d+1)).getD t.toNat 0=d+1:=by rw [dk (by omega),if_pos rfl]
   refine ⟨a1,?_,λt' lx=>?_,λi hi h0=>?_⟩
   ·have:=vO (xs:=out) (i:=t.toNat) (v:=d+1) (by omega) kU (by omega)
    rw [a2,List.length_append,List.length_singleton]
    omega
   ·rcases List.mem_cons.1 lx with rfl|lx
    ·rw [a4 _ (by omega) (by omega),hti];omega
    ·exact a3 t' lx
   ·have Ek: ¬t.toNat=i:= λe=>by subst e;omega
    have e:(out.set t.toNat (d+1)).getD i 0=out.getD i 0:=by rw [dk (by omega),if_neg Ek]
    rw [a4 i hi (by rw [e];exact h0),e]
  ·rw [if_neg kU]
   obtain ⟨a1,a2,a3,a4⟩:=HC hr ts _ _ pT h
   refine ⟨a1,a2,λt' lx=>?_,a4⟩
   rcases List.mem_cons.1 lx with rfl|lx
   ·rw [a4 _ (by omega) (by omega)];omega
   ·exact a3 t' lx
structure DQ (N:Nat->List Int) (S:Nat->Bool) (m:Nat) (out q:List Int):Prop where
 base:DI N S m (λ_=>False) out q
 hi: ∀x q',q=x::q'-> ∀i,i<m->out.getD i 0<=out.getD x.toNat 0+1
theorem zI {N:Nat->List Int} {S:Nat->Bool} {m:Nat} (hr:eP N m) {x:Int} {out q:List Int} (h:DQ N S m out (x::q)):
  DQ N S m (Te x (N x.toNat) (out,q)).1 (Te x (N x.toNat) (out,q)).2/\(Te x (N x.toNat) (out,q)).2.length+a7 (Te x (N x.toNat) (out,q)).1=q.length+a7 out/\ ∀i,i<m->(Te x (N x.toNat) (out,q)).1.getD i 0<=out.getD x.toNat 0+1:=by
 obtain ⟨b,hi⟩:=h
 obtain ⟨h1,h2,h3⟩:=b.inq x (by simp)
 obtain ⟨xn,rfl⟩:=Int.eq_ofNat_of_zero_le h1
 simp only [Int.toNat_natCast] at h3⊢
 obtain ⟨o1,o2⟩:=List.pairwise_cons.1 b.ord
 simp only [Int.toNat_natCast] at o1
 have hx:DX N S m xn (out.getD xn 0) out q:=by
  refine ⟨⟨b.len,b.ge,λy hy=>b.inq y (List.mem_cons_of_mem _ hy),b.src,b.OZ,b.par,λi hi h0 hn hw=>b.done i hi h0 (λhm=>?_) (λh=>h),o2⟩,by omega,rfl,h3,o1,?_⟩
  ·rcases List.mem_cons.1 hm with e|hm
   ·exact hw (by omega)
   ·exact hn hm
  ·have:=hi xn q rfl
   rwa [Int.toNat_natCast] at this
 obtain ⟨a1,a2,a3,a4⟩:=HC hr (N xn) out q (λ_ h=>h) hx
 obtain ⟨c,c1,c2,c3,c4,c5⟩:=a1
 refine ⟨⟨⟨c.len,c.ge,c.inq,c.src,c.OZ,c.par,λi fk h0 hn _ t ht=>?_,c.ord⟩,λy q' e i hi=>?_⟩,a2,c5⟩
 ·by_cases e:i=xn
  ·subst e
   refine ⟨a3 t ht,?_⟩
   rw [c2]
   have:=hr i fk t ht
   exact c5 _ (by omega)
  ·exact c.done i fk h0 hn e t ht
 ·have h4:=c4 y (by rw [e];simp)
  have h5:=c5 i hi
  omega
theorem GY {N:Nat->List Int} {S:Nat->Bool} {m:Nat} (hr:eP N m) {x:Int} {out q:List Int} (h:DQ N S m out (x::q)):
  DQ N S m (Te x (N x.toNat) (out,q)).1 (Te x (N x.toNat) (out,q)).2/\(Te x (N x.toNat) (out,q)).2.length+a7 (Te x (N x.toNat) (out,q)).1=q.length+a7 out:=⟨(zI hr h).1,(zI hr h).2.1⟩
theorem HB {N:Nat->List Int} {S:Nat->Bool} {m:Nat} (hr:eP N m): ∀(f:Nat) (out q:List Int),q.length+a7 out<f->DQ N S m out q->DQ N S m (BP N f out q) []
 |0,out,q,hf,_=>absurd hf (Nat.not_lt_zero _)
 |f+1,out,[],_,h=>h
 |f+1,out,x::q,hf,h=>by
  obtain ⟨h1,h2⟩:=GY hr h
  simp only [BP]
  simp only [List.length_cons] at hf
  exact HB hr f _ _ (by omega) h1
theorem Uj {S:Nat->Bool} {m i:Nat} (hi:i<m):(FT S m).getD i 0=if S i=true then 0 else-1:=by
 unfold FT
 rw [List.getD_eq_getElem?_getD,List.getElem?_map,List.getElem?_range hi]
 rfl
theorem gQ {S:Nat->Bool} {m:Nat} {y:Int} :y∈MP S m↔ ∃i:Nat,y=i/\i<m/\S i=true:=by
 unfold MP
 simp only [List.mem_map,List.mem_filter,List.mem_range]
 constructor
 ·rintro ⟨i,⟨h1,h2⟩,rfl⟩;exact ⟨i,rfl,h1,h2⟩
 ·rintro ⟨i,rfl,h1,h2⟩;exact ⟨i,⟨h1,h2⟩,rfl⟩
theorem ux (N:Nat->List Int) (S:Nat->Bool) (m:Nat):DQ N S m (FT S m) (MP S m):=by
 have hle: ∀i,i<m->(FT S m).getD i 0<=0:= λi hi=>by rw [Uj hi];split<;>omega
 refine ⟨⟨by simp [FT],λi hi=>?_,λy hy=>?_,λi hi hs=>?_,λi hi h0=>?_,λi hi h0=>?_,λi hi h0 hn _=>?_,?_⟩,λx q' e i hi=>?_⟩
 ·rw [Uj hi];split<;>omega
 ·obtain ⟨i,rfl,h1,h2⟩:=gQ.1 hy
  rw [Int.toNat_natCast,Uj h1,if_pos h2]
  exact ⟨by omega,by omega,Int.le_refl _⟩
 ·rw [Uj hi,if_pos hs]
 ·rw [Uj hi] at h0
  split at h0
  ·assumption
  ·omega
 ·have:=hle i hi;omega
 ·rw [Uj hi] at h0
  split at h0
  ·rename_i hs
   exact absurd (gQ.2 ⟨i,rfl,hi,hs⟩) hn
  ·omega
 ·refine List.Pairwise.imp_of_mem (R:= λ_ _=>True) (λha hb _=>?_) (List.pairwise_of_forall λ_ _=>trivial)
  obtain ⟨i,rfl,h1,h2⟩:=gQ.1 ha
  obtain ⟨j,rfl,h3,h4⟩:=gQ.1 hb
  rw [Int.toNat_natCast,Int.toNat_natCast,Uj h1,Uj h3,if_pos h2,if_pos h4]
  exact Int.le_refl _
 ·obtain ⟨j,rfl,h3,h4⟩:=gQ.1 (show x∈MP S m by rw [e];simp)
  have:=hle i hi
  rw [Int.toNat_natCast,Uj h3,if_pos h4]
  omega
theorem JB {S:Nat->Bool} {m:Nat} :(MP S m).length+a7 (FT S m)=m:=by
 unfold MP a7 FT
 rw [List.length_map,List.countP_map]
 have h:(List.range m).countP ((λv=>decide (v<0))∘ λi=>if S i=true then (0:Int) else-1)=(List.range m).countP λi=>!S i:=by
  refine List.countP_congr λi _=>?_
  simp only [Function.comp]
  by_cases e:S i=true
  ·simp [e]
  ·simp [Bool.not_eq_true _▸e]
 rw [h,<-List.countP_eq_length_filter]
 have:=List.length_eq_countP_add_countP (l:=List.range m) S
 rw [List.length_range] at this
 have e:(List.range m).countP (λa=>decide ¬S a=true)=(List.range m).countP λi=>!S i:=List.countP_congr λi _=>by cases S i<;>simp
 rw [e] at this
 omega
theorem QD {N:Nat->List Int} {S:Nat->Bool} {m:Nat} (hr:eP N m):DI N S m (λ_=>False) (kZ N S m) []:=
 (HB hr (m+1) _ _ (by rw [JB];omega) (ux N S m)).base
end Go.Proofs.Ytjbdmibbbpdnnaa

namespace Go.Proofs.Ytjbdmibbbpdnnaa
open Go.RowKit
abbrev nQ:Type:=Int×Int×ByteArray×List (List Int)×List Int×List (List Int)×List Int×(ByteArray->Option Int)×List Int×List Int×Int×ByteArray×List (List Int)×List (List Int)×PUnit
abbrev nR:Type:=Int×Int×ByteArray×List (List Int)×List (List Int)×List Int×(ByteArray->Option Int)×List Int×List Int×Int×ByteArray×List (List Int)×List (List Int)×PUnit
abbrev Zv:List (Nat×Nat):= [(0,1),(0,1),(0,1),(0,1),(0,1),(0,1),(0,1),(0,1),(0,1),(0,1),(0,1),(0,1),(0,0)]
abbrev Dk (p:Int×ByteArray×List (List Int)×Unit) (y4:List Int) (y2:Int) (y3:Bool) (y6:ByteArray) (y5:ByteArray):Prop:=Zv=Zv/\(p,false,y4,p.1,p.2.1,p.2.2.1,y2,y3,!y3,p.1,y4,p.1,p.2.1,p.2.2.1,y4,y4,y6,p.1,p.2.1,p.2.2.1,p.1,p.2.1,p.2.2.1,[y4],[(0:Int)],aE (λ(_:ByteArray)=>none) y6 (0:Int),[(0:Int)],[(0:Int)],p.1,p.2.1,p.2.2.1,([]:List (List Int)),())=(p,false,y4,p.1,p.2.1,p.2.2.1,y2,y3,!y3,p.1,y4,p.1,p.2.1,p.2.2.1,y4,y4,y5,p.1,p.2.1,p.2.2.1,p.1,p.2.1,p.2.2.1,[y4],[(0:Int)],aE (λ(_:ByteArray)=>none) y5 (0:Int),[(0:Int)],[(0:Int)],p.1,p.2.1,p.2.2.1,([]:List (List Int)),PUnit.unit)
theorem FE (p:Int×ByteArray×List (List Int)×Unit) (P:(Option (PP×List (List Int)×List Int×(ByteArray->Option Int)×List Int×List Int×List (List Int)×Unit)×Bool×Unit)->Prop):(∃(y2:Int),Lx.fn ((p.1,p.2.1,p.2.2.1,()),())=some y2/\ ∃(y3:Bool),Bk.fn (y2,(1:Int),(3000:Int),())=some y3/\Br (!y3) (P (none,false,())) (∃(y4:List Int),Oa.fn (p.1,())=some y4/\ ∃(y5:ByteArray),Eg.fn (y4,())=some y5/\(∃(y6:List Int),Hz.fn ((↑p.2.2.1.length:Int),())=some y6/\0=0/\1= [y4].length/\0=0/\1= [(0:Int)].length/\0=0/\1= [(0:Int)].length/\0=0/\1= [(0:Int)].length/\0=0/\0=([]:List Int).length/\Bt (λ(v7:nR) (k8:nR->Prop)=>Br (decide (v7.1<(↑v7.2.2.2.2.1.length:Int))) (((0:Int)<=v7.1/\v7.1<(↑v7.2.2.2.2.1.length:Int))/\ ∃(y9:List Int),v7.2.2.2.2.1[0+v7.1.toNat]?=some y9/\ ∃(lD:List (List Int)),dB.fn ((v7.2.1,v7.2.2.1,v7.2.2.2.1,()),y9,())=some lD/\0=0/\0=([]:List Int).length/\0=0/\v7.2.2.2.2.1.length=v7.2.2.2.2.1.length/\0=0/\v7.2.2.2.2.2.1.length=v7.2.2.2.2.2.1.length/\0=0/\v7.2.2.2.2.2.2.2.1.length=v7.2.2.2.2.2.2.2.1.length/\0=0/\v7.2.2.2.2.2.2.2.2.1.length=v7.2.2.2.2.2.2.2.2.1.length/\0=0/\v7.2.2.2.2.2.2.2.2.2.2.2.2.1.length=v7.2.2.2.2.2.2.2.2.2.2.2.2.1.length/\Bt (λ(v11:nQ) (k12:nQ->Prop)=>Br (decide (v11.1<(↑lD.length:Int))) (∃(iy:List Int),idx lD v11.1=some iy/\ ∃(Yy:ByteArray),Eg.fn (iy,())=some Yy/\Br (!(v11.2.2.2.2.2.2.2.1 Yy).isSome) (∃(dc:Int),Tl.fn (List.take v11.2.2.2.2.2.1.length (List.drop 0 v11.2.2.2.2.2.1),())=some dc/\0=0/\v11.2.2.2.2.2.1.length=v11.2.2.2.2.2.1.length/\v11.2.2.2.2.2.1.length+(List.take 1 (List.drop 0 [iy])).length<=Bm/\((0:Int)<=v7.1/\v7.1<(↑v11.2.2.2.2.2.2.1.length:Int))/\ ∃(dM:Int),v11.2.2.2.2.2.2.1[0+v7.1.toNat]?=some dM/\0=0/\v11.2.2.2.2.2.2.1.length=v11.2.2.2.2.2.2.1.length/\v11.2.2.2.2.2.2.1.length+ [IntKind.i64.wrap (dM+(1:Int))].length<=Bm/\0=0/\v11.2.2.2.2.2.2.2.2.1.length=v11.2.2.2.2.2.2.2.2.1.length/\v11.2.2.2.2.2.2.2.2.1.length+(List.take 1 (List.drop 0 [v7.1])).length<=Bm/\ ∃(BD:Int),idx y6 v11.1=some BD/\0=0/\v11.2.2.2.2.2.2.2.2.2.1.length=v11.2.2.2.2.2.2.2.2.2.1.length/\v11.2.2.2.2.2.2.2.2.2.1.length+ [BD].length<=Bm/\0=0/\v11.2.2.2.2.1.length=v11.2.2.2.2.1.length/\v11.2.2.2.2.1.length+(List.take 1 (List.drop 0 [dc])).length<=Bm/\0=0/\(v11.2.2.2.2.1++List.take 1 (List.drop 0 [dc])).length=(v11.2.2.2.2.1++List.take 1 (List.drop 0 [dc])).length/\0=0/\(v11.2.2.2.2.2.1++List.take 1 (List.drop 0 [iy])).length=(v11.2.2.2.2.2.1++List.take 1 (List.drop 0 [iy])).length/\0=0/\(v11.2.2.2.2.2.2.1++ [IntKind.i64.wrap (dM+(1:Int))]).length=(v11.2.2.2.2.2.2.1++ [IntKind.i64.wrap (dM+(1:Int))]).length/\0=0/\(v11.2.2.2.2.2.2.2.2.1++List.take 1 (List.drop 0 [v7.1])).length=(v11.2.2.2.2.2.2.2.2.1++List.take 1 (List.drop 0 [v7.1])).length/\0=0/\(v11.2.2.2.2.2.2.2.2.2.1++ [BD]).length=(v11.2.2.2.2.2.2.2.2.2.1++ [BD]).length/\0=0/\v11.2.2.2.2.2.2.2.2.2.2.2.2.2.1.length=v11.2.2.2.2.2.2.2.2.2.2.2.2.2.1.length/\k12 (IntKind.i64.wrap (v11.1+(1:Int)),v11.2.1,v11.2.2.1,v11.2.2.2.1,v11.2.2.2.2.1++List.take 1 (List.drop 0 [dc]),v11.2.2.2.2.2.1++List.take 1 (List.drop 0 [iy]),v11.2.2.2.2.2.2.1++ [IntKind.i64.wrap (dM+(1:Int))],aE v11.2.2.2.2.2.2.2.1 Yy dc,v11.2.2.2.2.2.2.2.2.1++List.take 1 (List.drop 0 [v7.1]),v11.2.2.2.2.2.2.2.2.2.1++ [BD],v11.2.2.2.2.2.2.2.2.2.2.1,v11.2.2.2.2.2.2.2.2.2.2.2.1,v11.2.2.2.2.2.2.2.2.2.2.2.2.1,v11.2.2.2.2.2.2.2.2.2.2.2.2.2.1,())) (0=0/\v11.2.2.2.2.1.length=v11.2.2.2.2.1.length/\v11.2.2.2.2.1.length+(List.take 1 (List.drop 0 [(v11.2.2.2.2.2.2.2.1 Yy).getD (Int.ofNat (nat_lit 0))])).length<=Bm/\0=0/\(v11.2.2.2.2.1++List.take 1 (List.drop 0 [(v11.2.2.2.2.2.2.2.1 Yy).getD (Int.ofNat (nat_lit 0))])).length=(v11.2.2.2.2.1++List.take 1 (List.drop 0 [(v11.2.2.2.2.2.2.2.1 Yy).getD (Int.ofNat (nat_lit 0))])).length/\0=0/\v11.2.2.2.2.2.1.length=v11.2.2.2.2.2.1.length/\0=0/\v11.2.2.2.2.2.2.1.length=v11.2.2.2.2.2.2.1.length/\0=0/\v11.2.2.2.2.2.2.2.2.1.length=v11.2.2.2.2.2.2.2.2.1.length/\0=0/\v11.2.2.2.2.2.2.2.2.2.1.length=v11.2.2.2.2.2.2.2.2.2.1.length/\0=0/\v11.2.2.2.2.2.2.2.2.2.2.2.2.2.1.length=v11.2.2.2.2.2.2.2.2.2.2.2.2.2.1.length/\k12 (IntKind.i64.wrap (v11.1+(1:Int)),v11.2.1,v11.2.2.1,v11.2.2.2.1,v11.2.2.2.2.1++List.take 1 (List.drop 0 [(v11.2.2.2.2.2.2.2.1 Yy).getD (Int.ofNat (nat_lit 0))]),v11.2.2.2.2.2.1,v11.2.2.2.2.2.2.1,v11.2.2.2.2.2.2.2.1,v11.2.2.2.2.2.2.2.2.1,v11.2.2.2.2.2.2.2.2.2.1,v11.2.2.2.2.2.2.2.2.2.2.1,v11.2.2.2.2.2.2.2.2.2.2.2.1,v11.2.2.2.2.2.2.2.2.2.2.2.2.1,v11.2.2.2.2.2.2.2.2.2.2.2.2.2.1,()))) (0=0/\v11.2.2.2.2.2.2.2.2.2.2.2.2.2.1.length=v11.2.2.2.2.2.2.2.2.2.2.2.2.2.1.length/\v11.2.2.2.2.2.2.2.2.2.2.2.2.2.1.length+(List.take 1 (List.drop 0 [List.take v11.2.2.2.2.1.length (List.drop 0 v11.2.2.2.2.1)])).length<=Bm/\0=0/\v11.2.2.2.2.2.1.length=v11.2.2.2.2.2.1.length/\0=0/\v11.2.2.2.2.2.2.1.length=v11.2.2.2.2.2.2.1.length/\0=0/\v11.2.2.2.2.2.2.2.2.1.length=v11.2.2.2.2.2.2.2.2.1.length/\0=0/\v11.2.2.2.2.2.2.2.2.2.1.length=v11.2.2.2.2.2.2.2.2.2.1.length/\0=0/\(v11.2.2.2.2.2.2.2.2.2.2.2.2.2.1++List.take 1 (List.drop 0 [List.take v11.2.2.2.2.1.length (List.drop 0 v11.2.2.2.2.1)])).length=(v11.2.2.2.2.2.2.2.2.2.2.2.2.2.1++List.take 1 (List.drop 0 [List.take v11.2.2.2.2.1.length (List.drop 0 v11.2.2.2.2.1)])).length/\k8 (IntKind.i64.wrap (v7.1+(1:Int)),v11.2.1,v11.2.2.1,v11.2.2.2.1,v11.2.2.2.2.2.1,v11.2.2.2.2.2.2.1,v11.2.2.2.2.2.2.2.1,v11.2.2.2.2.2.2.2.2.1,v11.2.2.2.2.2.2.2.2.2.1,v11.2.2.2.2.2.2.2.2.2.2.1,v11.2.2.2.2.2.2.2.2.2.2.2.1,v11.2.2.2.2.2.2.2.2.2.2.2.2.1,v11.2.2.2.2.2.2.2.2.2.2.2.2.2.1++List.take 1 (List.drop 0 [List.take v11.2.2.2.2.1.length (List.drop 0 v11.2.2.2.2.1)]),()))) ((0:Int),v7.2.1,v7.2.2.1,v7.2.2.2.1,[],v7.2.2.2.2.1,v7.2.2.2.2.2.1,v7.2.2.2.2.2.2.1,v7.2.2.2.2.2.2.2.1,v7.2.2.2.2.2.2.2.2.1,v7.2.2.2.2.2.2.2.2.2.1,v7.2.2.2.2.2.2.2.2.2.2.1,v7.2.2.2.2.2.2.2.2.2.2.2.1,v7.2.2.2.2.2.2.2.2.2.2.2.2.1,PUnit.unit)) (P (some ((v7.2.2.2.2.2.2.2.2.2.1,v7.2.2.2.2.2.2.2.2.2.2.1,v7.2.2.2.2.2.2.2.2.2.2.2.1,()),List.take v7.2.2.2.2.1.length (List.drop 0 v7.2.2.2.2.1),List.take v7.2.2.2.2.2.1.length (List.drop 0 v7.2.2.2.2.2.1),v7.2.2.2.2.2.2.1,List.take v7.2.2.2.2.2.2.2.1.length (List.drop 0 v7.2.2.2.2.2.2.2.1),List.take v7.2.2.2.2.2.2.2.2.1.length (List.drop 0 v7.2.2.2.2.2.2.2.2.1),List.take v7.2.2.2.2.2.2.2.2.2.2.2.2.1.length (List.drop 0 v7.2.2.2.2.2.2.2.2.2.2.2.2.1),()),true,()))) ((0:Int),p.1,p.2.1,p.2.2.1,[y4],[(0:Int)],aE (λ(_:ByteArray)=>none) y5 (0:Int),[(0:Int)],[(0:Int)],p.1,p.2.1,p.2.2.1,([]:List (List Int)),PUnit.unit))/\((∃(y6:ByteArray),Eg.fn (y4,())=some y6/\(Dk p y4 y2 y3 y6 y5))/\ ∃(y6:ByteArray),Eg.fn (y4,())=some y6/\((Dk p y4 y2 y3 y6 y5))/\((Dk p y4 y2 y3 y6 y5))/\(Dk p y4 y2 y3 y6 y5))/\((∃(y6:ByteArray),Eg.fn (y4,())=some y6/\(Dk p y4 y2 y3 y6 y5))/\ ∃(y6:ByteArray),Eg.fn (y4,())=some y6/\((Dk p y4 y2 y3 y6 y5))/\((Dk p y4 y2 y3 y6 y5))/\(Dk p y4 y2 y3 y6 y5))/\ ∃(y6:ByteArray),Eg.fn (y4,())=some y6/\(((Dk p y4 y2 y3 y6 y5))/\((Dk p y4 y2 y3 y6 y5))/\(Dk p y4 y2 y3 y6 y5))/\(((Dk p y4 y2 y3 y6 y5))/\((Dk p y4 y2 y3 y6 y5))/\(Dk p y4 y2 y3 y6 y5))/\(((Dk p y4 y2 y3 y6 y5))/\(Dk p y4 y2 y3 y6 y5))/\(((Dk p y4 y2 y3 y6 y5))/\(Dk p y4 y2 y3 y6 y5))/\((Dk p y4 y2 y3 y6 y5))/\Zv=Zv/\(p,false,y4,p.1,p.2.1,p.2.2.1,y2,y3,!y3,p.1,y4,p.1,p.2.1,p.2.2.1,y4,y4,y6,p.1,p.2.1,p.2.2.1,p.1,p.2.1,p.2.2.1,[y4],[(0:Int)],aE (λ(_:ByteArray)=>none) y6 (0:Int),[(0:Int)],[(0:Int)],p.1,p.2.1,p.2.2.1,([]:List (List Int)),())=(p,false,y4,p.1,p.2.1,p.2.2.1,y2,y3,!y3,p.1,y4,p.1,p.2.1,p.2.2.1,y4,y4,y5,p.1,p.2.1,p.2.2.1,p.1,p.2.1,p.2.2.1,[y4],[(0:Int)],aE (λ(_:ByteArray)=>none) y5 (0:Int),[(0:Int)],[(0:Int)],p.1,p.2.1,p.2.2.1,[],PUnit.unit)))=fnW Cy (look [(126,Lx),(97,Bk),(127,Oa),(128,Eg),(117,Hz),(129,dB),(58,Tl)]) Nz Try.f80 (p,()) P:=by kernel_rfl
theorem ma {g:List (List Int)} {k:Int} {x:List Int} {d:Int} : ∀(ls:List Int) (s:EX) (row:List Int) (L':List (List Int)) (D':List Int),Ep g x d ls s.1 s.2.1=(L',D',true)->
  (Vk g k x d ls s row).1.1=L'/\(Vk g k x d ls s row).1.2.1=D'
 | [],s,row,L',D',h=>by
  simp only [Ep,Prod.mk.injEq] at h
  exact ⟨h.1,h.2.1⟩
 |l::ls,s,row,L',D',h=>by
  simp only [Ep] at h
  simp only [Vk]
  by_cases hm:Aa x (Af g l)∈s.1
  ·rw [if_pos hm] at h
   rw [if_pos hm]
   exact ma ls s _ L' D' h
  ·rw [if_neg hm] at h
   rw [if_neg hm]
   by_cases hf:s.1.length=3000
   ·rw [if_pos hf] at h
    simp at h
   ·rw [if_neg hf] at h
    exact ma ls _ _ L' D' h
theorem uG {g:List (List Int)} {ls:List Int} : ∀(f k:Nat) (s:EX) (N:List (List Int)) (L':List (List Int)) (D':List Int),Gi g ls f k s.1 s.2.1=(L',D',true)->
  (Wt g ls f k s N).1.1=L'/\(Wt g ls f k s N).1.2.1=D'
 |0,k,s,N,L',D',h=>by
  simp only [Gi,Prod.mk.injEq] at h
  exact ⟨h.1,h.2.1⟩
 |f+1,k,s,N,L',D',h=>by
  simp only [Gi] at h
  simp only [Wt]
  by_cases hk:k<s.1.length
  ·rw [if_pos hk] at h
   rw [if_pos hk]
   split at h
   ·rename_i L1 D1 he
    obtain ⟨a1,a2⟩:=ma (k:=(k:Int)) ls s [] L1 D1 he
    refine uG f (k+1) _ _ L' D' ?_
    rw [a1,a2]
    exact h
   ·simp at h
  ·rw [if_neg hk] at h
   rw [if_neg hk]
   simp only [Prod.mk.injEq] at h
   exact ⟨h.1,h.2.1⟩
theorem gI {key:ByteArray} {x:List Int} : ∀(L:List (List Int)) (i:Nat),cc key (L++ [x]) i=if (cc key L i).isSome=true then cc key L i else if Mc x=key then some ((i+L.length:Nat):Int) else none
 | [],i=>by simp [cc]
 |y::L,i=>by
  simp only [List.cons_append,cc]
  split
  ·rfl
  ·rw [gI L (i+1),List.length_cons,show i+1+L.length=i+(L.length+1) by omega]
theorem j8 {x:List Int} (hx:Pr x): ∀(L:List (List Int)) (i:Nat),(∀y∈L,Pr y)->cc (Mc x) L i=if x∈L then some ((i+L.idxOf x:Nat):Int) else none
 | [],i,_=>by simp [cc]
 |y::L,i,h=>by
  have hy:=h y (by simp)
  simp only [cc]
  by_cases e:y=x
  ·subst e
   rw [if_pos rfl,if_pos (by simp),List.idxOf_cons_self]
   rfl
  ·rw [if_neg λhk=>e (key_inj hy hx hk),j8 hx L (i+1) λz hz=>h z (List.mem_cons_of_mem _ hz),show List.idxOf x (y::L)=(List.idxOf x L).succ by rw [List.idxOf_cons,beq_false_of_ne e];rfl]
   have:(x∈y::L)↔(x∈L):=by simp [Ne.symm e]
   by_cases hm:x∈L
   ·rw [if_pos hm,if_pos (this.2 hm),show i+1+List.idxOf x L=i+(List.idxOf x L).succ by omega]
   ·rw [if_neg hm,if_neg λh=>hm (this.1 h)]
theorem q7 {x:List Int} {L:List (List Int)} (hx:Pr x) (hL: ∀y∈L,Pr y):Rj L (Mc x)=if x∈L then some (L.idxOf x:Int) else none:=by
 unfold Rj
 rw [j8 hx L 0 hL,Nat.zero_add]
theorem q6 {x:List Int} {L:List (List Int)} (hx:Pr x) (hL: ∀y∈L,Pr y) (hn:x∉L):aE (Rj L) (Mc x) (L.length:Int)=Rj (L++ [x]):=by
 funext key
 unfold aE Rj
 rw [gI,Nat.zero_add]
 by_cases e:key=Mc x
 ·subst e
  rw [if_pos rfl,j8 hx L 0 hL,if_neg hn,if_neg (by simp),if_pos rfl]
 ·rw [if_neg e,if_neg (c:=Mc x=key) λh=>e h.symm]
  split
  ·rfl
  ·rename_i h
   cases hk:cc key L 0 with
   |none=>rfl
   |some v=>rw [hk] at h;simp at h
theorem x9 (p:PP):He (Ow p) 1 3000=Bq p:=by
 unfold Bq
 by_cases hv:Bd p=true
 ·rw [hv,Bool.true_and,uv hv]
  rfl
 ·have hv:Bd p=false:=by simpa using hv
  rw [hv,Bool.false_and]
  have:Ow p=0:=by unfold Ow;rw [if_neg (by simp [hv])]
  rw [this]
  rfl
theorem DF (p:PP) (h:Dt p):fnW Cy (look [(126,Lx),(97,Bk),(127,Oa),(128,Eg),(117,Hz),(129,dB),(58,Tl)]) Nz Try.f80 (p,()) (λ(z:Option (PP×List (List Int)×List Int×(ByteArray->Option Int)×List Int×List Int×List (List Int)×Unit)×Bool×Unit)=>z=(if Bq p=true then (some (Ji p),true,()) else (none,false,()))):=by
 refine Eq.mp (FE p _) ⟨_,if_pos h,_,if_pos trivial,?_⟩
 show Br (!He (Ow p) 1 3000) _ _
 rw [x9 p]
 refine Br.of (λhb=>?_) λhb=>?_
 ·rw [if_neg (by simpa using hb)]
 have hw:Bq p=true:=by simpa using hb
 rw [if_pos hw]
 obtain ⟨hv,xN⟩:=Bool.and_eq_true_iff.1 hw
 have hV:=valid hv
 have uV:=hV.o3
 have hn:=hV.n
 obtain ⟨pn,ps,g,⟨⟩⟩:=p
 dsimp only at uV hn xN⊢
 have hI:(upto pn.toNat).length<=20:=by rw [Pn];omega
 have hIr: ∀y∈upto pn.toNat,0<=y/\y<pn:= λy hy=>by have:=Ih.1 hy;omega
 have SQ:=df (p:=(pn,ps,g,())) hI hIr
 obtain ⟨ls,kb⟩: ∃ls,Ag g.length=ls:=⟨_,rfl⟩
 have MA:ls.length<=16:=by rw [<-kb,Kl];omega
 have j0: ∀l∈ls,Gt (List.length g) l:= λl hl=>Jq (kb▸hl)
 have zV: ∀x:List Int,(∀y∈x,0<=y/\y<pn)->Pr x:= λx hx y hy=>by have:=hx y hy;omega
 have xX:Gi g ls 3001 0 [upto pn.toNat] [0]=Dl g (upto pn.toNat):=by unfold Dl;rw [kb]
 have oo:aE (λ(_:ByteArray)=>(none:Option Int)) (Mc (upto pn.toNat)) 0=Rj [upto pn.toNat]:=by
  have:=q6 (L:= []) (zV _ hIr) (λy hy=>by cases hy) (by simp)
  exact this
 refine ⟨upto pn.toNat,if_pos ⟨by show (0:Int)<=pn;omega,by show pn<=20;omega⟩,Mc (upto pn.toNat),if_pos (by show short (upto pn.toNat);unfold short;omega),⟨ls,?_,rfl,rfl,rfl,rfl,rfl,rfl,rfl,rfl,rfl,rfl,?_⟩,?_⟩
 ·refine (if_pos ⟨by show (0:Int)<=((g.length:Nat):Int);omega,by show ((g.length:Nat):Int)<=8;omega⟩).trans (congrArg some ?_)
  show Ag (((g.length:Nat):Int)).toNat=ls
  rw [Int.toNat_natCast];exact kb
 ·obtain ⟨R,hR⟩: ∃R,Wt g ls 3001 0 ([upto pn.toNat],[0],[0],[0]) []=R:=⟨_,rfl⟩
  have Aee:Ji (pn,ps,g,())=XQ (pn,ps,g,()) R:=by unfold Ji;rw [kb];exact congrArg _ hR
  rw [Aee]
  refine Bt.mk (λv=> ∃(k:Nat) (s:EX) (N:List (List Int)),v=((k:Int),pn,ps,g,s.1,s.2.1,Rj s.1,s.2.2.1,s.2.2.2,pn,ps,g,N,())/\k<=s.1.length/\Ok (pn,ps,g,()) (upto pn.toNat).length s.1 s.2.1/\s.2.2.1.length=s.1.length/\s.2.2.2.length=s.1.length/\N.length=k/\
    Gi g ls (3001-k) k s.1 s.2.1=Dl g (upto pn.toNat)/\Wt g ls (3001-k) k s N=R) (λv=>3001-v.1.toNat)
   ⟨0,([upto pn.toNat],[0],[0],[0]),[],?_,by simp,SQ,rfl,rfl,rfl,xX,hR⟩ ?_
  ·rw [<-oo];rfl
  rintro v ⟨k,s0,N,rfl,h1,h2,h3,h4,h5,h6,h7⟩
  obtain ⟨L0,D0,P0,B0⟩:=s0
  dsimp only at h1 h2 h3 h4 h6 h7⊢
  have hL0:=h2.ok.o3
  have hD0:=h2.len
  obtain ⟨f,hf⟩: ∃f,3001-k=f+1:=⟨3000-k,by omega⟩
  refine Br.dec (λhl=>?_) λhl=>?_
  ·have hk:k<L0.length:=by omega
   have BX:k<D0.length:=by omega
   have hx: ∀y∈L0[k],0<=y/\y<pn:=h2.row _ (List.getElem_mem hk)
   have NY:L0[k].length=(upto pn.toNat).length:=h2.ok.len _ (List.getElem_mem hk)
   have hdk:=h2.dep k BX
   have hxe:L0.getD k []=L0[k]:=Oo hk
   have NG:D0.getD k 0=D0[k]:=by rw [List.getD_eq_getElem?_getD,List.getElem?_eq_getElem BX];rfl
   have YQ: ∀L' D' ok,Ep g L0[k] D0[k] ls L0 D0=(L',D',ok)->Dl g (upto pn.toNat)=if ok=true then Gi g ls f (k+1) L' D' else (L',D',false):=by
    intro L' D' ok he
    rw [<-h6,hf,Gi,if_pos hk,hxe,NG,he]
    cases ok<;>rfl
   obtain ⟨E,hE⟩: ∃E,Vk g (k:Int) L0[k] D0[k] ls (L0,D0,P0,B0) []=E:=⟨_,rfl⟩
   have hex:R=Wt g ls f (k+1) E.1 (N++ [E.2]):=by
    rw [<-h7,hf,Wt,if_pos hk]
    dsimp only
    rw [hxe,NG,hE]
   refine ⟨⟨by omega,by omega⟩,L0[k],by rw [Int.toNat_natCast,Nat.zero_add];exact List.getElem?_eq_getElem hk,ls.map (λl=>Aa L0[k] (Af g l)),?_,?_⟩
   ·refine (if_pos ⟨hv,by show L0[k].length<=20;omega,hx⟩).trans (congrArg some ?_)
    show si g L0[k]=_
    unfold si
    rw [kb]
   refine ⟨rfl,rfl,rfl,rfl,rfl,rfl,rfl,rfl,rfl,rfl,rfl,rfl,?_⟩
   obtain ⟨nb,hnb⟩: ∃nb,ls.map (λl=>Aa L0[k] (Af g l))=nb:=⟨_,rfl⟩
   have hnl:nb.length=ls.length:=by rw [<-hnb,List.length_map]
   have hni: ∀i (h:i<ls.length),nb[i]'(by omega)=Aa L0[k] (Af g ls[i]):= λi h=>by simp only [<-hnb,List.getElem_map]
   rw [hnb]
   refine Bt.mk (λv=> ∃(i:Nat) (row:List Int) (s:EX),v=((i:Int),pn,ps,g,row,s.1,s.2.1,Rj s.1,s.2.2.1,s.2.2.2,pn,ps,g,N,())/\i<=ls.length/\row.length=i/\Ok (pn,ps,g,()) (upto pn.toNat).length s.1 s.2.1/\s.2.2.1.length=s.1.length/\s.2.2.2.length=s.1.length/\
     (∃A,s.1=L0++A)/\(∃A,s.2.1=D0++A)/\Ep g L0[k] D0[k] (ls.drop i) s.1 s.2.1=Ep g L0[k] D0[k] ls L0 D0/\Vk g (k:Int) L0[k] D0[k] (ls.drop i) s row=E) (λv=>ls.length-v.1.toNat)
    ⟨0,[],(L0,D0,P0,B0),rfl,Nat.zero_le _,rfl,h2,h3,h4,⟨[],by simp⟩,⟨[],by simp⟩,rfl,hE⟩ ?_
   rintro v ⟨i,row,s,rfl,g1,g2,g3,g4,g5,⟨A,g6⟩,⟨A',g7⟩,g8,g9⟩
   obtain ⟨L,D,Pa,By⟩:=s
   dsimp only at g3 g4 g5 g6 g7 g8 g9⊢
   have hLf:=g3.ok.o3
   have QM:=g3.len
   refine Br.dec (λhli=>?_) λhli=>?_
   ·have hi:i<ls.length:=by omega
    have QY:k<L.length:=by rw [g6,List.length_append];omega
    have TI:k<D.length:=by rw [QM];exact QY
    have hDk:D[k]=D0[k]:=by simp only [g7];exact List.getElem_append_left BX
    have xR:=j0 _ (List.getElem_mem hi)
    obtain ⟨nl,nr⟩:=lA hV hx xR
    dsimp only at nl nr
    rw [List.drop_eq_getElem_cons hi] at g8 g9
    simp only [Ep] at g8
    simp only [Vk] at g9
    have hyb:=zV _ nr
    refine ⟨_,Av (by omega),?_⟩
    rw [hni i hi]
    generalize hyv:Aa L0[k] (Af g ls[i])=yv at*
    refine ⟨Mc yv,if_pos (by show short yv;unfold short;rw [nl];omega),?_⟩
    rw [q7 hyb λy hy=>zV _ (g3.row y hy)]
    refine Br.of (λQg=>?_) λQg=>?_
    ·have Qg:yv∉L:= λhm=>by rw [if_pos hm] at Qg;simp at Qg
     rw [if_neg Qg] at g8 g9
     by_cases e8:L.length=3000
     ·rw [if_pos e8] at g8
      have:=YQ _ _ _ g8.symm
      rw [if_neg (by decide)] at this
      rw [this] at xN
      cases xN
     rw [if_neg e8] at g8
     refine ⟨_,if_pos trivial,rfl,rfl,?_,⟨by omega,by omega⟩,D0[k],?_,rfl,rfl,?_,rfl,rfl,?_,_,Av hi,rfl,rfl,?_,rfl,rfl,?_,rfl,rfl,rfl,rfl,rfl,rfl,rfl,rfl,rfl,rfl,rfl,rfl,?_⟩
     ·show L.length+1<=4294967296;omega
     ·rw [Int.toNat_natCast,Nat.zero_add,List.getElem?_eq_getElem TI,hDk]
     ·show D.length+1<=4294967296;omega
     ·show Pa.length+1<=4294967296;omega
     ·show By.length+1<=4294967296;omega
     ·show row.length+1<=4294967296;omega
     ·dsimp only
      rw [Bh L,Bw (n:=D0[k]+1) (by omega) (by omega),Ar (by omega),q6 hyb (λy hy=>zV _ (g3.row y hy)) Qg]
      refine ⟨⟨i+1,row++ [(L.length:Int)],(L++ [yv],D++ [D0[k]+1],Pa++ [(k:Int)],By++ [ls[i]]),rfl,hi,by rw [List.length_append,g2];rfl,g3.add Qg (by rw [nl,NY]) (by omega) nr ⟨by omega,by omega⟩,?_,?_,⟨A++ [yv],by rw [g6,List.append_assoc]⟩,⟨A'++ [D0[k]+1],by rw [g7,List.append_assoc]⟩,g8,g9⟩,by omega⟩
      ·simp [g4]
      ·simp [g5]
    ·have Qg:yv∈L:=Classical.byContradiction λhm=>by rw [if_neg hm] at Qg;simp at Qg
     rw [if_pos Qg] at g8 g9
     rw [if_pos Qg]
     refine ⟨rfl,rfl,?_,rfl,rfl,rfl,rfl,rfl,rfl,rfl,rfl,rfl,rfl,rfl,rfl,?_⟩
     ·show row.length+1<=4294967296;omega
     ·rw [Ar (by omega)]
      exact ⟨⟨i+1,row++ [(L.idxOf yv:Int)],(L,D,Pa,By),rfl,hi,by rw [List.length_append,g2];rfl,g3,g4,g5,⟨A,g6⟩,⟨A',g7⟩,g8,g9⟩,by omega⟩
   ·have:i=ls.length:=by omega
    subst this
    rw [List.drop_length,Ep] at g8
    rw [List.drop_length,Vk] at g9
    have:=YQ _ _ _ g8.symm
    rw [if_pos rfl] at this
    rw [Bh row,Ar (by omega)]
    refine ⟨rfl,rfl,?_,rfl,rfl,rfl,rfl,rfl,rfl,rfl,rfl,rfl,rfl,⟨k+1,(L,D,Pa,By),N++ [row],rfl,by rw [g6,List.length_append];omega,g3,g4,g5,by rw [List.length_append,h5];rfl,?_,?_⟩,by omega⟩
    ·show N.length+1<=4294967296;omega
    ·rw [show 3001-(k+1)=f by omega]
     exact this.symm
    ·rw [show 3001-(k+1)=f by omega,hex,<-g9]
  ·have hk:k=L0.length:=by omega
   rw [hf,Wt,if_neg (by show ¬k<L0.length;omega)] at h7
   subst h7
   simp only [List.drop_zero,List.take_length]
   rfl
 ·have xQ:Eg.fn (upto pn.toNat,())=some (Mc (upto pn.toNat)):=if_pos (by show short (upto pn.toNat);unfold short;omega)
  repeat' (first|exact ⟨rfl,rfl⟩|refine ⟨_,xQ,?_⟩|refine ⟨?_,?_⟩)
theorem p6:Sound Try.prog 80 Nz:=
 Sound.Di Bx (Ah jH (Ah Pk (Ah ba (Ah cN (Ah Xf (Ah wD (Ah kC Ao))))))) mixed Try.func80 (by kernel_rfl) (by kernel_rfl) λx h=>DF x.1 h
end Go.Proofs.Ytjbdmibbbpdnnaa

namespace Go.Proofs.Ytjbdmibbbpdnnaa
open Go.RowKit
abbrev XP:Type:=PP×List (List Int)×List Int×(ByteArray->Option Int)×List Int×List Int×List (List Int)×Unit
noncomputable def Ad (p:PP):List (List Int):=(Dl p.2.2.1 (upto p.1.toNat)).1
noncomputable def cj (p:PP):List Int:=(Dl p.2.2.1 (upto p.1.toNat)).2.1
def qR (e:XP):Prop:=Bq e.1=true/\e=Ji e.1
noncomputable def Vl (p:PP) (s:List Int):Int×Bool×Unit:=if s∈Ad p then ((List.idxOf s (Ad p):Nat),true,()) else (0,false,())
noncomputable def Ri (p:PP) (s:List Int):Bool:=Bq p&&decide (s∈Ad p)
noncomputable def IX (e:Option XP) (s:List Int):Int×Bool×Unit:=match e with|some e=>Vl e.1 s|none=>(0,false,())
noncomputable abbrev ju:Spec:=Di (.pair (.optr Wi) (.pair tL .unit)) (.pair tI (.pair .bool .unit)) true true (λx=>(∃e:XP,x.1=some e/\qR e)/\short x.2.1) (λx=>IX x.1 x.2.1)
noncomputable def Kk (p:PP) (s:List Int):Option XP×Int×Bool×Unit:=if Bq p=true then (some (Ji p),(Vl p s).1,(Vl p s).2.1,()) else (none,0,false,())
noncomputable abbrev Tt:Spec:=Di (.pair Dn (.pair tL .unit)) (.pair (.optr Wi) (.pair tI (.pair .bool .unit))) true false (λx=>Dt x.1/\short x.2.1) (λx=>Kk x.1 x.2.1)
abbrev Ab6:Ty:= .clo 151 (.pair (.ptr tL) .unit)
def Wb (goal s:List Int):Bool:=List.all goal λx=>decide (Ca s x=x)
noncomputable abbrev jx:Spec:=Di (.pair tI (.pair (.ptr tL) .unit)) .bool false true (λx=>short x.2.1/\0<=x.1/\x.1<List.length x.2.1) (λx=>!decide (Ca x.2.1 x.1=x.1))
noncomputable abbrev qE:Spec:=Di (.pair tL (.pair Ab6 .unit)) tI false true (λx=>short x.1/\short x.2.1.1/\Gs (List.length x.2.1.1) x.1) (λx=>Ck (λy=>!decide (Ca x.2.1.1 y=y)) x.1 0)
noncomputable abbrev qy:Spec:=Di (.pair tL (.pair Ab6 .unit)) .bool false true (λx=>short x.1/\short x.2.1.1/\Gs (List.length x.2.1.1) x.1) (λx=>List.any x.1 (λy=>!decide (Ca x.2.1.1 y=y)))
noncomputable abbrev Ob:Spec:=Di (.pair tL (.pair tL .unit)) .bool false true (λx=>short x.1/\short x.2.1/\Gs (List.length x.2.1) x.1) (λx=>Wb x.1 x.2.1)
noncomputable def Zy (p:PP):SS×Bool×Unit:=if Bd p=true then (Dc p.2.2.1 (upto p.1.toNat),Bq p,()) else (([],[],[],false,()),false,())
noncomputable abbrev Qy:Spec:=Di (.pair Dn .unit) (.pair Wj (.pair .bool .unit)) true false (λx=>Dt x.1) (λx=>Zy x.1)
noncomputable abbrev Tu:Spec:=Di (.pair Dn (.pair Wj (.pair tL .unit))) .bool false true (λx=>Dt x.1/\short x.2.2.1/\Bd x.1=true/\x.2.1=Dc x.1.2.2.1 (upto x.1.1.toNat)) (λx=>decide (x.2.2.1∈Ad x.1))
noncomputable abbrev Lw:Spec:=Di (.pair Dn (.pair tL .unit)) .bool false true (λx=>Dt x.1/\short x.2.1) (λx=>Ri x.1 x.2.1)
noncomputable abbrev jw:Spec:=Di (.pair Dn (.pair tL (.pair tL .unit))) .bool false true (λx=>Dt x.1/\short x.2.1/\short x.2.2.1) (λ_=>true)
abbrev AZ:Type:=(Int×ByteArray×List (List Int)×PUnit)×List (List Int)×List Int×(ByteArray->Option Int)×List Int×List Int×List (List Int)×PUnit
theorem VT (e:Option (PP×List (List Int)×List Int×(ByteArray->Option Int)×List Int×List Int×List (List Int)×Unit)) (s:List Int) (P:(Int×Bool×Unit)->Prop):(∃(y3:AZ),e=some y3/\ ∃(y4:Bool),Qu.fn (y3.1,s,())=some y4/\Br (!y4) (P ((0:Int),false,())) (∃(y5:AZ),e=some y5/\ ∃(y6:ByteArray),Eg.fn (s,())=some y6/\P ((y5.2.2.2.1 y6).getD (Int.ofNat (nat_lit 0)),(y5.2.2.2.1 y6).isSome,())))=fnW Cy (look [(141,Qu),(128,Eg)]) ju Try.f98 (e,s,()) P:=by kernel_rfl
theorem qQ (p:Int×ByteArray×List (List Int)×Unit) (s:List Int) (P:(Option (PP×List (List Int)×List Int×(ByteArray->Option Int)×List Int×List Int×List (List Int)×Unit)×Int×Bool×Unit)->Prop):(∃(y3:Option ((Int×ByteArray×List (List Int)×PUnit)×List (List Int)×List Int×(ByteArray->Option Int)×List Int×List Int×List (List Int)×PUnit)×Bool×PUnit),Nz.fn ((p.1,p.2.1,p.2.2.1,()),())=some y3/\Br (!y3.2.1) (P (none,(0:Int),false,())) (∃(y4:Int×Bool×PUnit),ju.fn (y3.1,s,())=some y4/\P (y3.1,y4.1,y4.2.1,())))=fnW Cy (look [(80,Nz),(98,ju)]) Tt Try.f65 (p,s,()) P:=by kernel_rfl
theorem VY (x:Int) (s:List Int) (P:Bool->Prop):(∃(y3:Int),idx s x=some y3/\P (y3 !=x))=fnW Cy (look []) jx Try.f151 (x,s,()) P:=by kernel_rfl
theorem Abj (xs:List Int) (c:List Int×Unit) (P:Int->Prop):(Bt (λ(v3:Int×PUnit) (k4:Int×PUnit->Prop)=>Br (decide (v3.1<(↑xs.length:Int))) (∃(y5:Int),idx xs v3.1=some y5/\ ∃(y6:Bool),jx.fn (y5,c.1,())=some y6/\Br y6 (P v3.1) (k4 (IntKind.i64.wrap (v3.1+(1:Int)),()))) (P (-1:Int))) ((0:Int),PUnit.unit))=fnW Cy (look [(151,jx)]) qE Try.f118 (xs,c,()) P:=by kernel_rfl
theorem Abb (xs:List Int) (c:List Int×Unit) (P:Bool->Prop):(∃(y3:Int),qE.fn (xs,c,())=some y3/\P (decide (y3>=(0:Int))))=fnW Cy (look [(118,qE)]) qy Try.f131 (xs,c,()) P:=by kernel_rfl
theorem wZ (g s:List Int) (P:Bool->Prop):(∃(y3:Bool),qy.fn (g,(s,()),())=some y3/\P !y3)=fnW Cy (look [(131,qy)]) Ob Try.f121 (g,s,()) P:=by kernel_rfl
abbrev Bv:Type:=List (List Int)×List Int×List Int×Bool×PUnit
theorem zu (p:Int×ByteArray×List (List Int)×Unit) (P:((List (List Int)×List Int×List Int×Bool×Unit)×Bool×Unit)->Prop):(∃(y2:Bool),Fm.fn ((p.1,p.2.1,p.2.2.1,()),())=some y2/\Br (!y2) (P ((List.take 0 (List.drop 0 []),List.take 0 (List.drop 0 []),List.take 0 (List.drop 0 []),false,()),false,())) (((((∃(y3:List Int),Cc.fn (p.1,())=some y3/\(∃(y4:Bv),Da.fn ((p.1,p.2.1,p.2.2.1,()),y3,())=some y4/\((P ((y4.1,y4.2.1,y4.2.2.1,y4.2.2.2.1,()),y4.2.2.2.1,())/\P ((y4.1,y4.2.1,y4.2.2.1,y4.2.2.2.1,()),y4.2.2.2.1,()))/\P ((y4.1,y4.2.1,y4.2.2.1,y4.2.2.2.1,()),y4.2.2.2.1,()))/\(P ((y4.1,y4.2.1,y4.2.2.1,y4.2.2.2.1,()),y4.2.2.2.1,())/\P ((y4.1,y4.2.1,y4.2.2.1,y4.2.2.2.1,()),y4.2.2.2.1,()))/\P ((y4.1,y4.2.1,y4.2.2.1,y4.2.2.2.1,()),y4.2.2.2.1,()))/\ ∃(y4:Bv),Da.fn ((p.1,p.2.1,p.2.2.1,()),y3,())=some y4/\((P ((y4.1,y4.2.1,y4.2.2.1,y4.2.2.2.1,()),y4.2.2.2.1,())/\P ((y4.1,y4.2.1,y4.2.2.1,y4.2.2.2.1,()),y4.2.2.2.1,()))/\P ((y4.1,y4.2.1,y4.2.2.1,y4.2.2.2.1,()),y4.2.2.2.1,()))/\(P ((y4.1,y4.2.1,y4.2.2.1,y4.2.2.2.1,()),y4.2.2.2.1,())/\P ((y4.1,y4.2.1,y4.2.2.1,y4.2.2.2.1,()),y4.2.2.2.1,()))/\P ((y4.1,y4.2.1,y4.2.2.1,y4.2.2.2.1,()),y4.2.2.2.1,()))/\ ∃(y3:List Int),Cc.fn (p.1,())=some y3/\ ∃(y4:Bv),Da.fn ((p.1,p.2.1,p.2.2.1,()),y3,())=some y4/\((P ((y4.1,y4.2.1,y4.2.2.1,y4.2.2.2.1,()),y4.2.2.2.1,())/\P ((y4.1,y4.2.1,y4.2.2.1,y4.2.2.2.1,()),y4.2.2.2.1,()))/\P ((y4.1,y4.2.1,y4.2.2.1,y4.2.2.2.1,()),y4.2.2.2.1,()))/\(P ((y4.1,y4.2.1,y4.2.2.1,y4.2.2.2.1,()),y4.2.2.2.1,())/\P ((y4.1,y4.2.1,y4.2.2.1,y4.2.2.2.1,()),y4.2.2.2.1,()))/\P ((y4.1,y4.2.1,y4.2.2.1,y4.2.2.2.1,()),y4.2.2.2.1,()))/\ ∃(y3:List Int),Cc.fn (p.1,())=some y3/\ ∃(y4:Bv),Da.fn ((p.1,p.2.1,p.2.2.1,()),y3,())=some y4/\((P ((y4.1,y4.2.1,y4.2.2.1,y4.2.2.2.1,()),y4.2.2.2.1,())/\P ((y4.1,y4.2.1,y4.2.2.1,y4.2.2.2.1,()),y4.2.2.2.1,()))/\P ((y4.1,y4.2.1,y4.2.2.1,y4.2.2.2.1,()),y4.2.2.2.1,()))/\(P ((y4.1,y4.2.1,y4.2.2.1,y4.2.2.2.1,()),y4.2.2.2.1,())/\P ((y4.1,y4.2.1,y4.2.2.1,y4.2.2.2.1,()),y4.2.2.2.1,()))/\P ((y4.1,y4.2.1,y4.2.2.1,y4.2.2.2.1,()),y4.2.2.2.1,()))/\ ∃(y3:List Int),Cc.fn (p.1,())=some y3/\ ∃(y4:Bv),Da.fn ((p.1,p.2.1,p.2.2.1,()),y3,())=some y4/\((P ((y4.1,y4.2.1,y4.2.2.1,y4.2.2.2.1,()),y4.2.2.2.1,())/\P ((y4.1,y4.2.1,y4.2.2.1,y4.2.2.2.1,()),y4.2.2.2.1,()))/\P ((y4.1,y4.2.1,y4.2.2.1,y4.2.2.2.1,()),y4.2.2.2.1,()))/\(P ((y4.1,y4.2.1,y4.2.2.1,y4.2.2.2.1,()),y4.2.2.2.1,())/\P ((y4.1,y4.2.1,y4.2.2.1,y4.2.2.2.1,()),y4.2.2.2.1,()))/\P ((y4.1,y4.2.1,y4.2.2.1,y4.2.2.2.1,()),y4.2.2.2.1,()))/\((((∃(y3:List Int),Cc.fn (p.1,())=some y3/\(∃(y4:Bv),Da.fn ((p.1,p.2.1,p.2.2.1,()),y3,())=some y4/\((P ((y4.1,y4.2.1,y4.2.2.1,y4.2.2.2.1,()),y4.2.2.2.1,())/\P ((y4.1,y4.2.1,y4.2.2.1,y4.2.2.2.1,()),y4.2.2.2.1,()))/\P ((y4.1,y4.2.1,y4.2.2.1,y4.2.2.2.1,()),y4.2.2.2.1,()))/\(P ((y4.1,y4.2.1,y4.2.2.1,y4.2.2.2.1,()),y4.2.2.2.1,())/\P ((y4.1,y4.2.1,y4.2.2.1,y4.2.2.2.1,()),y4.2.2.2.1,()))/\P ((y4.1,y4.2.1,y4.2.2.1,y4.2.2.2.1,()),y4.2.2.2.1,()))/\ ∃(y4:Bv),Da.fn ((p.1,p.2.1,p.2.2.1,()),y3,())=some y4/\((P ((y4.1,y4.2.1,y4.2.2.1,y4.2.2.2.1,()),y4.2.2.2.1,())/\P ((y4.1,y4.2.1,y4.2.2.1,y4.2.2.2.1,()),y4.2.2.2.1,()))/\P ((y4.1,y4.2.1,y4.2.2.1,y4.2.2.2.1,()),y4.2.2.2.1,()))/\(P ((y4.1,y4.2.1,y4.2.2.1,y4.2.2.2.1,()),y4.2.2.2.1,())/\P ((y4.1,y4.2.1,y4.2.2.1,y4.2.2.2.1,()),y4.2.2.2.1,()))/\P ((y4.1,y4.2.1,y4.2.2.1,y4.2.2.2.1,()),y4.2.2.2.1,()))/\ ∃(y3:List Int),Cc.fn (p.1,())=some y3/\ ∃(y4:Bv),Da.fn ((p.1,p.2.1,p.2.2.1,()),y3,())=some y4/\((P ((y4.1,y4.2.1,y4.2.2.1,y4.2.2.2.1,()),y4.2.2.2.1,())/\P ((y4.1,y4.2.1,y4.2.2.1,y4.2.2.2.1,()),y4.2.2.2.1,()))/\P ((y4.1,y4.2.1,y4.2.2.1,y4.2.2.2.1,()),y4.2.2.2.1,()))/\(P ((y4.1,y4.2.1,y4.2.2.1,y4.2.2.2.1,()),y4.2.2.2.1,())/\P ((y4.1,y4.2.1,y4.2.2.1,y4.2.2.2.1,()),y4.2.2.2.1,()))/\P ((y4.1,y4.2.1,y4.2.2.1,y4.2.2.2.1,()),y4.2.2.2.1,()))/\ ∃(y3:List Int),Cc.fn (p.1,())=some y3/\ ∃(y4:Bv),Da.fn ((p.1,p.2.1,p.2.2.1,()),y3,())=some y4/\((P ((y4.1,y4.2.1,y4.2.2.1,y4.2.2.2.1,()),y4.2.2.2.1,())/\P ((y4.1,y4.2.1,y4.2.2.1,y4.2.2.2.1,()),y4.2.2.2.1,()))/\P ((y4.1,y4.2.1,y4.2.2.1,y4.2.2.2.1,()),y4.2.2.2.1,()))/\(P ((y4.1,y4.2.1,y4.2.2.1,y4.2.2.2.1,()),y4.2.2.2.1,())/\P ((y4.1,y4.2.1,y4.2.2.1,y4.2.2.2.1,()),y4.2.2.2.1,()))/\P ((y4.1,y4.2.1,y4.2.2.1,y4.2.2.2.1,()),y4.2.2.2.1,()))/\(((∃(y3:List Int),Cc.fn (p.1,())=some y3/\(∃(y4:Bv),Da.fn ((p.1,p.2.1,p.2.2.1,()),y3,())=some y4/\((P ((y4.1,y4.2.1,y4.2.2.1,y4.2.2.2.1,()),y4.2.2.2.1,())/\P ((y4.1,y4.2.1,y4.2.2.1,y4.2.2.2.1,()),y4.2.2.2.1,()))/\P ((y4.1,y4.2.1,y4.2.2.1,y4.2.2.2.1,()),y4.2.2.2.1,()))/\(P ((y4.1,y4.2.1,y4.2.2.1,y4.2.2.2.1,()),y4.2.2.2.1,())/\P ((y4.1,y4.2.1,y4.2.2.1,y4.2.2.2.1,()),y4.2.2.2.1,()))/\P ((y4.1,y4.2.1,y4.2.2.1,y4.2.2.2.1,()),y4.2.2.2.1,()))/\ ∃(y4:Bv),Da.fn ((p.1,p.2.1,p.2.2.1,()),y3,())=some y4/\((P ((y4.1,y4.2.1,y4.2.2.1,y4.2.2.2.1,()),y4.2.2.2.1,())/\P ((y4.1,y4.2.1,y4.2.2.1,y4.2.2.2.1,()),y4.2.2.2.1,()))/\P ((y4.1,y4.2.1,y4.2.2.1,y4.2.2.2.1,()),y4.2.2.2.1,()))/\(P ((y4.1,y4.2.1,y4.2.2.1,y4.2.2.2.1,()),y4.2.2.2.1,())/\P ((y4.1,y4.2.1,y4.2.2.1,y4.2.2.2.1,()),y4.2.2.2.1,()))/\P ((y4.1,y4.2.1,y4.2.2.1,y4.2.2.2.1,()),y4.2.2.2.1,()))/\ ∃(y3:List Int),Cc.fn (p.1,())=some y3/\ ∃(y4:Bv),Da.fn ((p.1,p.2.1,p.2.2.1,()),y3,())=some y4/\((P ((y4.1,y4.2.1,y4.2.2.1,y4.2.2.2.1,()),y4.2.2.2.1,())/\P ((y4.1,y4.2.1,y4.2.2.1,y4.2.2.2.1,()),y4.2.2.2.1,()))/\P ((y4.1,y4.2.1,y4.2.2.1,y4.2.2.2.1,()),y4.2.2.2.1,()))/\(P ((y4.1,y4.2.1,y4.2.2.1,y4.2.2.2.1,()),y4.2.2.2.1,())/\P ((y4.1,y4.2.1,y4.2.2.1,y4.2.2.2.1,()),y4.2.2.2.1,()))/\P ((y4.1,y4.2.1,y4.2.2.1,y4.2.2.2.1,()),y4.2.2.2.1,()))/\(∃(y3:List Int),Cc.fn (p.1,())=some y3/\((∃(y4:Bv),Da.fn ((p.1,p.2.1,p.2.2.1,()),y3,())=some y4/\((P ((y4.1,y4.2.1,y4.2.2.1,y4.2.2.2.1,()),y4.2.2.2.1,())/\P ((y4.1,y4.2.1,y4.2.2.1,y4.2.2.2.1,()),y4.2.2.2.1,()))/\P ((y4.1,y4.2.1,y4.2.2.1,y4.2.2.2.1,()),y4.2.2.2.1,()))/\(P ((y4.1,y4.2.1,y4.2.2.1,y4.2.2.2.1,()),y4.2.2.2.1,())/\P ((y4.1,y4.2.1,y4.2.2.1,y4.2.2.2.1,()),y4.2.2.2.1,()))/\P ((y4.1,y4.2.1,y4.2.2.1,y4.2.2.2.1,()),y4.2.2.2.1,()))/\ ∃(y4:Bv),Da.fn ((p.1,p.2.1,p.2.2.1,()),y3,())=some y4/\((P ((y4.1,y4.2.1,y4.2.2.1,y4.2.2.2.1,()),y4.2.2.2.1,())/\P ((y4.1,y4.2.1,y4.2.2.1,y4.2.2.2.1,()),y4.2.2.2.1,()))/\P ((y4.1,y4.2.1,y4.2.2.1,y4.2.2.2.1,()),y4.2.2.2.1,()))/\(P ((y4.1,y4.2.1,y4.2.2.1,y4.2.2.2.1,()),y4.2.2.2.1,())/\P ((y4.1,y4.2.1,y4.2.2.1,y4.2.2.2.1,()),y4.2.2.2.1,()))/\P ((y4.1,y4.2.1,y4.2.2.1,y4.2.2.2.1,()),y4.2.2.2.1,()))/\ ∃(y4:Bv),Da.fn ((p.1,p.2.1,p.2.2.1,()),y3,())=some y4/\((P ((y4.1,y4.2.1,y4.2.2.1,y4.2.2.2.1,()),y4.2.2.2.1,())/\P ((y4.1,y4.2.1,y4.2.2.1,y4.2.2.2.1,()),y4.2.2.2.1,()))/\P ((y4.1,y4.2.1,y4.2.2.1,y4.2.2.2.1,()),y4.2.2.2.1,()))/\(P ((y4.1,y4.2.1,y4.2.2.1,y4.2.2.2.1,()),y4.2.2.2.1,())/\P ((y4.1,y4.2.1,y4.2.2.1,y4.2.2.2.1,()),y4.2.2.2.1,()))/\P ((y4.1,y4.2.1,y4.2.2.1,y4.2.2.2.1,()),y4.2.2.2.1,()))/\(∃(y3:List Int),Cc.fn (p.1,())=some y3/\ ∃(y4:Bv),Da.fn ((p.1,p.2.1,p.2.2.1,()),y3,())=some y4/\((P ((y4.1,y4.2.1,y4.2.2.1,y4.2.2.2.1,()),y4.2.2.2.1,())/\P ((y4.1,y4.2.1,y4.2.2.1,y4.2.2.2.1,()),y4.2.2.2.1,()))/\P ((y4.1,y4.2.1,y4.2.2.1,y4.2.2.2.1,()),y4.2.2.2.1,()))/\(P ((y4.1,y4.2.1,y4.2.2.1,y4.2.2.2.1,()),y4.2.2.2.1,())/\P ((y4.1,y4.2.1,y4.2.2.1,y4.2.2.2.1,()),y4.2.2.2.1,()))/\P ((y4.1,y4.2.1,y4.2.2.1,y4.2.2.2.1,()),y4.2.2.2.1,()))/\ ∃(y3:List Int),Cc.fn (p.1,())=some y3/\ ∃(y4:Bv),Da.fn ((p.1,p.2.1,p.2.2.1,()),y3,())=some y4/\((P ((y4.1,y4.2.1,y4.2.2.1,y4.2.2.2.1,()),y4.2.2.2.1,())/\P ((y4.1,y4.2.1,y4.2.2.1,y4.2.2.2.1,()),y4.2.2.2.1,()))/\P ((y4.1,y4.2.1,y4.2.2.1,y4.2.2.2.1,()),y4.2.2.2.1,()))/\(P ((y4.1,y4.2.1,y4.2.2.1,y4.2.2.2.1,()),y4.2.2.2.1,())/\P ((y4.1,y4.2.1,y4.2.2.1,y4.2.2.2.1,()),y4.2.2.2.1,()))/\P ((y4.1,y4.2.1,y4.2.2.1,y4.2.2.2.1,()),y4.2.2.2.1,()))/\(∃(y3:List Int),Cc.fn (p.1,())=some y3/\ ∃(y4:Bv),Da.fn ((p.1,p.2.1,p.2.2.1,()),y3,())=some y4/\((P ((y4.1,y4.2.1,y4.2.2.1,y4.2.2.2.1,()),y4.2.2.2.1,())/\P ((y4.1,y4.2.1,y4.2.2.1,y4.2.2.2.1,()),y4.2.2.2.1,()))/\P ((y4.1,y4.2.1,y4.2.2.1,y4.2.2.2.1,()),y4.2.2.2.1,()))/\(P ((y4.1,y4.2.1,y4.2.2.1,y4.2.2.2.1,()),y4.2.2.2.1,())/\P ((y4.1,y4.2.1,y4.2.2.1,y4.2.2.2.1,()),y4.2.2.2.1,()))/\P ((y4.1,y4.2.1,y4.2.2.1,y4.2.2.2.1,()),y4.2.2.2.1,()))/\(∃(y3:List Int),Cc.fn (p.1,())=some y3/\ ∃(y4:Bv),Da.fn ((p.1,p.2.1,p.2.2.1,()),y3,())=some y4/\((P ((y4.1,y4.2.1,y4.2.2.1,y4.2.2.2.1,()),y4.2.2.2.1,())/\P ((y4.1,y4.2.1,y4.2.2.1,y4.2.2.2.1,()),y4.2.2.2.1,()))/\P ((y4.1,y4.2.1,y4.2.2.1,y4.2.2.2.1,()),y4.2.2.2.1,()))/\(P ((y4.1,y4.2.1,y4.2.2.1,y4.2.2.2.1,()),y4.2.2.2.1,())/\P ((y4.1,y4.2.1,y4.2.2.1,y4.2.2.2.1,()),y4.2.2.2.1,()))/\P ((y4.1,y4.2.1,y4.2.2.1,y4.2.2.2.1,()),y4.2.2.2.1,()))/\ ∃(y3:List Int),Cc.fn (p.1,())=some y3/\ ∃(y4:Bv),Da.fn ((p.1,p.2.1,p.2.2.1,()),y3,())=some y4/\((P ((y4.1,y4.2.1,y4.2.2.1,y4.2.2.2.1,()),y4.2.2.2.1,())/\P ((y4.1,y4.2.1,y4.2.2.1,y4.2.2.2.1,()),y4.2.2.2.1,()))/\P ((y4.1,y4.2.1,y4.2.2.1,y4.2.2.2.1,()),y4.2.2.2.1,()))/\(P ((y4.1,y4.2.1,y4.2.2.1,y4.2.2.2.1,()),y4.2.2.2.1,())/\P ((y4.1,y4.2.1,y4.2.2.1,y4.2.2.2.1,()),y4.2.2.2.1,()))/\P ((y4.1,y4.2.1,y4.2.2.1,y4.2.2.2.1,()),y4.2.2.2.1,()))/\(∃(y3:List Int),Cc.fn (p.1,())=some y3/\ ∃(y4:Bv),Da.fn ((p.1,p.2.1,p.2.2.1,()),y3,())=some y4/\((P ((y4.1,y4.2.1,y4.2.2.1,y4.2.2.2.1,()),y4.2.2.2.1,())/\P ((y4.1,y4.2.1,y4.2.2.1,y4.2.2.2.1,()),y4.2.2.2.1,()))/\P ((y4.1,y4.2.1,y4.2.2.1,y4.2.2.2.1,()),y4.2.2.2.1,()))/\(P ((y4.1,y4.2.1,y4.2.2.1,y4.2.2.2.1,()),y4.2.2.2.1,())/\P ((y4.1,y4.2.1,y4.2.2.1,y4.2.2.2.1,()),y4.2.2.2.1,()))/\P ((y4.1,y4.2.1,y4.2.2.1,y4.2.2.2.1,()),y4.2.2.2.1,()))/\(∃(y3:List Int),Cc.fn (p.1,())=some y3/\ ∃(y4:Bv),Da.fn ((p.1,p.2.1,p.2.2.1,()),y3,())=some y4/\((P ((y4.1,y4.2.1,y4.2.2.1,y4.2.2.2.1,()),y4.2.2.2.1,())/\P ((y4.1,y4.2.1,y4.2.2.1,y4.2.2.2.1,()),y4.2.2.2.1,()))/\P ((y4.1,y4.2.1,y4.2.2.1,y4.2.2.2.1,()),y4.2.2.2.1,()))/\(P ((y4.1,y4.2.1,y4.2.2.1,y4.2.2.2.1,()),y4.2.2.2.1,())/\P ((y4.1,y4.2.1,y4.2.2.1,y4.2.2.2.1,()),y4.2.2.2.1,()))/\P ((y4.1,y4.2.1,y4.2.2.1,y4.2.2.2.1,()),y4.2.2.2.1,()))/\(∃(y3:List Int),Cc.fn (p.1,())=some y3/\ ∃(y4:Bv),Da.fn ((p.1,p.2.1,p.2.2.1,()),y3,())=some y4/\((P ((y4.1,y4.2.1,y4.2.2.1,y4.2.2.2.1,()),y4.2.2.2.1,())/\P ((y4.1,y4.2.1,y4.2.2.1,y4.2.2.2.1,()),y4.2.2.2.1,()))/\P ((y4.1,y4.2.1,y4.2.2.1,y4.2.2.2.1,()),y4.2.2.2.1,()))/\(P ((y4.1,y4.2.1,y4.2.2.1,y4.2.2.2.1,()),y4.2.2.2.1,())/\P ((y4.1,y4.2.1,y4.2.2.1,y4.2.2.2.1,()),y4.2.2.2.1,()))/\P ((y4.1,y4.2.1,y4.2.2.1,y4.2.2.2.1,()),y4.2.2.2.1,()))/\ ∃(y3:List Int),Cc.fn (p.1,())=some y3/\ ∃(y4:Bv),Da.fn ((p.1,p.2.1,p.2.2.1,()),y3,())=some y4/\((P ((y4.1,y4.2.1,y4.2.2.1,y4.2.2.2.1,()),y4.2.2.2.1,())/\P ((y4.1,y4.2.1,y4.2.2.1,y4.2.2.2.1,()),y4.2.2.2.1,()))/\P ((y4.1,y4.2.1,y4.2.2.1,y4.2.2.2.1,()),y4.2.2.2.1,()))/\(P ((y4.1,y4.2.1,y4.2.2.1,y4.2.2.2.1,()),y4.2.2.2.1,())/\P ((y4.1,y4.2.1,y4.2.2.1,y4.2.2.2.1,()),y4.2.2.2.1,()))/\P ((y4.1,y4.2.1,y4.2.2.1,y4.2.2.2.1,()),y4.2.2.2.1,())))=fnW Cy (look [(110,Fm),(124,Cc),(112,Da)]) Qy Try.f75 (p,()) P:=by kernel_rfl
theorem FF (p:Int×ByteArray×List (List Int)×Unit) (f:List (List Int)×List Int×List Int×Bool×Unit) (s:List Int) (P:Bool->Prop):(∃(y4:Bool),Tx.fn ((p.1,p.2.1,p.2.2.1,()),s,())=some y4/\Br y4 (∃(y5:Int),Kg.fn ((f.1,f.2.1,f.2.2.1,f.2.2.2.1,()),s,())=some y5/\P (decide (y5>=(0:Int)))) (P false))=fnW Cy (look [(103,Tx),(54,Kg)]) Tu Try.f53 (p,f,s,()) P:=by kernel_rfl
theorem tJ (p:Int×ByteArray×List (List Int)×Unit) (s:List Int) (P:Bool->Prop):(∃(y3:(List (List Int)×List Int×List Int×Bool×PUnit)×Bool×PUnit),Qy.fn ((p.1,p.2.1,p.2.2.1,()),())=some y3/\Br y3.2.1 (∃(y4:Bool),Tu.fn ((p.1,p.2.1,p.2.2.1,()),(y3.1.1,y3.1.2.1,y3.1.2.2.1,y3.1.2.2.2.1,()),s,())=some y4/\P y4) (P false))=fnW Cy (look [(75,Qy),(53,Tu)]) Lw Try.f63 (p,s,()) P:=by kernel_rfl
theorem CL {p:List Int} (h:Ud p):Fl p=true:=by
 refine Fw.2 ⟨h.pos,h.len,λj h1 h2=>?_⟩
 have:=h.row _ (List.getElem_mem h2)
 exact ⟨by omega,by omega,λhm=>by
  obtain ⟨i,hi,e⟩:=List.mem_iff_getElem.1 hm
  have fk:i<j:=by rw [List.length_take] at hi;omega
  rw [List.getElem_take] at e
  exact (List.pairwise_iff_getElem.1 h.nodup i j (by omega) h2 fk) e⟩
theorem Cl {p:PP} (hw:Bq p=true):Bd p=true/\(Dl p.2.2.1 (upto p.1.toNat)).2.2=true:=Bool.and_eq_true_iff.1 hw
theorem KF {p:PP} (hw:Bq p=true):Reach p (Ad p) (cj p) true:=by
 have h:=Ym (Cl hw).1
 rw [(Cl hw).2] at h
 exact h
theorem tb {p:PP} (hv:Bd p=true):Ok p p.1.toNat (Ad p) (cj p):=(Ym hv).ok
theorem HG {p:PP} (hV:Valid p):zz p.1.toNat λg=>some g∈p.2.2.1.map some:=
 ⟨by have:=hV.n;omega,λg Yz=>by obtain ⟨g',e,h⟩:=nf (fY hV).2.2 _ Yz;cases e;exact h⟩
theorem KG {p:PP} (hv:Bd p=true) {x:List Int} (hx:x∈Ad p):Pm p.1.toNat x:=Xj.pm (HG (valid hv)) ((Ym hv).gen x hx)
theorem VE {p:PP} (hV:Valid p) {x:List Int} (h:Pm p.1.toNat x):Eh p.1 x=true:=by
 have:=hV.n
 have:=h.1
 exact Fw.2 ⟨by omega,CL h.2⟩
theorem HF {p:PP} (_hV:Valid p) {x:List Int} (h:Eh p.1 x=true):Pm p.1.toNat x:=by
 obtain ⟨h1,h2⟩:=Fw.1 h
 exact ⟨by omega,fD h2⟩
theorem KE {p:PP} (hv:Bd p=true) {x:List Int} (hx:x∈Ad p):Eh p.1 x=true:=VE (valid hv) (KG hv hx)
theorem PA {p:PP} (hv:Bd p=true) {x:List Int} (hx:x∈Ad p):Pr x:= λy hy=>by
 have h1:=(tb hv).row x hx y hy
 have:=(valid hv).n
 omega
theorem OT {n:Nat} {x:List Int} (h:Pm n x):Pr x:= λy hy=>by
 have h1:=h.row y hy
 have:=h.n2
 omega
theorem JS {n:Nat} {x:List Int} (h:Pm n x):short x:=by
 have h1:=h.1
 have:=h.n2
 unfold short;omega
theorem ry {p:PP} (hw:Bq p=true):(Ji p).2.1=Ad p/\(Ji p).2.2.1=cj p:=by
 have h:=(Cl hw).2
 refine uG 3001 0 ([upto p.1.toNat],[0],[0],[0]) [] _ _ ?_
 show Gi p.2.2.1 (Ag p.2.2.1.length) 3001 0 [upto p.1.toNat] [0]=(Ad p,cj p,true)
 rw [<-h]
 rfl
theorem MT {p:PP} (hw:Bq p=true) {s:List Int} (hs:Pr s):(Ji p).2.2.2.1 (Mc s)=if s∈Ad p then some (((Ad p).idxOf s:Nat):Int) else none:=by
 show Rj (Ji p).2.1 (Mc s)=_
 rw [(ry hw).1,q7 hs λy hy=>PA (Cl hw).1 hy]
theorem UT (e:Option XP) (s:List Int) (h:(∃e':XP,e=some e'/\qR e')/\short s):fnW Cy (look [(141,Qu),(128,Eg)]) ju Try.f98 (e,s,()) (λ(z:Int×Bool×Unit)=>z=IX e s):=by
 obtain ⟨⟨e',rfl,h1,h2⟩,hs⟩:=h
 have hv:=(Cl h1).1
 refine Eq.mp (VT (some e') s _) ⟨e',rfl,_,if_pos hs,Br.of (λhb=>?_) λhb=>⟨e',rfl,_,if_pos hs,?_⟩⟩
 ·have hb:=Dh hb
  show (0,false,())=Vl e'.1 s
  unfold Vl
  rw [if_neg λhm=>hb (KE hv hm)]
 ·have hb:Eh e'.1.1 s=true:=by simpa using hb
  have hp:=HF (valid hv) hb
  dsimp only
  have e3:e'.2.2.2.1=(Ji e'.1).2.2.2.1:=by rw [<-h2]
  rw [e3,MT h1 (OT hp)]
  show _=Vl e'.1 s
  unfold Vl
  split<;>rfl
theorem z6:Sound Try.prog 98 ju:=
 Sound.Di Bx (Ah fI (Ah cN Ao)) mixed Try.func98 (by kernel_rfl) (by kernel_rfl) λx h=>UT x.1 x.2.1 h
theorem DE (p:PP) (s:List Int) (h:Dt p/\short s):fnW Cy (look [(80,Nz),(98,ju)]) Tt Try.f65 (p,s,()) (λ(z:Option XP×Int×Bool×Unit)=>z=Kk p s):=by
 unfold Kk
 by_cases hw:Bq p=true
 ·rw [if_pos hw]
  have he:Nz.fn ((p.1,p.2.1,p.2.2.1,()),())=some (some (Ji p),true,()):=(if_pos h.1).trans (congrArg some (if_pos hw))
  refine Eq.mp (qQ p s _) ⟨_,he,λhb=>by simp at hb,λ_=>⟨_,if_pos ⟨⟨Ji p,rfl,hw,rfl⟩,h.2⟩,?_⟩⟩
  rfl
 ·rw [if_neg hw]
  have he:Nz.fn ((p.1,p.2.1,p.2.2.1,()),())=some (none,false,()):=(if_pos h.1).trans (congrArg some (if_neg hw))
  exact Eq.mp (qQ p s _) ⟨_,he,λ_=>rfl,λhb=>by simp at hb⟩
theorem oZ:Sound Try.prog 65 Tt:=
 Sound.Di Bx (Ah p6 (Ah z6 Ao)) mixed Try.func65 (by kernel_rfl) (by kernel_rfl) λx h=>DE x.1 x.2.1 h
theorem UJ {s goal:List Int} (h:Gs s.length goal) {j:Nat} (hj:j<goal.length):0<=goal[j]/\goal[j]<s.length:=h _ (List.getElem_mem hj)
theorem UZ (x:Int) (s:List Int) (h:short s/\0<=x/\x<(s.length:Int)):fnW Cy (look []) jx Try.f151 (x,s,()) (λ(z:Bool)=>z=!decide (Ca s x=x)):=by
 obtain ⟨_,h1,h2⟩:=h
 obtain ⟨xn,rfl⟩:=Int.eq_ofNat_of_zero_le h1
 refine Eq.mp (VY (xn:Int) s _) ⟨_,Av (by omega),?_⟩
 have e:Ca s (xn:Int)=s[xn]'(by omega):=by unfold Ca;rw [Int.toNat_natCast,Cv]
 rw [e,Bool.eq_iff_iff]
 simp
theorem za:Sound Try.prog 151 jx:=
 Sound.Di Bx Ao mixed Try.func151 (by kernel_rfl) (by kernel_rfl) λx h=>UZ x.1 x.2.1 h
theorem Aav (xs:List Int) (c:List Int×Unit) (h:short xs/\short c.1/\Gs (List.length c.1) xs):fnW Cy (look [(151,jx)]) qE Try.f118 (xs,c,()) (λ(z:Int)=>z=Ck (λy=>!decide (Ca c.1 y=y)) xs 0):=by
 obtain ⟨h,h4,h5⟩:=h
 unfold short at h
 refine Eq.mp (Abj xs c _) ?_
 refine As xs.length (λv=>v.1) (λj _=>Ck (λy=>!decide (Ca c.1 y=y)) (xs.drop j) j=Ck (λy=>!decide (Ca c.1 y=y)) xs 0) rfl (by simp) ?_
 rintro j ⟨i,⟨⟩⟩ K hj hi hR hK
 dsimp only at hi⊢
 subst hi
 refine Br.dec (λhl=>?_) λhl=>?_
 ·have hl:j<xs.length:=by omega
  rw [List.drop_eq_getElem_cons hl] at hR
  simp only [Ck] at hR
  refine ⟨_,Av hl,_,if_pos ⟨h4,UJ h5 hl⟩,⟨λhe=>?_,λhe=>?_⟩⟩
  ·have he:(!decide (Ca c.1 xs[j]=xs[j]))=true:=he
   rw [if_pos he] at hR
   exact hR
  ·have he:(!decide (Ca c.1 xs[j]=xs[j]))=false:=he
   rw [if_neg (by rw [he];decide)] at hR
   rw [Ar (by omega)]
   exact hK hl _ rfl (by push_cast;exact hR)
 ·have:j=xs.length:=by omega
  subst this
  rw [List.drop_length] at hR
  exact hR
theorem EM:Sound Try.prog 118 qE:=
 Sound.Di Bx (Ah za Ao) mixed Try.func118 (by kernel_rfl) (by kernel_rfl) λx h=>Aav x.1 x.2.1 h
theorem Aan (xs:List Int) (c:List Int×Unit) (h:short xs/\short c.1/\Gs (List.length c.1) xs):fnW Cy (look [(118,qE)]) qy Try.f131 (xs,c,()) (λ(z:Bool)=>z=List.any xs (λy=>!decide (Ca c.1 y=y))):=by
 refine Eq.mp (Abb xs c _) ⟨_,if_pos h,?_⟩
 rw [Bool.eq_iff_iff,decide_eq_true_iff]
 exact cm _ xs 0 (Int.le_refl 0)
theorem EF:Sound Try.prog 131 qy:=
 Sound.Di Bx (Ah EM Ao) mixed Try.func131 (by kernel_rfl) (by kernel_rfl) λx h=>Aan x.1 x.2.1 h
theorem wa (g s:List Int) (h:short g/\short s/\Gs s.length g):fnW Cy (look [(131,qy)]) Ob Try.f121 (g,s,()) (λ(z:Bool)=>z=Wb g s):=by
 refine Eq.mp (wZ g s _) ⟨_,if_pos h,?_⟩
 dsimp only
 unfold Wb
 rw [List.any_eq_not_all_not,Bool.not_not]
 simp only [Bool.not_not]
theorem lb:Sound Try.prog 121 Ob:=
 Sound.Di Bx (Ah EF Ao) mixed Try.func121 (by kernel_rfl) (by kernel_rfl) λx h=>wa x.1 x.2.1 h
theorem iV {p:PP} {s:List Int} :Ri p s=true↔Bq p=true/\s∈Ad p:=by
 unfold Ri;rw [Bool.and_eq_true,decide_eq_true_iff]
theorem xK {p:PP} {s:List Int} :(Kk p s).2.2.1=Ri p s:=by
 unfold Kk Vl Ri
 by_cases hw:Bq p=true
 ·rw [if_pos hw,hw,Bool.true_and]
  by_cases hm:s∈Ad p
  ·rw [if_pos hm,decide_eq_true hm]
  ·rw [if_neg hm,decide_eq_false hm]
 ·rw [if_neg hw,Bool.not_eq_true _|>.mp hw,Bool.false_and]
theorem yF (p:PP) (h:Dt p):fnW Cy (look [(110,Fm),(124,Cc),(112,Da)]) Qy Try.f75 (p,()) (λ(z:SS×Bool×Unit)=>z=Zy p):=by
 refine Eq.mp (zu p _) ⟨_,if_pos h,?_⟩
 show Br (!Bd p) _ _
 unfold Zy
 by_cases hv:Bd p=true
 ·rw [if_pos hv,hv]
  refine ⟨λhb=>by simp at hb,λ_=>?_⟩
  have hn:=(valid hv).n
  have hid:Cc.fn (p.1,())=some (upto p.1.toNat):=if_pos ⟨by show 0<=p.1;omega,by show p.1<=20;omega⟩
  have RP: ∀y∈upto p.1.toNat,0<=y/\y<p.1:= λy hy=>by have:=Ih.1 hy;omega
  have uW:Da.fn ((p.1,p.2.1,p.2.2.1,()),upto p.1.toNat,())=some (Dc p.2.2.1 (upto p.1.toNat)):=if_pos ⟨hv,by show (upto p.1.toNat).length<=20;rw [Pn];omega,RP⟩
  have hz:(((Dc p.2.2.1 (upto p.1.toNat)).1,(Dc p.2.2.1 (upto p.1.toNat)).2.1,(Dc p.2.2.1 (upto p.1.toNat)).2.2.1,(Dc p.2.2.1 (upto p.1.toNat)).2.2.2.1,()),(Dc p.2.2.1 (upto p.1.toNat)).2.2.2.1,())=(Dc p.2.2.1 (upto p.1.toNat),Bq p,()):=by
   unfold Bq
   rw [hv,Bool.true_and]
   rfl
  repeat' (first|exact hz|refine ⟨_,hid,?_⟩|refine ⟨_,uW,?_⟩|refine ⟨?_,?_⟩)
 ·rw [if_neg hv]
  refine ⟨λ_=>rfl,λhb=>?_⟩
  exact absurd (by simpa using hb) hv
theorem nI:Sound Try.prog 75 Qy:=
 Sound.Di Bx (Ah Ra (Ah nC (Ah kE Ao))) mixed Try.func75 (by kernel_rfl) (by kernel_rfl) λx h=>yF x.1 h
theorem DG (p:PP) (f:SS) (s:List Int) (h:Dt p/\short s/\Bd p=true/\f=Dc p.2.2.1 (upto p.1.toNat)):fnW Cy (look [(103,Tx),(54,Kg)]) Tu Try.f53 (p,f,s,()) (λ(z:Bool)=>z=decide (s∈Ad p)):=by
 obtain ⟨hp,hs,hv,rfl⟩:=h
 refine Eq.mp (FF p _ s _) ⟨_,if_pos ⟨hp,hs⟩,?_⟩
 show Br (Bd p&&Eh p.1 s) _ _
 rw [hv,Bool.true_and]
 refine Br.of (λhb=>?_) λhb=>?_
 ·have CD:=HF (valid hv) hb
  refine ⟨_,if_pos (by show Ct s.length (Ad p) (Sx (Ad p));rw [CD.1];exact (tb hv).ok),?_⟩
  show decide (aU (Ad p) s>=0)=_
  unfold aU
  split
  ·rename_i hm
   rw [decide_eq_true hm]
   exact decide_eq_true (by omega)
  ·rename_i hm
   rw [decide_eq_false hm]
   rfl
 ·exact (decide_eq_false λhm=>by rw [KE hv hm] at hb;cases hb).symm
theorem p7:Sound Try.prog 53 Tu:=
 Sound.Di Bx (Ah ig (Ah ay Ao)) mixed Try.func53 (by kernel_rfl) (by kernel_rfl) λx h=>DG x.1 x.2.1 x.2.2.1 h
theorem sv (p:PP) (s:List Int) (h:Dt p/\short s):fnW Cy (look [(75,Qy),(53,Tu)]) Lw Try.f63 (p,s,()) (λ(z:Bool)=>z=Ri p s):=by
 refine Eq.mp (tJ p s _) ⟨_,if_pos h.1,?_⟩
 dsimp only
 unfold Ri Zy
 by_cases hv:Bd p=true
 ·rw [if_pos hv]
  show Br (Bq p) _ _
  refine Br.of (λhw=>?_) λhw=>by rw [hw,Bool.false_and]
  rw [hw,Bool.true_and]
  exact ⟨_,if_pos ⟨h.1,h.2,hv,rfl⟩,rfl⟩
 ·rw [if_neg hv]
  refine ⟨λhb=>by simp at hb,λ_=>?_⟩
  have:Bq p=false:=by unfold Bq;rw [Bool.not_eq_true _|>.mp hv,Bool.false_and]
  rw [this,Bool.false_and]
theorem jF:Sound Try.prog 63 Lw:=
 Sound.Di Bx (Ah nI (Ah p7 Ao)) mixed Try.func63 (by kernel_rfl) (by kernel_rfl) λx h=>sv x.1 x.2.1 h
theorem GR {b:Bool} (h:(!b)=true):b=false:=by cases b<;>simp_all
theorem nL {p:PP} (hv:Bd p=true):(Ad p).length<=3000:=(tb hv).ok.o3
theorem dx {p:PP} {t s:List Int} (hv:Bd p=true) (hs:s∈Ad p) (ht:Cm p t=true):Gs s.length t:=by
 have h1:=(KG hv hs).1
 have hn:=(valid hv).n
 intro y hy
 have:=(Fg ht).2 y hy
 omega
end Go.Proofs.Ytjbdmibbbpdnnaa

namespace Go.Proofs.Ytjbdmibbbpdnnaa
open Go.RowKit
theorem MW {p:PP} (hv:Bd p=true) {g s:List Int} (hs:Pm p.1.toNat s) (hg:Gd p.1 g=true):Gs s.length g:=by
 have h1:=hs.1
 have hn:=(valid hv).n
 have h2:=Fg (p:=p) (t:=g) (Ik.2 ⟨hv,hg⟩)
 intro y hy
 have:=h2.2 y hy
 omega
end Go.Proofs.Ytjbdmibbbpdnnaa

namespace Go.Proofs.Ytjbdmibbbpdnnaa
open Go.RowKit
theorem map_take {α β:Type} (f:α->β) {xs:List α} {j:Nat} (h:j<xs.length):(xs.take (j+1)).map f=(xs.take j).map f++ [f xs[j]]:=by
 rw [List.take_add_one,List.getElem?_eq_getElem h,List.map_append];rfl
theorem Aaf {p:PP} {s:List Int} (h:s∈Ad p):0<=(Vl p s).1/\(Vl p s).1<(Ad p).length/\(Ad p).getD (Vl p s).1.toNat []=s:=by
 unfold Vl
 rw [if_pos h]
 have h1:=List.idxOf_lt_length_of_mem h
 refine ⟨Int.natCast_nonneg _,by show ((List.idxOf s (Ad p):Nat):Int)<_;omega,?_⟩
 show (Ad p).getD ((List.idxOf s (Ad p):Nat):Int).toNat []=s
 rw [Int.toNat_natCast,Cv h1]
 exact List.getElem_idxOf h1
theorem KH {p:PP} (hv:Bd p=true):1<=(Ad p).length:=by
 obtain ⟨A,h⟩:=(Ym hv).first
 show 1<=(Dl p.2.2.1 (upto p.1.toNat)).1.length
 rw [h];simp
end Go.Proofs.Ytjbdmibbbpdnnaa
