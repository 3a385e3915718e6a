/-
  Part 42 of the proof that the statement FnExactPhaseTwoWord holds.
-/
import Derived.Test.YtjbdmibbbpdnnaaCPhaseTwoWord40
namespace Go.Proofs.Ytjbdmibbbpdnnaa
open Go.RowKit
def ap (p:List Int) (i:Nat):Nat:=(Bw p (i:Int)).toNat
def Pm (n:Nat) (p:List Int):Prop:=p.length=n/\Up p
theorem Pm.n1 {n:Nat} {p:List Int} (h:Pm n p):1<=n:=h.1▸h.2.pos
theorem Pm.n2 {n:Nat} {p:List Int} (h:Pm n p):n<=20:=h.1▸h.2.len
theorem Pm.Oq {n:Nat} {p:List Int} (h:Pm n p) {i:Nat} (hi:i<n):Bw p (i:Int)=(ap p i:Int)/\ap p i<n:=by
 have ek:i<p.length:=by rw [h.1];exact hi
 have:=h.2.row _ (List.getElem_mem ek)
 unfold ap
 rw [Ie ek]
 have h1:=h.1
 omega
theorem Pm.lt {n:Nat} {p:List Int} (h:Pm n p) {i:Nat} (hi:i<n):ap p i<n:=(h.Oq hi).2
theorem Pm.ext {n:Nat} {p q:List Int} (h:Pm n p) (k:Pm n q) (e: ∀i,i<n->ap p i=ap q i):p=q:=by
 refine List.ext_getElem (by rw [h.1,k.1]) λi h1 h2=>?_
 have hi:i<n:=by rw [<-h.1];exact h1
 have a:=(h.Oq hi).1
 have b:=(k.Oq hi).1
 rw [Ie h1] at a
 rw [Ie h2] at b
 rw [a,b,e i hi]
theorem Pm.inj {n:Nat} {p:List Int} (h:Pm n p) {i j:Nat} (hi:i<n) (hj:j<n) (e:ap p i=ap p j):i=j:=
 h.2.inj i j (by rw [h.1];exact hi) (by rw [h.1];exact hj) e
theorem Pm.IQ {n:Nat} {p:List Int} (h:Pm n p) {k:Nat} (hk:k<n): ∃i,i<n/\ap p i=k:=by
 obtain ⟨i,h1,h2⟩:=h.2.IQ k (by rw [h.1];exact hk)
 exact ⟨i,by rw [<-h.1];exact h1,h2⟩
theorem Pm.of {n:Nat} {p:List Int} (hl:p.length=n) (h1:1<=n) (h2:n<=20) (f:Nat->Nat) (hf: ∀i,i<n->p[i]?=some (f i:Int)/\f i<n) (hi: ∀i j,i<n->j<n->f i=f j->i=j):Pm n p:=by
 refine ⟨hl,by omega,by omega,λy hy=>?_,?_⟩
 ·obtain ⟨i,hi,rfl⟩:=List.mem_iff_getElem.1 hy
  obtain ⟨h3,h4⟩:=hf i (by omega)
  rw [List.getElem?_eq_getElem hi] at h3
  rw [Option.some.inj h3]
  omega
 ·refine List.pairwise_iff_getElem.2 λi j h3 h4 h5 h6=>?_
  have a:=(hf i (by omega)).1
  have b:=(hf j (by omega)).1
  rw [List.getElem?_eq_getElem h3] at a
  rw [List.getElem?_eq_getElem h4] at b
  rw [Option.some.inj a,Option.some.inj b] at h6
  have:=hi i j (by omega) (by omega) (by omega)
  omega
theorem um {n:Nat} {p q:List Int} (hp:Pm n p) (hq:Pm n q) {i:Nat} (hi:i<n):(Aa p q)[i]?=some (ap q (ap p i):Int):=by
 have h1:i<p.length:=by rw [hp.1];exact hi
 unfold Aa
 rw [List.getElem?_map,List.getElem?_eq_getElem h1]
 have a:=(hp.Oq hi).1
 rw [Ie h1] at a
 simp only [Option.map_some,a]
 rw [(hq.Oq (hp.Oq hi).2).1]
theorem Pm.comp {n:Nat} {p q:List Int} (hp:Pm n p) (hq:Pm n q):Pm n (Aa p q):=
 Pm.of (by rw [Nw,hp.1]) hp.n1 hp.n2 (λi=>ap q (ap p i)) (λi hi=>⟨um hp hq hi,hq.lt (hp.lt hi)⟩) λi j hi hj e=>hp.inj hi hj (hq.inj (hp.lt hi) (hp.lt hj) e)
theorem GC {p:List Int} {i k:Nat} (h:p[i]?=some (k:Int)):ap p i=k:=by
 unfold ap Bw
 rw [Int.toNat_natCast,List.getD_eq_getElem?_getD,h]
 simp
theorem Ft {n:Nat} {p q:List Int} (hp:Pm n p) (hq:Pm n q) {i:Nat} (hi:i<n):ap (Aa p q) i=ap q (ap p i):=GC (um hp hq hi)
theorem wP {n i:Nat} (hi:i<n):(upto n)[i]?=some (i:Int):=by simp [upto,hi]
theorem dV {n i:Nat} (hi:i<n):ap (upto n) i=i:=GC (wP hi)
theorem Pm.id {n:Nat} (h1:1<=n) (h2:n<=20):Pm n (upto n):=Pm.of (by simp [upto]) h1 h2 (λi=>i) (λi hi=>⟨wP hi,hi⟩) λ_ _ _ _ e=>e
theorem AK {n:Nat} {p:List Int} (hp:Pm n p) {i:Nat} (hi:i<n):(Am p)[ap p i]?=some (i:Int):=HW hp.2 (by rw [hp.1];exact hi)
theorem dq {n:Nat} {p:List Int} (hp:Pm n p) {i:Nat} (hi:i<n):ap (Am p) (ap p i)=i:=GC (AK hp hi)
theorem r8 {n:Nat} {p:List Int} (hp:Pm n p) {k:Nat} (hk:k<n):ap p (ap (Am p) k)=k:=by
 obtain ⟨i,hi,rfl⟩:=hp.IQ hk
 rw [dq hp hi]
theorem Pm.inv {n:Nat} {p:List Int} (hp:Pm n p):Pm n (Am p):=by
 refine Pm.of (by rw [lE,hp.1]) hp.n1 hp.n2 (λk=>ap (Am p) k) (λk hk=>?_) λi j hi hj e=>?_
 ·obtain ⟨i,hi,rfl⟩:=hp.IQ hk
  rw [dq hp hi]
  exact ⟨AK hp hi,hi⟩
 ·rw [<-r8 hp hi,<-r8 hp hj,e]
theorem Dz {n:Nat} {p q r:List Int} (hp:Pm n p) (hq:Pm n q) (hr:Pm n r):Aa (Aa p q) r=Aa p (Aa q r):=
 ((hp.comp hq).comp hr).ext (hp.comp (hq.comp hr)) λi hi=>by rw [Ft (hp.comp hq) hr hi,Ft hp hq hi,Ft hp (hq.comp hr) hi,Ft hq hr (hp.lt hi)]
theorem comp_id {n:Nat} {p:List Int} (hp:Pm n p):Aa p (upto n)=p:=
 (hp.comp (Pm.id hp.n1 hp.n2)).ext hp λi hi=>by rw [Ft hp (Pm.id hp.n1 hp.n2) hi,dV (hp.lt hi)]
theorem id_comp {n:Nat} {p:List Int} (hp:Pm n p):Aa (upto n) p=p:=
 ((Pm.id hp.n1 hp.n2).comp hp).ext hp λi hi=>by rw [Ft (Pm.id hp.n1 hp.n2) hp hi,dV hi]
theorem bQ {n:Nat} {p:List Int} (hp:Pm n p):Aa p (Am p)=upto n:=
 (hp.comp hp.inv).ext (Pm.id hp.n1 hp.n2) λi hi=>by rw [Ft hp hp.inv hi,dq hp hi,dV hi]
theorem Vf {n:Nat} {p:List Int} (hp:Pm n p):Aa (Am p) p=upto n:=
 (hp.inv.comp hp).ext (Pm.id hp.n1 hp.n2) λi hi=>by rw [Ft hp.inv hp hi,r8 hp hi,dV hi]
theorem mK {n:Nat} {p q:List Int} (hp:Pm n p) (hq:Pm n q) (h:Aa p q=upto n):Am p=q:=by
 rw [<-comp_id hp.inv,<-h,<-Dz hp.inv hp hq,Vf hp,id_comp hq]
theorem inv_mul {n:Nat} {p q:List Int} (hp:Pm n p) (hq:Pm n q):Am (Aa p q)=Aa (Am q) (Am p):=
 mK (hp.comp hq) (hq.inv.comp hp.inv) (by
  rw [Dz hp hq (hq.inv.comp hp.inv),<-Dz hq hq.inv hp.inv,bQ hq,id_comp hp.inv,bQ hp])
theorem inv_inv {n:Nat} {p:List Int} (hp:Pm n p):Am (Am p)=p:=mK hp.inv hp (Vf hp)
theorem HX {n:Nat} (h1:1<=n) (h2:n<=20):Am (upto n)=upto n:=mK (Pm.id h1 h2) (Pm.id h1 h2) (comp_id (Pm.id h1 h2))
inductive Xs (n:Nat) (S:List Int->Prop):List Int->Prop where
 |id:Xs n S (upto n)
 |mul {p g:List Int} :Xs n S p->S g->Xs n S (Aa p g)
 |inv {p g:List Int} :Xs n S p->S g->Xs n S (Aa p (Am g))
def zA (n:Nat) (S:List Int->Prop):Prop:=(1<=n/\n<=20)/\ ∀g,S g->Pm n g
theorem Xs.pm {n:Nat} {S:List Int->Prop} (hS:zA n S) {p:List Int} (h:Xs n S p):Pm n p:=by
 induction h with
 |id=>exact Pm.id hS.1.1 hS.1.2
 |mul _ hg ih=>exact ih.comp (hS.2 _ hg)
 |inv _ hg ih=>exact ih.comp (hS.2 _ hg).inv
theorem Xs.comp {n:Nat} {S:List Int->Prop} (hS:zA n S) {p q:List Int} (hp:Xs n S p) (hq:Xs n S q):Xs n S (Aa p q):=by
 induction hq with
 |id=>rw [comp_id (hp.pm hS)];exact hp
 |mul hq hg ih=>rw [<-Dz (hp.pm hS) (hq.pm hS) (hS.2 _ hg)];exact .mul ih hg
 |inv hq hg ih=>rw [<-Dz (hp.pm hS) (hq.pm hS) (hS.2 _ hg).inv];exact .inv ih hg
theorem Xs.one {n:Nat} {S:List Int->Prop} (hS:zA n S) {g:List Int} (hg:S g):Xs n S g:=by
 have:=Xs.mul (n:=n) (S:=S) .id hg
 rwa [id_comp (hS.2 g hg)] at this
theorem Xs.TQ {n:Nat} {S:List Int->Prop} (hS:zA n S) {g:List Int} (hg:S g):Xs n S (Am g):=by
 have:=Xs.inv (n:=n) (S:=S) .id hg
 rwa [id_comp (hS.2 g hg).inv] at this
theorem Xs.rS {n:Nat} {S:List Int->Prop} (hS:zA n S) {p:List Int} (hp:Xs n S p):Xs n S (Am p):=by
 induction hp with
 |id=>rw [HX hS.1.1 hS.1.2];exact .id
 |mul hq hg ih=>rw [inv_mul (hq.pm hS) (hS.2 _ hg)];exact (Xs.TQ hS hg).comp hS ih
 |inv hq hg ih=>rw [inv_mul (hq.pm hS) (hS.2 _ hg).inv,inv_inv (hS.2 _ hg)];exact (Xs.one hS hg).comp hS ih
theorem Xs.trans {n:Nat} {S S':List Int->Prop} (WV:zA n S') (h: ∀g,S g->Xs n S' g) {p:List Int} (hp:Xs n S p):Xs n S' p:=by
 induction hp with
 |id=>exact .id
 |mul _ hg ih=>exact ih.comp WV (h _ hg)
 |inv _ hg ih=>exact ih.comp WV ((h _ hg).rS WV)
abbrev PO:=Option (List Int)
abbrev Row:=List PO
abbrev Dc:=List Row
def Hv (row:Row):List Int:=(upto row.length).filter λy=>(row.getD y.toNat none).isSome
def Iy (T:Dc):Nat->Nat->List Int->Bool
 |0,_,_=>true
 |k+1,i,p=>match (T.getD i []).getD (Bw p (i:Int)).toNat none with
  |none=>false
  |some t=>Iy T k (i+1) (Aa p (Am t))
def Ll (row:Row):Nat:=row.countP (·.isNone)
def Tm (x:Int) (s:Row×List Int) (o:PO):Row×List Int:=
 match s.1.getD (Bw (o.getD []) x).toNat none with
 |some _=>s
 |none=>(s.1.set (Bw (o.getD []) x).toNat (some (Aa ((s.1.getD x.toNat none).getD []) (o.getD []))),s.2++ [Bw (o.getD []) x])
def Te (x:Int) (gs:List PO) (s:Row×List Int):Row×List Int:=gs.foldl (Tm x) s
def Sw (gs:List PO):Nat->List Int->Row->Row
 |0,_,row=>row
 |_+1,[],row=>row
 |f+1,x::q,row=>Sw gs f (Te x gs (row,q)).2 (Te x gs (row,q)).1
def Rt (gs:List PO) (row:Row):Row:=Sw gs 100 (Hv row) row
def Nb (row:Row) (y:Int) (g:PO):List Int:=
 Aa (Aa ((row.getD y.toNat none).getD []) (g.getD [])) (Am ((row.getD (Bw (g.getD []) y).toNat none).getD []))
def bh (row:Row) (gs:List PO):List (List Int):=(Hv row).flatMap λy=>gs.map λg=>Nb row y g
def Dr:Nat->Nat->List Int->Dc×Dc->Dc×Dc
 |0,_,_,s=>s
 |k+1,l,p,s=>
  if Iy s.2 (k+1) l p=true then s else
   (bh (Rt (s.1.getD l []++ [some p]) (s.2.getD l [])) (s.1.getD l []++ [some p])).foldl (λs q=>Dr k (l+1) q s)
    (s.1.set l (s.1.getD l []++ [some p]),s.2.set l (Rt (s.1.getD l []++ [some p]) (s.2.getD l [])))
def Fx (l:Nat) (p:List Int):Prop:= ∀i,i<l->ap p i=i
def Gn (n:Nat) (gs:List PO):List Int->Prop:=Xs n λg=>some g∈gs
structure LP (n l:Nat) (gs:List PO) (row:Row) (H:List Int->Prop):Prop where
 pg: ∀o∈gs,∃g,o=some g/\Pm n g/\Fx l g
 rl:row.length=n
 r0:row.getD l none=some (upto n)
 rt: ∀y t,row.getD y none=some t->Pm n t/\Fx l t/\ap t l=y/\Gn n gs t
 cl: ∀y t g,row.getD y none=some t->some g∈gs->row.getD (ap g y) none≠none
 sg: ∀y t g t',row.getD y none=some t->some g∈gs->row.getD (ap g y) none=some t'->H (Aa (Aa t g) (Am t'))
def fa (n:Nat):Nat->Nat->Dc×Dc->Prop
 |0,l,s=>s.1.getD l []= []
 |k+1,l,s=>fa n k (l+1) s/\LP n l (s.1.getD l []) (s.2.getD l []) (λq=>Iy s.2 k (l+1) q=true)/\ ∀g,some g∈s.1.getD (l+1) []->Gn n (s.1.getD l []) g
theorem OE {l1 l2:List Nat} (hn:l1.Nodup) (hs: ∀x∈l1,x∈l2) (hl:l2.length<=l1.length): ∀x∈l2,x∈l1:=by
 induction l1 generalizing l2 with
 |nil=>
  intro x hx
  have:l2= []:=List.eq_nil_of_length_eq_zero (by simpa using hl)
  rw [this] at hx;cases hx
 |cons a l ih=>
  intro x hx
  obtain ⟨h1,h2⟩:=List.nodup_cons.1 hn
  have ha:=hs a (by simp)
  by_cases e:x=a
  ·subst e;simp
  ·refine List.mem_cons_of_mem _ (ih (l2:=l2.erase a) h2 (λy hy=>?_) ?_ x ((List.mem_erase_of_ne e).2 hx))
   ·have hya:y≠a:= λe'=>h1 (by rw [<-e'];exact hy)
    exact (List.mem_erase_of_ne hya).2 (hs y (by simp [hy]))
   ·rw [List.length_erase_of_mem ha]
    simp only [List.length_cons] at hl
    omega
theorem yC {n:Nat} {g:List Int} (hg:Pm n g) (D:Nat->Bool) (h: ∀y,y<n->D y=true->D (ap g y)=true) {y:Nat} (hy:y<n) (hD:D y=true): ∃x,x<n/\D x=true/\ap g x=y:=by
 have:=OE (l1:=((List.range n).filter D).map (ap g)) (l2:=(List.range n).filter D) ?_ ?_ (by simp) y (List.mem_filter.2 ⟨List.mem_range.2 hy,hD⟩)
 ·obtain ⟨x,hx,e⟩:=List.mem_map.1 this
  obtain ⟨h1,h2⟩:=List.mem_filter.1 hx
  exact ⟨x,List.mem_range.1 h1,h2,e⟩
 ·refine List.pairwise_map.2 (List.Pairwise.imp_of_mem ?_ (List.nodup_range.filter D))
  intro a b ha hb Ff e
  exact Ff (hg.inj (List.mem_range.1 (List.mem_filter.1 ha).1) (List.mem_range.1 (List.mem_filter.1 hb).1) e)
 ·intro x hx
  obtain ⟨z,hz,rfl⟩:=List.mem_map.1 hx
  obtain ⟨h1,h2⟩:=List.mem_filter.1 hz
  exact List.mem_filter.2 ⟨List.mem_range.2 (hg.lt (List.mem_range.1 h1)),h z (List.mem_range.1 h1) h2⟩
theorem lz {row:Row} {y:Nat} {t:List Int} (h:row.getD y none=some t):y<row.length:=by
 rw [List.getD_eq_getElem?_getD] at h
 refine Classical.byContradiction λhn=>?_
 rw [List.getElem?_eq_none (by omega)] at h
 cases h
theorem LP.pms {n l:Nat} {gs:List PO} {row:Row} {H:List Int->Prop} (h:LP n l gs row H):zA n λg=>some g∈gs:=by
 refine ⟨?_,λg hg=>?_⟩
 ·have:=(h.rt l _ h.r0).1
  exact ⟨this.n1,this.n2⟩
 ·obtain ⟨g',e,h1,_⟩:=h.pg _ hg
  cases e;exact h1
theorem Fx.inv {n l:Nat} {p:List Int} (hp:Pm n p) (h:Fx l p) (hl:l<=n):Fx l (Am p):= λi hi=>by
 have:=dq hp (i:=i) (by omega)
 rwa [h i hi] at this
theorem Fx.comp {n l:Nat} {p q:List Int} (hp:Pm n p) (hq:Pm n q) (h1:Fx l p) (h2:Fx l q) (hl:l<=n):Fx l (Aa p q):= λi hi=>by
 rw [Ft hp hq (by omega),h1 i hi,h2 i hi]
theorem Fx.all {n:Nat} {p:List Int} (hp:Pm n p) (h:Fx n p):p=upto n:=hp.ext (Pm.id hp.n1 hp.n2) λi hi=>by rw [h i hi,dV hi]
theorem Fx.div {n l:Nat} {p t:List Int} (hp:Pm n p) (ht:Pm n t) (h1:Fx l p) (h2:Fx l t) (hl:l<n) (e:ap t l=ap p l):Fx (l+1) (Aa p (Am t)):= λi hi=>by
 rw [Ft hp ht.inv (by omega)]
 by_cases LD:i<l
 ·rw [h1 i LD];exact h2.inv ht (by omega) i LD
 ·have:i=l:=by omega
  subst this
  rw [<-e,dq ht hl]
theorem gN {n:Nat} (h1:1<=n) (h2:n<=20): ∀(k l:Nat) (s:Dc×Dc),l+k=n->fa n k l s-> ∀p,Pm n p->Fx l p->(Iy s.2 k l p=true↔Gn n (s.1.getD l []) p)
 |0,l,s,hk,hc,p,hp,hf=>by
  have hl:l=n:=by omega
  subst hl
  rw [hf.all hp]
  exact ⟨λ_=> .id,λ_=>rfl⟩
 |k+1,l,s,hk,hc,p,hp,hf=>by
  obtain ⟨c1,c2,c3⟩:=hc
  have hS:=c2.pms
  have ih:=gN h1 h2 k (l+1) s (by omega) c1
  have hS1:zA n λg=>some g∈s.1.getD (l+1) []:=⟨⟨h1,h2⟩,λg hg=>(c3 g hg).pm hS⟩
  have Yk:l<n:=by omega
  constructor
  ·intro h
   simp only [Iy] at h
   rw [show (Bw p (l:Int)).toNat=ap p l from rfl] at h
   split at h
   ·cases h
   ·rename_i t ht
    obtain ⟨t1,t2,t3,t4⟩:=c2.rt _ _ ht
    have PT:=Fx.div hp t1 hf t2 Yk t3
    have hg:=((ih _ (hp.comp t1.inv) PT).1 h).trans hS c3
    have:=Xs.comp hS hg t4
    rwa [Dz hp t1.inv t1,Vf t1,comp_id hp] at this
  ·intro h
   have key: ∀q,Gn n (s.1.getD l []) q-> ∃t,(s.2.getD l []).getD (ap q l) none=some t/\Gn n (s.1.getD (l+1) []) (Aa q (Am t)):=by
    intro q hq
    induction hq with
    |id=>
     refine ⟨upto n,by rw [dV Yk];exact c2.r0,?_⟩
     rw [HX h1 h2,comp_id (Pm.id h1 h2)]
     exact .id
    | @mul q g hq hg ihq=>
     obtain ⟨t,e1,e2⟩:=ihq
     have QG:=Xs.pm hS hq
     have Qb:=hS.2 _ hg
     obtain ⟨t1,t2,t3,t4⟩:=c2.rt _ _ e1
     cases e3:(s.2.getD l []).getD (ap g (ap q l)) none with
     |none=>exact absurd e3 (c2.cl _ _ _ e1 hg)
     |some t'=>
      obtain ⟨u1,u2,u3,u4⟩:=c2.rt _ _ e3
      have hsg:=c2.sg _ _ _ _ e1 hg e3
      have hfg:Fx (l+1) (Aa (Aa t g) (Am t')):=Fx.div (t1.comp Qb) u1 (Fx.comp t1 Qb t2 (by obtain ⟨g',e,_,h⟩:=c2.pg _ hg;cases e;exact h) (by omega)) u2 Yk (by rw [u3,Ft t1 Qb Yk,t3])
      have SC:=(ih _ ((t1.comp Qb).comp u1.inv) hfg).1 hsg
      refine ⟨t',by rw [Ft QG Qb Yk];exact e3,?_⟩
      have:=Xs.comp hS1 e2 SC
      rwa [show Aa (Aa q (Am t)) (Aa (Aa t g) (Am t'))=Aa (Aa q g) (Am t') by
       rw [Dz QG t1.inv ((t1.comp Qb).comp u1.inv),Dz t1 Qb u1.inv,<-Dz t1.inv t1 (Qb.comp u1.inv),Vf t1,id_comp (Qb.comp u1.inv),Dz QG Qb u1.inv]] at this
    | @inv q g hq hg ihq=>
     obtain ⟨t,e1,e2⟩:=ihq
     have QG:=Xs.pm hS hq
     have Qb:=hS.2 _ hg
     obtain ⟨t1,t2,t3,t4⟩:=c2.rt _ _ e1
     have hy:ap q l<n:=QG.lt Yk
     obtain ⟨x,hx,hD,he⟩:=yC Qb (λy=>((s.2.getD l []).getD y none).isSome) (λy hy hd=>by
      obtain ⟨t0,NA⟩:=Option.isSome_iff_exists.1 hd
      exact Option.ne_none_iff_isSome.1 (c2.cl _ _ _ NA hg)) hy (by rw [e1];rfl)
     obtain ⟨t',e3⟩:=Option.isSome_iff_exists.1 hD
     obtain ⟨u1,u2,u3,u4⟩:=c2.rt _ _ e3
     have hsg:=c2.sg _ _ _ _ e3 hg (by rw [he];exact e1)
     have hfg:Fx (l+1) (Aa (Aa t' g) (Am t)):=Fx.div (u1.comp Qb) t1 (Fx.comp u1 Qb u2 (by obtain ⟨g',e,_,h⟩:=c2.pg _ hg;cases e;exact h) (by omega)) t2 Yk (by rw [t3,Ft u1 Qb Yk,u3,he])
     have SC:=Xs.rS hS1 ((ih _ ((u1.comp Qb).comp t1.inv) hfg).1 hsg)
     have hax:ap (Am g) (ap q l)=x:=by rw [<-he,dq Qb hx]
     refine ⟨t',by rw [Ft QG Qb.inv Yk,hax];exact e3,?_⟩
     have:=Xs.comp hS1 e2 SC
     rwa [show Aa (Aa q (Am t)) (Am (Aa (Aa t' g) (Am t)))=Aa (Aa q (Am g)) (Am t') by
      rw [inv_mul (u1.comp Qb) t1.inv,inv_inv t1,inv_mul u1 Qb,Dz QG t1.inv (t1.comp (Qb.inv.comp u1.inv)),<-Dz t1.inv t1 (Qb.inv.comp u1.inv),Vf t1,id_comp (Qb.inv.comp u1.inv),Dz QG Qb.inv u1.inv]] at this
   obtain ⟨t,e1,e2⟩:=key p h
   obtain ⟨t1,t2,t3,t4⟩:=c2.rt _ _ e1
   simp only [Iy]
   rw [show (Bw p (l:Int)).toNat=ap p l from rfl,e1]
   exact (ih _ (hp.comp t1.inv) (Fx.div hp t1 hf t2 Yk t3)).2 e2
end Go.Proofs.Ytjbdmibbbpdnnaa

namespace Go.Proofs.Ytjbdmibbbpdnnaa
open Go.RowKit
theorem Qo {α:Type} (xs:List α) (i j:Nat) (x d:α):(xs.set i x).getD j d=if i=j/\i<xs.length then x else xs.getD j d:=by
 rw [List.getD_eq_getElem?_getD,List.getElem?_set,List.getD_eq_getElem?_getD]
 by_cases e:i=j
 ·subst e
  by_cases h:i<xs.length
  ·rw [if_pos rfl,if_pos h,if_pos ⟨rfl,h⟩];rfl
  ·rw [if_pos rfl,if_neg h,if_neg (λhh=>h hh.2),List.getElem?_eq_none (by omega)]
 ·rw [if_neg e,if_neg (λhh=>e hh.1)]
theorem Xs.mono {n:Nat} {S S':List Int->Prop} (h: ∀g,S g->S' g) {p:List Int} (hp:Xs n S p):Xs n S' p:=by
 induction hp with
 |id=>exact .id
 |mul _ hg ih=>exact .mul ih (h _ hg)
 |inv _ hg ih=>exact .inv ih (h _ hg)
structure Rw (n l:Nat) (gs:List PO) (row:Row):Prop where
 rl:row.length=n
 r0:row.getD l none=some (upto n)
 rt: ∀y t,row.getD y none=some t->Pm n t/\Fx l t/\ap t l=y/\Gn n gs t
def PG (n l:Nat) (gs:List PO):Prop:= ∀o∈gs,∃g,o=some g/\Pm n g/\Fx l g
structure Ext (n l:Nat) (gs:List PO) (row:Row) (q:List Int) (s':Row×List Int):Prop where
 ok:Rw n l gs s'.1
 mono: ∀y t,row.getD y none=some t->s'.1.getD y none=some t
 VW:s'.2.length+Ll s'.1=q.length+Ll row
 og: ∀y∈q,y∈s'.2
 new: ∀y∈s'.2,y∈q\/ ∃yn:Nat,y=yn/\s'.1.getD yn none≠none
 src: ∀y:Nat,s'.1.getD y none≠none->row.getD y none≠none\/(y:Int)∈s'.2
theorem Ext.refl {n l:Nat} {gs:List PO} {row:Row} {q:List Int} (h:Rw n l gs row):Ext n l gs row q (row,q):=⟨h,λ_ _ h=>h,rfl,λ_ h=>h,λ_ h=> .inl h,λ_ h=> .inl h⟩
theorem aj {a b:Row} (h: ∀y t,a.getD y none=some t->b.getD y none=some t) {y:Nat} (hy:a.getD y none≠none):b.getD y none≠none:=by
 cases e:a.getD y none with
 |none=>exact absurd e hy
 |some t=>rw [h y t e];simp
theorem Ext.trans {n l:Nat} {gs:List PO} {row:Row} {q:List Int} {s1 s2:Row×List Int} (h:Ext n l gs row q s1) (k:Ext n l gs s1.1 s1.2 s2):Ext n l gs row q s2:=by
 refine ⟨k.ok,λy t e=>k.mono y t (h.mono y t e),k.VW.trans h.VW,λy hy=>k.og y (h.og y hy),λy hy=>?_,λy hy=>?_⟩
 ·rcases k.new y hy with h1|h1
  ·rcases h.new y h1 with h2|⟨yn,h2,h3⟩
   ·exact .inl h2
   ·exact .inr ⟨yn,h2,aj k.mono h3⟩
  ·exact .inr h1
 ·rcases k.src y hy with h1|h1
  ·exact (h.src y h1).imp id λh2=>k.og _ h2
  ·exact .inr h1
theorem CX {row:Row} {i:Nat} {t:List Int} (h:row.getD i none=none) (hi:i<row.length):Ll (row.set i (some t))+1=Ll row:=by
 unfold Ll
 have e:row[i]=none:=by
  rw [List.getD_eq_getElem?_getD,List.getElem?_eq_getElem hi] at h
  exact h
 have h1:=List.countP_set (p:= λo:PO=>o.isNone) (l:=row) (i:=i) (a:=some t) hi
 have oF:0<row.countP (·.isNone):=List.countP_pos_iff.2 ⟨row[i],List.getElem_mem hi,by rw [e];rfl⟩
 rw [h1,e]
 simp
 omega
theorem OD {n l:Nat} {gs:List PO} (Yk:l<n) (hg:PG n l gs) {row:Row} {q:List Int} (h:Rw n l gs row) {x:Nat} {t:List Int} (hx:row.getD x none=some t) {g:List Int} (ho:some g∈gs):
  Ext n l gs row q (Tm (x:Int) (row,q) (some g))/\(Tm (x:Int) (row,q) (some g)).1.getD (ap g x) none≠none:=by
 obtain ⟨g',e,Qb,SB⟩:=hg _ ho
 cases e
 obtain ⟨t1,t2,t3,t4⟩:=h.rt _ _ hx
 have LM:x<n:=by rw [<-h.rl];exact lz hx
 obtain ⟨a1,a2⟩:=Qb.Oq LM
 unfold Tm
 simp only [Option.getD_some,a1,Int.toNat_natCast]
 cases e:row.getD (ap g x) none with
 |some u=>exact ⟨Ext.refl h,by simp only;rw [e];simp⟩
 |none=>
  simp only [hx,Option.getD_some]
  have hl:ap g x<row.length:=by rw [h.rl];exact a2
  have hS:zA n λg=>some g∈gs:=⟨⟨t1.n1,t1.n2⟩,λg Zk=>by obtain ⟨g',e,h1,_⟩:=hg _ Zk;cases e;exact h1⟩
  have Ae: ∀y,(row.set (ap g x) (some (Aa t g))).getD y none=if ap g x=y/\ap g x<row.length then some (Aa t g) else row.getD y none:= λy=>Qo _ _ _ _ _
  have Ff: ∀y u,row.getD y none=some u->ap g x≠y:= λy u hu e'=>by rw [<-e',e] at hu;cases hu
  refine ⟨⟨⟨by simp [h.rl],?_,λy u hu=>?_⟩,λy u hu=>?_,?_,λy hy=>List.mem_append_left _ hy,λy hy=>?_,λy hy=>?_⟩,?_⟩
  ·rw [Ae,if_neg (λhh=>Ff l _ h.r0 hh.1)];exact h.r0
  ·rw [Ae] at hu
   split at hu
   ·rename_i hc
    cases hu
    exact ⟨t1.comp Qb,Fx.comp t1 Qb t2 SB (by omega),by rw [Ft t1 Qb Yk,t3];exact hc.1, .mul t4 ho⟩
   ·exact h.rt y u hu
  ·show (row.set (ap g x) (some (Aa t g))).getD y none=some u
   rw [Ae,if_neg (λhh=>Ff y u hu hh.1)];exact hu
  ·have:=CX (t:=Aa t g) e hl
   simp only [List.length_append,List.length_cons,List.length_nil]
   omega
  ·rcases List.mem_append.1 hy with hy|hy
   ·exact .inl hy
   ·simp only [List.mem_singleton] at hy
    exact .inr ⟨ap g x,hy,by show (row.set (ap g x) (some (Aa t g))).getD (ap g x) none≠none;rw [Ae,if_pos ⟨rfl,hl⟩];simp⟩
  ·have hy:(row.set (ap g x) (some (Aa t g))).getD y none≠none:=hy
   rw [Ae] at hy
   split at hy
   ·rename_i hc
    exact .inr (by show (y:Int)∈q++ [(ap g x:Int)];rw [<-hc.1];simp)
   ·exact .inl hy
  ·show (row.set (ap g x) (some (Aa t g))).getD (ap g x) none≠none
   rw [Ae,if_pos ⟨rfl,hl⟩];simp
theorem JI {n l:Nat} {gs:List PO} (Yk:l<n) (hg:PG n l gs): ∀(PD:List PO) {row:Row} {q:List Int},(∀o∈PD,o∈gs)->Rw n l gs row-> ∀ {x:Nat} {t:List Int},row.getD x none=some t->
  Ext n l gs row q (Te (x:Int) PD (row,q))/\ ∀g,some g∈PD->(Te (x:Int) PD (row,q)).1.getD (ap g x) none≠none
 | [],row,q,_,h,x,t,hx=>⟨Ext.refl h,λg hg=>by cases hg⟩
 |o::PD,row,q,hs,h,x,t,hx=>by
  obtain ⟨g,rfl,_,_⟩:=hg o (hs o (by simp))
  obtain ⟨e1,e2⟩:=OD (q:=q) Yk hg h hx (hs (some g) (by simp))
  obtain ⟨f1,f2⟩:=JI Yk hg PD (q:=(Tm (x:Int) (row,q) (some g)).2) (λo ho=>hs o (by simp [ho])) e1.ok (e1.mono x t hx)
  have hb:Te (x:Int) (some g::PD) (row,q)=Te (x:Int) PD ((Tm (x:Int) (row,q) (some g)).1,(Tm (x:Int) (row,q) (some g)).2):=rfl
  rw [hb]
  refine ⟨e1.trans f1,λg' Zk=>?_⟩
  rcases List.mem_cons.1 Zk with e|Zk
  ·cases e;exact aj f1.mono e2
  ·exact f2 g' Zk
def BI (gs:List PO) (q:List Int) (row:Row):Prop:=
 (∀y∈q,∃yn:Nat,y=yn/\row.getD yn none≠none)/\ ∀y:Nat,row.getD y none≠none->(y:Int)∈q\/ ∀g,some g∈gs->row.getD (ap g y) none≠none
theorem yM {n l:Nat} {gs:List PO} (Yk:l<n) (hg:PG n l gs) {x:Int} {q:List Int} {row:Row} (h:Rw n l gs row) (hq:BI gs (x::q) row):
  Ext n l gs row q (Te x gs (row,q))/\BI gs (Te x gs (row,q)).2 (Te x gs (row,q)).1/\ ∃(xn:Nat) (t:List Int),x=xn/\row.getD xn none=some t:=by
 obtain ⟨xn,rfl,hx⟩:=hq.1 x (by simp)
 cases e:row.getD xn none with
 |none=>exact absurd e hx
 |some t=>
  obtain ⟨e1,e2⟩:=JI Yk hg gs (q:=q) (λo ho=>ho) h e
  refine ⟨e1,⟨λy hy=>?_,λy hy=>?_⟩,xn,t,rfl,e⟩
  ·rcases e1.new y hy with h1|h1
   ·obtain ⟨yn,h2,h3⟩:=hq.1 y (by simp [h1])
    exact ⟨yn,h2,aj e1.mono h3⟩
   ·exact h1
  ·rcases e1.src y hy with h1|h1
   ·rcases hq.2 y h1 with h2|h2
    ·rcases List.mem_cons.1 h2 with h2|h2
     ·have:y=xn:=by omega
      subst this
      exact .inr λg Zk=>e2 g Zk
     ·exact .inl (e1.og _ h2)
    ·exact .inr λg Zk=>aj e1.mono (h2 g Zk)
   ·exact .inl h1
theorem JN {n l:Nat} {gs:List PO} (Yk:l<n) (hg:PG n l gs): ∀(f:Nat) (q:List Int) (row:Row),q.length+Ll row<=f->Rw n l gs row->BI gs q row->
  Rw n l gs (Sw gs f q row)/\(∀y t,row.getD y none=some t->(Sw gs f q row).getD y none=some t)/\ ∀y t g,(Sw gs f q row).getD y none=some t->some g∈gs->(Sw gs f q row).getD (ap g y) none≠none
 |0,q,row,hf,h,hq=>by
  have:q= []:=List.eq_nil_of_length_eq_zero (by omega)
  subst this
  exact ⟨h,λ_ _ h=>h,λy t g e Zk=>by
   rcases hq.2 y (by rw [show row.getD y none=some t from e];simp) with h1|h1
   ·cases h1
   ·exact h1 g Zk⟩
 |f+1,[],row,hf,h,hq=>⟨h,λ_ _ h=>h,λy t g e Zk=>by
   rcases hq.2 y (by rw [show row.getD y none=some t from e];simp) with h1|h1
   ·cases h1
   ·exact h1 g Zk⟩
 |f+1,x::q,row,hf,h,hq=>by
  obtain ⟨e1,e2,_⟩:=yM Yk hg h hq
  obtain ⟨r1,r2,r3⟩:=JN Yk hg f _ _ (by have:=e1.VW;simp only [List.length_cons] at hf;omega) e1.ok e2
  exact ⟨r1,λy t e=>r2 y t (e1.mono y t e),r3⟩
theorem Nf {row:Row} {y:Int} :y∈Hv row↔ ∃yn:Nat,y=yn/\row.getD yn none≠none:=by
 unfold Hv
 rw [List.mem_filter,Ik]
 constructor
 ·rintro ⟨h1,h2⟩
  exact ⟨y.toNat,by omega,Option.ne_none_iff_isSome.2 h2⟩
 ·rintro ⟨yn,rfl,h⟩
  obtain ⟨t,ht⟩:=Option.ne_none_iff_exists'.1 h
  exact ⟨by have:=lz ht;omega,by simpa using Option.ne_none_iff_isSome.1 h⟩
theorem sm (row:Row):(Hv row).length<=row.length:=by
 unfold Hv
 refine Nat.le_trans (List.length_filter_le _ _) (by simp [upto])
theorem vQ (row:Row):Ll row<=row.length:=List.countP_le_length
theorem vU {n l:Nat} {gs:List PO} (Yk:l<n) (h2:n<=20) (hg:PG n l gs) {row:Row} (h:Rw n l gs row):
  Rw n l gs (Rt gs row)/\(∀y t,row.getD y none=some t->(Rt gs row).getD y none=some t)/\ ∀y t g,(Rt gs row).getD y none=some t->some g∈gs->(Rt gs row).getD (ap g y) none≠none:=
 JN Yk hg 100 _ _ (by have:=sm row;have:=vQ row;have:=h.rl;omega) h ⟨λy hy=>Nf.1 hy,λy hy=> .inl (Nf.2 ⟨y,rfl,hy⟩)⟩
theorem ue {n l:Nat} {gs:List PO} (Yk:l<n) (hg:PG n l gs): ∀(f:Nat) (q:List Int) (row:Row),q.length+Ll row<=f->Rw n l gs row->BI gs q row->Sw gs f q row=Sw gs (q.length+Ll row) q row
 |0,q,row,hf,_,_=>by
  have:q.length+Ll row=0:=by omega
  rw [this]
 |f+1,[],row,hf,_,_=>by
  cases h:([]:List Int).length+Ll row with
  |zero=>rfl
  |succ m=>rfl
 |f+1,x::q,row,hf,h,hq=>by
  obtain ⟨e1,e2,_⟩:=yM Yk hg h hq
  have MV:=e1.VW
  have:(x::q).length+Ll row=(q.length+Ll row)+1:=by simp only [List.length_cons];omega
  rw [this]
  simp only [Sw]
  rw [ue Yk hg f _ _ (by simp only [List.length_cons] at hf;omega) e1.ok e2,MV]
def uk (row:Row):Nat:=row.countP (·.isSome)
theorem pM: ∀(a b:Row),a.length=b.length->(∀y t,a.getD y none=some t->b.getD y none=some t)->uk a<=uk b/\(uk a=uk b->a=b)
 | [],[],_,_=>⟨Nat.le_refl _,λ_=>rfl⟩
 | [],_::_,h,_=>by simp at h
 |_::_,[],h,_=>by simp at h
 |x::a,y::b,h,hm=>by
  obtain ⟨h1,h2⟩:=pM a b (by simpa using h) λi t e=>by simpa using hm (i+1) t (by simpa using e)
  unfold uk at h1 h2⊢
  cases x with
  |none=>
   cases y with
   |none=>simp only [List.countP_cons];exact ⟨by simpa using h1,λe=>by rw [h2 (by simpa using e)]⟩
   |some u=>
    simp only [List.countP_cons,Option.isSome_none,Option.isSome_some]
    simp only [if_true,Bool.false_eq_true,if_false]
    exact ⟨by omega,λe=>by omega⟩
  |some t=>
   have:=hm 0 t (by simp)
   simp only [List.getD_cons_zero] at this
   subst this
   simp only [List.countP_cons]
   exact ⟨by simpa using h1,λe=>by rw [h2 (by simpa using e)]⟩
def fR (T:Dc):Nat->Nat->Nat
 |0,_=>0
 |k+1,l=>uk (T.getD l [])+fR T k (l+1)
def WC:Nat->Nat->Dc×Dc->Prop
 |0,_,_=>True
 |k+1,l,s=>WC k (l+1) s/\(s.1.getD l []).length<=fR s.2 (k+1) l
structure Wz (l0:Nat) (s s':Dc×Dc):Prop where
 ZL:s'.1.length=s.1.length
 mP:s'.2.length=s.2.length
 low: ∀i,i<l0->s'.1.getD i []=s.1.getD i []/\s'.2.getD i []=s.2.getD i []
 zP: ∀i o,o∈s.1.getD i []->o∈s'.1.getD i []
 KF: ∀i y t,(s.2.getD i []).getD y none=some t->(s'.2.getD i []).getD y none=some t
 UF: ∀i,(s'.2.getD i []).length=(s.2.getD i []).length
theorem Wz.refl (l0:Nat) (s:Dc×Dc):Wz l0 s s:=⟨rfl,rfl,λ_ _=>⟨rfl,rfl⟩,λ_ _ h=>h,λ_ _ _ h=>h,λ_=>rfl⟩
theorem Wz.trans {l0 l1:Nat} {a b c:Dc×Dc} (h:Wz l0 a b) (k:Wz l1 b c) (hl:l0<=l1):Wz l0 a c:=
 ⟨k.ZL.trans h.ZL,k.mP.trans h.mP,λi hi=>⟨(k.low i (by omega)).1.trans (h.low i hi).1,(k.low i (by omega)).2.trans (h.low i hi).2⟩,λi o ho=>k.zP i o (h.zP i o ho),λi y t e=>k.KF i y t (h.KF i y t e),λi=>(k.UF i).trans (h.UF i)⟩
theorem Wz.Ev {l0 l1:Nat} {a b:Dc×Dc} (h:Wz l1 a b) (hl:l0<=l1):Wz l0 a b:=(Wz.refl l0 a).trans h hl
theorem cd {T T':Dc} : ∀(k l:Nat) (p:List Int),(∀i,l<=i->i<l+k->T'.getD i []=T.getD i [])->Iy T' k l p=Iy T k l p
 |0,_,_,_=>rfl
 |k+1,l,p,h=>by
  simp only [Iy]
  rw [h l (Nat.le_refl _) (by omega)]
  split
  ·rfl
  ·exact cd k (l+1) _ λi h1 h2=>h i (by omega) (by omega)
theorem fk {n:Nat} {s s':Dc×Dc} : ∀(k l:Nat),(∀i,l<=i->s'.1.getD i []=s.1.getD i []/\s'.2.getD i []=s.2.getD i [])->fa n k l s->fa n k l s'
 |0,l,h,hc=>by simp only [fa] at hc⊢;rw [(h l (Nat.le_refl _)).1];exact hc
 |k+1,l,h,hc=>by
  simp only [fa] at hc⊢
  obtain ⟨c1,c2,c3⟩:=hc
  refine ⟨fk k (l+1) (λi hi=>h i (by omega)) c1,?_,?_⟩
  ·rw [(h l (Nat.le_refl _)).1,(h l (Nat.le_refl _)).2]
   have e:(λq=>Iy s'.2 k (l+1) q=true)= λq=>Iy s.2 k (l+1) q=true:=funext λq=>by rw [cd k (l+1) q λi h1 h2=>(h i (by omega)).2]
   rw [e];exact c2
  ·rw [(h (l+1) (by omega)).1,(h l (Nat.le_refl _)).1];exact c3
theorem qw {T T':Dc} : ∀(k l:Nat),(∀i,l<=i->T'.getD i []=T.getD i [])->fR T' k l=fR T k l
 |0,_,_=>rfl
 |k+1,l,h=>by simp only [fR];rw [h l (Nat.le_refl _),qw k (l+1) λi hi=>h i (by omega)]
theorem mw {s s':Dc×Dc} : ∀(k l:Nat),(∀i,l<=i->s'.1.getD i []=s.1.getD i []/\s'.2.getD i []=s.2.getD i [])->WC k l s->WC k l s'
 |0,_,_,_=>trivial
 |k+1,l,h,hg=>⟨mw k (l+1) (λi hi=>h i (by omega)) hg.1,by
  rw [(h l (Nat.le_refl _)).1,qw (k+1) l λi hi=>(h i hi).2];exact hg.2⟩
theorem wb {T T':Dc} (hl: ∀i,(T'.getD i []).length=(T.getD i []).length) (hm: ∀i y t,(T.getD i []).getD y none=some t->(T'.getD i []).getD y none=some t):
  ∀(k l:Nat),fR T k l<=fR T' k l/\(fR T k l=fR T' k l-> ∀i,l<=i->i<l+k->T'.getD i []=T.getD i [])
 |0,l=>⟨Nat.le_refl _,λ_ i h1 h2=>by omega⟩
 |k+1,l=>by
  obtain ⟨h1,h2⟩:=wb hl hm k (l+1)
  obtain ⟨h3,h4⟩:=pM (T.getD l []) (T'.getD l []) (hl l).symm (hm l)
  simp only [fR]
  refine ⟨by omega,λe i g1 g2=>?_⟩
  by_cases hi:i=l
  ·subst hi;exact (h4 (by omega)).symm
  ·exact h2 (by omega) i (by omega) (by omega)
def V (n k l:Nat) (s:Dc×Dc):Prop:=s.1.length=n/\s.2.length=n/\fa n k l s/\WC k l s
structure WB (n k l:Nat) (s:Dc×Dc) (p:List Int) (s':Dc×Dc):Prop where
 v:V n k l s'
 grow:Wz l s s'
 ZK:Gn n (s'.1.getD l []) p
 gens: ∀o∈s'.1.getD l [],o∈s.1.getD l []\/o=some p
theorem LP.row {n l:Nat} {gs:List PO} {row:Row} {H:List Int->Prop} (h:LP n l gs row H):Rw n l gs row:=⟨h.rl,h.r0,h.rt⟩
theorem cU {row:Row} {y:Nat} {t g t':List Int} (h1:row.getD y none=some t) (h2:row.getD (ap g y) none=some t'):Nb row (y:Int) (some g)=Aa (Aa t g) (Am t'):=by
 unfold Nb
 rw [Int.toNat_natCast,h1,Option.getD_some,Option.getD_some,show (Bw g (y:Int)).toNat=ap g y from rfl,h2,Option.getD_some]
theorem jm {n l:Nat} {gs:List PO} {row:Row} (hg:PG n l gs) (_h:Rw n l gs row) (hc: ∀y t g,row.getD y none=some t->some g∈gs->row.getD (ap g y) none≠none) {q:List Int} :
  q∈bh row gs↔ ∃(y:Nat) (t g t':List Int),row.getD y none=some t/\some g∈gs/\row.getD (ap g y) none=some t'/\q=Aa (Aa t g) (Am t'):=by
 unfold bh
 rw [List.mem_flatMap]
 constructor
 ·rintro ⟨y,hy,hq⟩
  obtain ⟨o,ho,rfl⟩:=List.mem_map.1 hq
  obtain ⟨yn,rfl,QL⟩:=Nf.1 hy
  obtain ⟨t,ht⟩:=Option.ne_none_iff_exists'.1 QL
  obtain ⟨g,rfl,Qb,_⟩:=hg o ho
  obtain ⟨t',CF⟩:=Option.ne_none_iff_exists'.1 (hc yn t g ht ho)
  exact ⟨yn,t,g,t',ht,ho,CF,cU ht CF⟩
 ·rintro ⟨y,t,g,t',h1,h2,h3,rfl⟩
  obtain ⟨g',e,Qb,_⟩:=hg _ h2
  cases e
  exact ⟨(y:Int),Nf.2 ⟨y,rfl,by rw [h1];simp⟩,List.mem_map.2 ⟨some g,h2,cU h1 h3⟩⟩
theorem r6 {n:Nat} (h1:1<=n) (h2:n<=20): ∀(k l:Nat) (p:List Int) (s:Dc×Dc),l+k=n->V n k l s->Pm n p->Fx l p->WB n k l s p (Dr k l p s)
 |0,l,p,s,hk,hv,hp,hf=>by
  have hl:l=n:=by omega
  subst hl
  exact ⟨hv,Wz.refl _ _,by rw [hf.all hp];exact .id,λo ho=> .inl ho⟩
 |k+1,l,p,s,hk,hv,hp,hf=>by
  have Yk:l<n:=by omega
  obtain ⟨v1,v2,hc,FM⟩:=hv
  have fz:=hc
  obtain ⟨c1,c2,c3⟩:=hc
  unfold Dr
  by_cases hh:Iy s.2 (k+1) l p=true
  ·rw [if_pos hh]
   exact ⟨⟨v1,v2,fz,FM⟩,Wz.refl _ _,(gN h1 h2 (k+1) l s hk fz p hp hf).1 hh,λo ho=> .inl ho⟩
  rw [if_neg hh]
  generalize zV:s.1.getD l []++ [some p]=gs
  have Ym:some p∈gs:=by rw [<-zV];simp
  have Lc: ∀o∈s.1.getD l [],o∈gs:= λo ho=>by rw [<-zV];exact List.mem_append_left _ ho
  have hg:PG n l gs:= λo ho=>by
   rw [<-zV] at ho
   rcases List.mem_append.1 ho with ho|ho
   ·exact c2.pg o ho
   ·rw [List.mem_singleton] at ho;exact ⟨p,ho,hp,hf⟩
  have YN:Rw n l gs (s.2.getD l []):=⟨c2.rl,c2.r0,λy t e=>⟨(c2.rt y t e).1,(c2.rt y t e).2.1,(c2.rt y t e).2.2.1,(c2.rt y t e).2.2.2.mono λg hg=>Lc _ hg⟩⟩
  obtain ⟨r1,r2,r3⟩:=vU Yk h2 hg YN
  generalize hR:Rt gs (s.2.getD l [])=R at r1 r2 r3
  have hS:zA n λg=>some g∈gs:=⟨⟨h1,h2⟩,λg Zk=>by obtain ⟨g',e,h,_⟩:=hg _ Zk;cases e;exact h⟩
  have NY: ∀i,((s.1.set l gs).getD i []=if i=l then gs else s.1.getD i [])/\(s.2.set l R).getD i []=if i=l then R else s.2.getD i []:= λi=>by
   rw [Qo,Qo]
   by_cases e:l=i
   ·subst e;rw [if_pos ⟨rfl,by omega⟩,if_pos rfl,if_pos ⟨rfl,by omega⟩,if_pos rfl];exact ⟨rfl,rfl⟩
   ·rw [if_neg (λhh=>e hh.1),if_neg (Ne.symm e),if_neg (λhh=>e hh.1),if_neg (Ne.symm e)];exact ⟨rfl,rfl⟩
  have QK: ∀i,l+1<=i->(s.1.set l gs).getD i []=s.1.getD i []/\(s.2.set l R).getD i []=s.2.getD i []:= λi hi=>by
   rw [(NY i).1,(NY i).2,if_neg (by omega),if_neg (by omega)];exact ⟨rfl,rfl⟩
  have lD:V n k (l+1) (s.1.set l gs,s.2.set l R):=⟨by simpa using v1,by simpa using v2,fk k (l+1) QK c1,mw k (l+1) QK FM.1⟩
  have SD:Wz l s (s.1.set l gs,s.2.set l R):=by
   refine ⟨by simp,by simp,λi hi=>?_,λi o ho=>?_,λi y t e=>?_,λi=>?_⟩
   ·rw [(NY i).1,(NY i).2,if_neg (by omega),if_neg (by omega)];exact ⟨rfl,rfl⟩
   ·rw [(NY i).1]
    split
    ·rename_i hi;subst hi;exact Lc o ho
    ·exact ho
   ·rw [(NY i).2]
    split
    ·rename_i hi;subst hi;exact r2 y t e
    ·exact e
   ·rw [(NY i).2]
    split
    ·rename_i hi;subst hi;rw [r1.rl,c2.rl]
    ·rfl
  have hq: ∀q∈bh R gs,Pm n q/\Fx (l+1) q/\Gn n gs q:= λq hq=>by
   obtain ⟨y,t,g,t',e1,e2,e3,rfl⟩:=(jm hg r1 r3).1 hq
   obtain ⟨t1,t2,t3,t4⟩:=r1.rt _ _ e1
   obtain ⟨u1,u2,u3,u4⟩:=r1.rt _ _ e3
   obtain ⟨g',e,Qb,SB⟩:=hg _ e2
   cases e
   exact ⟨(t1.comp Qb).comp u1.inv,Fx.div (t1.comp Qb) u1 (Fx.comp t1 Qb t2 SB (by omega)) u2 Yk (by rw [u3,Ft t1 Qb Yk,t3]),Xs.comp hS (.mul t4 e2) (Xs.rS hS u4)⟩
  have fold: ∀(qs:List (List Int)) (s1:Dc×Dc),(∀q∈qs,Pm n q/\Fx (l+1) q)->V n k (l+1) s1->
    V n k (l+1) (qs.foldl (λs q=>Dr k (l+1) q s) s1)/\Wz (l+1) s1 (qs.foldl (λs q=>Dr k (l+1) q s) s1)/\
     (∀q∈qs,Gn n ((qs.foldl (λs q=>Dr k (l+1) q s) s1).1.getD (l+1) []) q)/\ ∀o∈(qs.foldl (λs q=>Dr k (l+1) q s) s1).1.getD (l+1) [],o∈s1.1.getD (l+1) []\/ ∃q∈qs,o=some q:=by
   intro qs
   induction qs with
   |nil=>exact λs1 _ hv=>⟨hv,Wz.refl _ _,(λq hq=>by cases hq),λo ho=>Or.inl ho⟩
   |cons q qs ih=>
    intro s1 MX hv
    have ha:=r6 h1 h2 k (l+1) q s1 (by omega) hv (MX q (by simp)).1 (MX q (by simp)).2
    obtain ⟨g1,g2,g3,g4⟩:=ih (Dr k (l+1) q s1) (λq' ew=>MX q' (by simp [ew])) ha.v
    simp only [List.foldl_cons]
    refine ⟨g1,ha.grow.trans g2 (Nat.le_refl _),λq' ew=>?_,λo ho=>?_⟩
    ·rcases List.mem_cons.1 ew with rfl|ew
     ·exact ha.ZK.mono λg hg=>g2.zP _ _ hg
     ·exact g3 q' ew
    ·rcases g4 o ho with h|⟨q',ew,h⟩
     ·rcases ha.gens o h with h|h
      ·exact .inl h
      ·exact .inr ⟨q,by simp,h⟩
     ·exact .inr ⟨q',by simp [ew],h⟩
  obtain ⟨f1,f2,f3,f4⟩:=fold (bh R gs) (s.1.set l gs,s.2.set l R) (λq h=>⟨(hq q h).1,(hq q h).2.1⟩) lD
  generalize (bh R gs).foldl (λs q=>Dr k (l+1) q s) (s.1.set l gs,s.2.set l R)=s' at f1 f2 f3 f4
  obtain ⟨w1,w2,w3,w4⟩:=f1
  have WG:s'.1.getD l []=gs:=by rw [(f2.low l (by omega)).1,(NY l).1,if_pos rfl]
  have el2:s'.2.getD l []=R:=by rw [(f2.low l (by omega)).2,(NY l).2,if_pos rfl]
  have HC:=SD.trans f2 (by omega)
  have Adz:LP n l gs R (λq=>Iy s'.2 k (l+1) q=true):=⟨hg,r1.rl,r1.r0,r1.rt,r3,λy t g t' e1 e2 e3=>by
   have hm:=(jm hg r1 r3).2 ⟨y,t,g,t',e1,e2,e3,rfl⟩
   exact (gN h1 h2 k (l+1) s' (by omega) w3 _ (hq _ hm).1 (hq _ hm).2.1).2 (f3 _ hm)⟩
  have PR:fa n (k+1) l s':=⟨w3,by rw [WG,el2];exact Adz,λg Zk=>by
   rw [WG]
   rcases f4 _ Zk with h|⟨q,ew,h⟩
   ·rw [(QK (l+1) (Nat.le_refl _)).1] at h
    exact (c3 g h).mono λg hg=>Lc _ hg
   ·cases h;exact (hq _ ew).2.2⟩
  have Oz:Gn n (s'.1.getD l []) p:=by rw [WG];exact Xs.one hS Ym
  refine ⟨⟨w1,w2,PR,w4,?_⟩,HC,Oz,λo ho=>?_⟩
  ·have hold:=FM.2
   obtain ⟨p1,p2⟩:=wb HC.UF HC.KF (k+1) l
   have Ff:fR s.2 (k+1) l≠fR s'.2 (k+1) l:= λe=>by
    have:=cd (k+1) l p (p2 e)
    rw [(gN h1 h2 (k+1) l s' hk PR p hp hf).2 Oz] at this
    exact hh this.symm
   rw [WG,<-zV,List.length_append,List.length_singleton]
   omega
  ·rw [WG,<-zV] at ho
   rcases List.mem_append.1 ho with ho|ho
   ·exact .inl ho
   ·rw [List.mem_singleton] at ho;exact .inr ho
end Go.Proofs.Ytjbdmibbbpdnnaa

namespace Go.Proofs.Ytjbdmibbbpdnnaa
open Go.RowKit
theorem JE {n l:Nat} {gs:List PO} {R:Row} (Yk:l<n) (hg:PG n l gs) (r1:Rw n l gs R) (r3: ∀y t g,R.getD y none=some t->some g∈gs->R.getD (ap g y) none≠none): ∀q∈bh R gs,Pm n q/\Fx (l+1) q:=by
 intro q hq
 obtain ⟨y,t,g,t',e1,e2,e3,rfl⟩:=(jm hg r1 r3).1 hq
 obtain ⟨t1,t2,t3,t4⟩:=r1.rt _ _ e1
 obtain ⟨u1,u2,u3,u4⟩:=r1.rt _ _ e3
 obtain ⟨g',e,Qb,SB⟩:=hg _ e2
 cases e
 exact ⟨(t1.comp Qb).comp u1.inv,Fx.div (t1.comp Qb) u1 (Fx.comp t1 Qb t2 SB (by omega)) u2 Yk (by rw [u3,Ft t1 Qb Yk,t3])⟩
theorem V.lower {n k l:Nat} {s:Dc×Dc} (h:V n (k+1) l s) (gs:List PO) (R:Row):V n k (l+1) (s.1.set l gs,s.2.set l R):=by
 obtain ⟨v1,v2,hc,FM⟩:=h
 have QK: ∀i,l+1<=i->(s.1.set l gs).getD i []=s.1.getD i []/\(s.2.set l R).getD i []=s.2.getD i []:= λi hi=>by
  rw [Qo,Qo,if_neg (by omega),if_neg (by omega)];exact ⟨rfl,rfl⟩
 exact ⟨by simpa using v1,by simpa using v2,fk k (l+1) QK hc.1,mw k (l+1) QK FM.1⟩
theorem zL {n k l:Nat} (h1:1<=n) (h2:n<=20) (hk:l+k=n): ∀(qs:List (List Int)) (s1:Dc×Dc),(∀q∈qs,Pm n q/\Fx l q)->V n k l s1->
  V n k l (qs.foldl (λs q=>Dr k l q s) s1)/\Wz l s1 (qs.foldl (λs q=>Dr k l q s) s1)
 | [],s1,_,hv=>⟨hv,Wz.refl _ _⟩
 |q::qs,s1,MX,hv=>by
  have ha:=r6 h1 h2 k l q s1 hk hv (MX q (by simp)).1 (MX q (by simp)).2
  obtain ⟨g1,g2⟩:=zL h1 h2 hk qs (Dr k l q s1) (λq' ew=>MX q' (by simp [ew])) ha.v
  exact ⟨g1,ha.grow.trans g2 (Nat.le_refl _)⟩
theorem JH {n:Nat} {s:Dc×Dc} : ∀(k l:Nat),fa n k l s->fR s.2 k l<=n*k
 |0,_,_=>by simp [fR]
 |k+1,l,hc=>by
  have h1:=JH k (l+1) hc.1
  have h2:uk (s.2.getD l [])<=n:=by
   have:=hc.2.1.rl
   have h3:uk (s.2.getD l [])<=(s.2.getD l []).length:=List.countP_le_length
   omega
  simp only [fR]
  rw [Nat.mul_succ]
  omega
theorem MD {n k l:Nat} {s:Dc×Dc} (h2:n<=20) (hk:l+(k+1)=n) (h:V n (k+1) l s):(s.1.getD l []).length<=400:=by
 have h3:=h.2.2.2.2
 have h4:=JH (k+1) l h.2.2.1
 have h5:n*(k+1)<=20*20:=Nat.mul_le_mul h2 (by omega)
 omega
theorem V.lvl {n k l:Nat} {s:Dc×Dc} (h:V n (k+1) l s):LP n l (s.1.getD l []) (s.2.getD l []) (λq=>Iy s.2 k (l+1) q=true):=h.2.2.1.2.1
theorem V.pg {n k l:Nat} {s:Dc×Dc} (h:V n (k+1) l s) {p:List Int} (hp:Pm n p) (hf:Fx l p):PG n l (s.1.getD l []++ [some p]):= λo ho=>by
 rcases List.mem_append.1 ho with ho|ho
 ·exact h.lvl.pg o ho
 ·rw [List.mem_singleton] at ho;exact ⟨p,ho,hp,hf⟩
theorem V.Af6 {n k l:Nat} {s:Dc×Dc} (h:V n (k+1) l s) (p:List Int):Rw n l (s.1.getD l []++ [some p]) (s.2.getD l []):=
 ⟨h.lvl.rl,h.lvl.r0,λy t e=>⟨(h.lvl.rt y t e).1,(h.lvl.rt y t e).2.1,(h.lvl.rt y t e).2.2.1,(h.lvl.rt y t e).2.2.2.mono λ_ hg=>List.mem_append_left _ hg⟩⟩
theorem p8 {α:Type} (xs:List (List α)) (i:Nat) (h:i<xs.length):xs.set i (xs.getD i [])=xs:=by
 refine List.ext_getElem (by simp) λj h1 h2=>?_
 rw [List.getElem_set]
 split
 ·rename_i e;subst e;rw [List.getD_eq_getElem?_getD,List.getElem?_eq_getElem h];rfl
 ·rfl
theorem ef {α:Type} (xs:List (List α)) (i:Nat) (h:i<xs.length) (r:List α):(xs.set i r).getD i []=r:=by
 rw [Qo,if_pos ⟨rfl,h⟩]
end Go.Proofs.Ytjbdmibbbpdnnaa

namespace Go.Proofs.Ytjbdmibbbpdnnaa
open Go.RowKit
noncomputable abbrev Kq:MSpec:=ai [none] [(false, .Ee VX)] false [none] [.row tI 2] (λx=>List.length x.1<=20) (λx=>((Hv x.1,()),()))
noncomputable abbrev Ra:Spec:=Dp (.pair tL (.pair tL .unit)) tO false true (λx=>(0<x.1.length/\x.1.length<=20)/\Qc x.2.1.length x.1) (λx=>some (Aa x.1 x.2.1))
noncomputable abbrev aD:Spec:=Dp (.pair tL (.pair tL .unit)) tL false false (λx=>x.1.length<=20/\Qc x.2.1.length x.1) (λx=>Aa x.1 x.2.1)
noncomputable abbrev Og:Spec:=Dp (.pair tI .unit) tL false true (λx=>0<=x.1/\x.1<=20) (λx=>upto x.1.toNat)
noncomputable abbrev Wr:Spec:=Dp (.pair tI .unit) tO false true (λx=>1<=x.1/\x.1<=20) (λx=>some (upto x.1.toNat))
abbrev QX:TypeId:=22
structure lL (N L:Nat) (n:Int) (G T:Dc) (l:Int) (p:List Int):Prop where
 n1:1<=N
 n2:N<=20
 en:n=N
 el:l=L
 le:L<=N
 v:V N (N-L) L (G,T)
 pm:Pm N p
 fx:Fx L p
noncomputable abbrev qF:Spec:=Dp (.pair (.ptr tj) (.pair tI (.pair tL .unit))) .bool false true (λx=> ∃N L,lL N L x.1.1 x.1.2.1 x.1.2.2.1 x.2.1 x.2.2.1) (λx=>Iy x.1.2.2.1 (x.1.1-x.2.1).toNat x.2.1.toNat x.2.2.1)
noncomputable abbrev QS:MSpec:= {ptr:=some (179,3),Hb:= [none,none],ins:= [(false, .Ee tI),(false, .Al tO QX true),(false, .Al tO QX true),(false, .Ee tI),(false, .Ee tO)],Ef:=false,Gd:= [],outs:= [.Ee tI, .Al tO QX false, .Al tO QX false],fn:= λ_=>none,keeps:= [(1,1),(2,2)],Cw:= λx=>x.2.2.2.1.toNat}
noncomputable abbrev Pn (m:Nat):MSpec:=xh QS (λx=>(∃N L q,x.2.2.2.2.1=some q/\lL N L x.1 x.2.1 x.2.2.1 x.2.2.2.1 q)/\(x.1-x.2.2.2.1).toNat<m)
 (λx=>((x.1,(Dr (x.1-x.2.2.2.1).toNat x.2.2.2.1.toNat (x.2.2.2.2.1.getD []) (x.2.1,x.2.2.1)).1,(Dr (x.1-x.2.2.2.1).toNat x.2.2.2.1.toNat (x.2.2.2.2.1.getD []) (x.2.1,x.2.2.1)).2,()),()))
theorem wV (n:Int) (P:List Int->Prop):(((0:Int)<=n/\n<(↑Bm:Int)+(1:Int))/\n=n/\0=0/\(List.replicate n.toNat (Int.ofNat (nat_lit 0))).length=(List.replicate n.toNat (Int.ofNat (nat_lit 0))).length/\Cb (λ(v2:Int×List Int×PUnit) (k3:Int×List Int×PUnit->Prop)=>Br (decide (v2.1<(↑(List.replicate n.toNat (Int.ofNat (nat_lit 0))).length:Int))) (((0:Int)<=v2.1/\v2.1<(↑v2.2.1.length:Int))/\0+v2.1.toNat<v2.2.1.length/\0=0/\v2.2.1.length=(v2.2.1.set (0+v2.1.toNat) v2.1).length/\k3 (IntKind.i64.wrap (v2.1+(1:Int)),v2.2.1.set (0+v2.1.toNat) v2.1,())) (P (List.take v2.2.1.length (List.drop 0 v2.2.1)))) ((0:Int),List.replicate n.toNat (Int.ofNat (nat_lit 0)),PUnit.unit))=fnW Di (look []) Og Try.f127 (n,()) P:=by kernel_rfl
theorem FE (row:List (Option (List Int))) (P:(List Int×Unit)×Unit->Prop):(0=0/\0=([]:List Int).length/\Cb (λ(v2:Int×List Int×PUnit) (k3:Int×List Int×PUnit->Prop)=>Br (decide (v2.1<(↑row.length:Int))) (∃(y4:Option (List Int)),idx row v2.1=some y4/\Br (!y4.isNone) (0=0/\v2.2.1.length=v2.2.1.length/\v2.2.1.length+(List.take 1 (List.drop 0 [v2.1])).length<=Bm/\0=0/\(v2.2.1++List.take 1 (List.drop 0 [v2.1])).length=(v2.2.1++List.take 1 (List.drop 0 [v2.1])).length/\k3 (IntKind.i64.wrap (v2.1+(1:Int)),v2.2.1++List.take 1 (List.drop 0 [v2.1]),())) (0=0/\v2.2.1.length=v2.2.1.length/\k3 (IntKind.i64.wrap (v2.1+(1:Int)),v2.2.1,()))) (P ((List.take v2.2.1.length (List.drop 0 v2.2.1),()),()))) ((0:Int),[],PUnit.unit))=fnMW Tz (look []) Kq Try.f174 (row,()) P:=by kernel_rfl
theorem Aad (c:Int×List (List (Option (List Int)))×List (List (Option (List Int)))×Unit) (l:Int) (p:List Int) (P:Bool->Prop):(Cb (λ(v4:List Int×Int×PUnit) (k5:List Int×Int×PUnit->Prop)=>Br (decide (v4.2.1<c.1)) (∃(y6:List (Option (List Int))),idx c.2.2.1 v4.2.1=some y6/\ ∃(y7:Int),idx v4.1 v4.2.1=some y7/\ ∃(y8:Option (List Int)),idx y6 y7=some y8/\Br y8.isNone (P false) (∃(y9:List Int),Em.fn (y8.getD [],())=some y9/\ ∃(Ls:List Int),aD.fn (v4.1,y9,())=some Ls/\k5 (Ls,IntKind.i64.wrap (v4.2.1+(1:Int)),()))) (P true)) (p,l,PUnit.unit))=fnW Tz (look [(175,Em),(156,aD)]) qF Try.f183 (c,l,p,()) P:=by kernel_rfl
theorem Sound.loose {P:Program} {f:FuncId} {arg res:Ty} {pre:arg.den->Prop} {val:arg.den->res.den} (h:Sound P f (Go.Proofs.Ytjbdmibbbpdnnaa.Dp arg res false true pre val)):Sound P f (Go.Proofs.Ytjbdmibbbpdnnaa.Dp arg res false false pre val):=
 ⟨h.enter,λw S vs x y h1 h2 h3=>Calls.mono (h.calls w S vs x y h1 h2 h3) λe' w' hr=>by
  obtain ⟨v,g1,g2,g3⟩:=hr
  exact ⟨v,g1,g2,Bd.Ev (S:= λb=>S b\/(true=true/\b<w.heap.size)) g3 λk _ hk=>hk.elim .inl λhh=>absurd (show false=true from hh.1) (by simp)⟩⟩
theorem nD:Sound Try.prog 156 aD:=Sound.loose Pq
theorem nE:Sound Try.prog 156 Ra:=Sound.toO Pq λx h=>⟨⟨h.1.2,h.2⟩,λe=>by
 have:=Nw x.1 x.2.1
 rw [e] at this
 have:=h.1.1
 simp only [List.length_nil] at*
 omega⟩
theorem vY (n:Int) (h:0<=n/\n<=20):fnW Di (look []) Og Try.f127 (n,()) (λ(z:List Int)=>z=upto n.toNat):=by
 refine Eq.mp (wV n _) ⟨⟨by omega,by show n<(4294967296:Int)+1;omega⟩,rfl,rfl,rfl,?_⟩
 refine Aq n.toNat (λv=>v.1) (λj v=>v.2.1.length=n.toNat/\v.2.1.take j=upto j) rfl ⟨by simp,by simp [upto]⟩ ?_
 rintro j ⟨i,ys,⟨⟩⟩ K hj hi ⟨h1,h2⟩ hK
 dsimp only at hi h1 h2⊢
 subst hi
 rw [List.length_replicate]
 simp only [Int.toNat_natCast,Nat.zero_add]
 refine Br.dec (λhl=>⟨⟨by omega,by omega⟩,by omega,trivial,by rw [List.length_set],?_⟩) λhl=>?_
 ·rw [Ap (by omega)]
  refine hK (by omega) _ rfl ⟨by rw [List.length_set];exact h1,?_⟩
  rw [List.take_add_one,List.take_set_of_le (by omega),h2,List.getElem?_set_self (by omega),Zh]
  rfl
 ·have:j=ys.length:=by omega
  subst this
  rw [List.take_length] at h2
  rw [List.drop_zero,List.take_length,h2,h1]
theorem bn:Sound Try.prog 127 Og:=
 Sound.Dp Cf At mixed Try.func127 (by kernel_rfl) (by kernel_rfl) λx h=>vY x.1 h
theorem OL {n:Int} (h:1<=n/\n<=20):(0<=n/\n<=20)/\upto n.toNat≠ []:=⟨by omega,λe=>by
 have:=congrArg List.length e
 simp [upto] at this
 omega⟩
theorem lf:Sound Try.prog 127 Wr:=Sound.toO bn λ_ h=>OL h
theorem vT {row:Row} {j:Nat} :(upto (j+1)).filter (λy=>(row.getD y.toNat none).isSome)=(upto j).filter (λy=>(row.getD y.toNat none).isSome)++if (row.getD j none).isSome=true then [(j:Int)] else []:=by
 rw [Zh,List.filter_append]
 congr 1
 simp only [List.filter_cons,List.filter_nil,Int.toNat_natCast]
theorem DM (row:List (Option (List Int))) (h:List.length row<=20):fnMW Tz (look []) Kq Try.f174 (row,()) (λ(z:(List Int×Unit)×Unit)=>z=((Hv row,()),())):=by
 refine Eq.mp (FE row _) ⟨rfl,rfl,?_⟩
 refine Aq row.length (λv=>v.1) (λj v=>v.2.1=(upto j).filter (λy=>(row.getD y.toNat none).isSome)) rfl rfl ?_
 rintro j ⟨i,ys,⟨⟩⟩ K hj hi h1 hK
 dsimp only at hi h1⊢
 subst hi
 refine Br.dec (λhl=>?_) λhl=>?_
 ·have hl:j<row.length:=by omega
  have hlen:ys.length<=j:=by rw [h1];refine Nat.le_trans (List.length_filter_le _ _) (by simp [upto])
  have hg:row.getD j none=row[j]:=by rw [List.getD_eq_getElem?_getD,List.getElem?_eq_getElem hl];rfl
  refine ⟨_,Ax hl,Br.of (λhb=>⟨rfl,rfl,?_,rfl,rfl,?_⟩) λhb=>⟨rfl,rfl,?_⟩⟩
  ·show ys.length+1<=4294967296
   omega
  ·rw [Ap (by omega)]
   refine hK hl _ rfl ?_
   show ys++ [(j:Int)]=_
   rw [vT,hg,h1,if_pos (by cases e:row[j] with
    |none=>rw [e] at hb;simp at hb
    |some t=>rfl)]
  ·rw [Ap (by omega)]
   refine hK hl _ rfl ?_
   show ys=_
   rw [vT,hg,h1,if_neg (by cases e:row[j] with
    |none=>simp
    |some t=>rw [e] at hb;simp at hb),List.append_nil]
 ·have:j=row.length:=by omega
  subst this
  rw [List.drop_zero,List.take_length,h1]
  rfl
theorem eI:Bo Try.prog 174 Kq:=
 Bo.ai jR At mixed Try.func174 (by kernel_rfl) (by kernel_rfl) λx h=>DM x.1 h
theorem gw {n:Nat} {s:Dc×Dc} : ∀(k l:Nat),fa n k l s-> ∀i,l<=i->i<l+k->LP n i (s.1.getD i []) (s.2.getD i []) (λq=>Iy s.2 (l+k-i-1) (i+1) q=true)
 |0,_,_,i,h1,h2=>by omega
 |k+1,l,hc,i,h1,h2=>by
  obtain ⟨c1,c2,_⟩:=hc
  by_cases e:i=l
  ·subst e
   rw [show i+(k+1)-i-1=k by omega]
   exact c2
  ·have:=gw k (l+1) c1 i (by omega) (by omega)
   rwa [show l+1+k-i-1=l+(k+1)-i-1 by omega] at this
theorem uM {α:Type} {xs:List (List α)} {i:Nat} (h:i<xs.length):xs.getD i []=xs[i]:=by
 rw [List.getD_eq_getElem?_getD,List.getElem?_eq_getElem h];rfl
theorem GP {α:Type} {xs:List (Option α)} {i:Nat} (h:i<xs.length):xs.getD i none=xs[i]:=by
 rw [List.getD_eq_getElem?_getD,List.getElem?_eq_getElem h];rfl
theorem Pm.row {n:Nat} {p:List Int} (h:Pm n p):Qc n p:=by
 have:=h.2.row
 rwa [h.1] at this
theorem ZU (c:Int×List (List (Option (List Int)))×List (List (Option (List Int)))×Unit) (l:Int) (p:List Int) (h: ∃N L,lL N L c.1 c.2.1 c.2.2.1 l p):
  fnW Tz (look [(175,Em),(156,aD)]) qF Try.f183 (c,l,p,()) (λ(z:Bool)=>z=Iy c.2.2.1 (c.1-l).toNat l.toNat p):=by
 obtain ⟨n,G,T,⟨⟩⟩:=c
 obtain ⟨N,L,h⟩:=h
 obtain ⟨n1,n2,en,el,hle,v,pm,fx⟩:=h
 dsimp only at en el v⊢
 subst en el
 refine Eq.mp (Aad ((N:Int),G,T,()) (L:Int) p _) ?_
 obtain ⟨v1,v2,v3,v4⟩:=v
 dsimp only at v1 v2
 refine ⟨λv=> ∃i:Nat,L<=i/\i<=N/\v.2.1=i/\Pm N v.1/\Fx i v.1/\Iy T (N-i) i v.1=Iy T (N-L) L p,λv=>N-v.2.1.toNat,⟨L,Nat.le_refl _,hle,rfl,pm,fx,rfl⟩,?_⟩
 rintro ⟨p',i',⟨⟩⟩ ⟨i,h1,h2,h3,h4,h5,h6⟩
 dsimp only at h3 h4 h5 h6⊢
 subst h3
 rw [show (((N:Int)-(L:Int)).toNat)=N-L by omega,show ((L:Int)).toNat=L by omega,<-h6]
 refine Br.dec (λhl=>?_) λhl=>?_
 ·have hl:i<N:=by omega
  have Qq:=gw (N-L) L v3 i h1 (by omega)
  obtain ⟨a1,a2⟩:=h4.Oq hl
  have hT:i<T.length:=by omega
  have hlen:T[i].length=N:=by have:=Qq.rl;dsimp only at this;rwa [uM hT] at this
  refine ⟨_,Ax hT,_,Ax (by rw [h4.1];exact hl),?_⟩
  have e1:p'[i]'(by rw [h4.1];exact hl)=(ap p' i:Int):=by rw [<-a1,Ie]
  rw [e1]
  refine ⟨_,Ax (by omega),?_⟩
  have e2:N-i=(N-i-1)+1:=by omega
  have e3:(T.getD i []).getD (Bw p' (i:Int)).toNat none=T[i][ap p' i]'(by omega):=by
   rw [uM hT];exact GP (by show ap p' i<_;omega)
  rw [e2]
  simp only [Iy,e3]
  refine Br.of (λhb=>?_) λhb=>?_
  ·cases e:T[i][ap p' i]'(by omega) with
   |none=>rfl
   |some t=>rw [e] at hb;simp at hb
  ·cases e:T[i][ap p' i]'(by omega) with
   |none=>rw [e] at hb;simp at hb
   |some t=>
    have ht:(T.getD i []).getD (ap p' i) none=some t:=by rw [<-e];exact e3
    obtain ⟨t1,t2,t3,t4⟩:=Qq.rt _ _ ht
    simp only [Option.getD_some]
    refine ⟨_,if_pos ⟨by show t.length<=20;rw [t1.1];exact n2,t1.2.row⟩,_,if_pos ⟨by show p'.length<=20;rw [h4.1];exact n2,by show Qc (Am t).length p';rw [lE,t1.1];exact h4.row⟩,⟨i+1,by omega,by omega,Ap (by omega),h4.comp t1.inv,Fx.div h4 t1 h5 t2 hl t3,?_⟩,?_⟩
    ·rw [show N-(i+1)=N-i-1 by omega]
    ·show N-(IntKind.i64.wrap ((i:Int)+1)).toNat<N-((i:Int)).toNat
     rw [Ap (by omega)]
     omega
 ·rw [show N-i=0 by omega]
  rfl
theorem ED:Sound Try.prog 183 qF:=
 Sound.Dp jR (Ah Pr (Ah nD At)) mixed Try.func183 (by kernel_rfl) (by kernel_rfl) λx h=>ZU x.1 x.2.1 x.2.2.1 h
end Go.Proofs.Ytjbdmibbbpdnnaa

namespace Go.Proofs.Ytjbdmibbbpdnnaa
open Go.RowKit
abbrev th:Type:=Nat×Nat×Int×List (List (Option (List Int)))×Nat×List (List (Option (List Int)))×Nat×List Int×Int×PUnit
abbrev JW:Type:=Nat×Int×List (List (Option (List Int)))×Nat×List (List (Option (List Int)))×Nat×List Int×Int×PUnit
abbrev JX:Type:=Nat×List (List (Option (List Int)))×Nat×List (List (Option (List Int)))×Nat×List Int×Int×PUnit
abbrev Gu (G:List (List (Option (List Int)))) (l:Int) (p:Option (List Int)) (T:List (List (Option (List Int)))) (y7:Bool) (n:Int):Prop:=0=0/\(G.getD (0+l.toNat) []).length=(G.getD (0+l.toNat) []).length/\(G.getD (0+l.toNat) []).length+(List.take 1 (List.drop 0 [p])).length<=Bm/\((0:Int)<=l/\l<(↑G.length:Int))/\0=0/\(G.getD (0+l.toNat) []++List.take 1 (List.drop 0 [p])).length=(G.getD (0+l.toNat) []++List.take 1 (List.drop 0 [p])).length/\0+l.toNat=0+l.toNat/\ [(0,G.length),(0,G.length),(0,G.length),(0,T.length)]= [(0,G.length),(0,G.length),(0,G.length),(0,T.length)]/\(l,p,l,p,y7,l,l,0+l.toNat,p,List.take 1 (List.drop 0 [p]),0+l.toNat,G.set (0+l.toNat) (G.getD (0+l.toNat) []++List.take 1 (List.drop 0 [p])),min G.length (0+l.toNat),T,T.length,n,())=(l,p,l,p,y7,l,l,0+l.toNat,p,List.take 1 (List.drop 0 [p]),0+l.toNat,G.set (0+l.toNat) (G.getD (0+l.toNat) []++List.take 1 (List.drop 0 [p])),min G.length (0+l.toNat),T,T.length,n,PUnit.unit)
theorem Aa8 {m:Nat} (n:Int) (G T:List (List (Option (List Int)))) (l:Int) (p:Option (List Int)) (P:(Int×List (List (Option (List Int)))×List (List (Option (List Int)))×Unit)×Unit->Prop):(∃(y7:Bool),qF.fn ((n,List.take G.length (List.drop 0 G),List.take T.length (List.drop 0 T),()),l,p.getD [],())=some y7/\Br y7 ((0=0/\G.length=G.length)/\(0=0/\T.length=T.length)/\(Pn (m+1)).Cw (n,G,T,l,p,())<=G.length/\(Pn (m+1)).Cw (n,G,T,l,p,())<=T.length/\P ((n,G,T,()),())) (((0:Int)<=l/\l<(↑G.length:Int))/\0=0/\(G.getD (0+l.toNat) []).length=(G.getD (0+l.toNat) []).length/\(G.getD (0+l.toNat) []).length+(List.take 1 (List.drop 0 [p])).length<=Bm/\((0:Int)<=l/\l<(↑G.length:Int))/\0=0/\(G.getD (0+l.toNat) []++List.take 1 (List.drop 0 [p])).length=(G.getD (0+l.toNat) []++List.take 1 (List.drop 0 [p])).length/\0+l.toNat=0+l.toNat/\(((0:Int)<=l/\l<(↑T.length:Int))/\ ∃(y8:(List Int×PUnit)×PUnit),Kq.fn (T.getD (0+l.toNat) [],())=some y8/\0=0/\(List.take y8.1.1.length (List.drop 0 y8.1.1)).length=(List.take y8.1.1.length (List.drop 0 y8.1.1)).length/\0=0/\G.length=(G.set (0+l.toNat) (G.getD (0+l.toNat) []++List.take 1 (List.drop 0 [p]))).length/\0=0/\T.length=T.length/\Cb (λ(v9:JX) (k10:JX->Prop)=>Br (decide ((↑v9.2.2.2.2.2.1.length:Int)>(0:Int))) (((0:Int)<=l/\l<(↑v9.2.1.length:Int))/\0=0/\(List.take v9.2.2.2.2.2.1.length (List.drop 0 v9.2.2.2.2.2.1)).length=(List.take v9.2.2.2.2.2.1.length (List.drop 0 v9.2.2.2.2.2.1)).length/\0=0/\v9.2.1.length=v9.2.1.length/\0=0/\v9.2.2.2.1.length=v9.2.2.2.1.length/\Cb (λ(v11:th) (QR:th->Prop)=>Br (decide (v11.2.2.1<(↑(v9.2.1.getD (0+l.toNat) []).length:Int))) (((0:Int)<=v11.2.2.1/\v11.2.2.1<(↑(v11.2.2.2.1.getD v11.2.1 []).length:Int))/\((0:Int)<=(0:Int)/\(0:Int)<(↑v11.2.2.2.2.2.2.2.1.length:Int))/\ ∃(lK:Int),v11.2.2.2.2.2.2.2.1[0+Int.toNat (0:Int)]?=some lK/\ ∃(Tc:Int),idx (((v11.2.2.2.1.getD v11.2.1 []).getD v11.2.2.1.toNat (none:Option (List Int))).getD []) lK=some Tc/\((0:Int)<=Tc/\Tc<(↑(v11.2.2.2.2.2.1.getD v11.1 []).length:Int))/\Br ((v11.2.2.2.2.2.1.getD v11.1 []).getD Tc.toNat (none:Option (List Int))).isNone (((0:Int)<=(0:Int)/\(0:Int)<(↑v11.2.2.2.2.2.2.2.1.length:Int))/\ ∃(iK:Int),v11.2.2.2.2.2.2.2.1[0+Int.toNat (0:Int)]?=some iK/\((0:Int)<=iK/\iK<(↑(v11.2.2.2.2.2.1.getD v11.1 []).length:Int))/\ ∃(xb:Option (List Int)),Ra.fn (((v11.2.2.2.2.2.1.getD v11.1 []).getD iK.toNat (none:Option (List Int))).getD [],((v11.2.2.2.1.getD v11.2.1 []).getD v11.2.2.1.toNat (none:Option (List Int))).getD [],())=some xb/\((0:Int)<=Tc/\Tc<(↑(v11.2.2.2.2.2.1.getD v11.1 []).length:Int))/\0=0/\v11.2.2.2.2.2.2.2.1.length=v11.2.2.2.2.2.2.2.1.length/\v11.2.2.2.2.2.2.2.1.length+(List.take 1 (List.drop 0 [Tc])).length<=Bm/\0=0/\(List.take (v11.2.2.2.2.2.2.2.1++List.take 1 (List.drop 0 [Tc])).length (List.drop 0 (v11.2.2.2.2.2.2.2.1++List.take 1 (List.drop 0 [Tc])))).length=(List.take (v11.2.2.2.2.2.2.2.1++List.take 1 (List.drop 0 [Tc])).length (List.drop 0 (v11.2.2.2.2.2.2.2.1++List.take 1 (List.drop 0 [Tc])))).length/\0=0/\v11.2.2.2.1.length=v11.2.2.2.1.length/\0=0/\v11.2.2.2.2.2.1.length=(v11.2.2.2.2.2.1.set v11.1 ((v11.2.2.2.2.2.1.getD v11.1 []).set Tc.toNat xb)).length/\QR (v11.1,v11.2.1,IntKind.i64.wrap (v11.2.2.1+(1:Int)),v11.2.2.2.1,v11.2.2.2.2.1,v11.2.2.2.2.2.1.set v11.1 ((v11.2.2.2.2.2.1.getD v11.1 []).set Tc.toNat xb),v11.2.2.2.2.2.2.1,List.take (v11.2.2.2.2.2.2.2.1++List.take 1 (List.drop 0 [Tc])).length (List.drop 0 (v11.2.2.2.2.2.2.2.1++List.take 1 (List.drop 0 [Tc]))),v11.2.2.2.2.2.2.2.2.1,())) (0=0/\(List.take v11.2.2.2.2.2.2.2.1.length (List.drop 0 v11.2.2.2.2.2.2.2.1)).length=(List.take v11.2.2.2.2.2.2.2.1.length (List.drop 0 v11.2.2.2.2.2.2.2.1)).length/\0=0/\v11.2.2.2.1.length=v11.2.2.2.1.length/\0=0/\v11.2.2.2.2.2.1.length=v11.2.2.2.2.2.1.length/\QR (v11.1,v11.2.1,IntKind.i64.wrap (v11.2.2.1+(1:Int)),v11.2.2.2.1,v11.2.2.2.2.1,v11.2.2.2.2.2.1,v11.2.2.2.2.2.2.1,List.take v11.2.2.2.2.2.2.2.1.length (List.drop 0 v11.2.2.2.2.2.2.2.1),v11.2.2.2.2.2.2.2.2.1,()))) (((0:Int)<=(1:Int)/\(1:Int)<=(↑v11.2.2.2.2.2.2.2.1.length:Int)/\(↑v11.2.2.2.2.2.2.2.1.length:Int)<=(↑v11.2.2.2.2.2.2.2.1.length:Int))/\0=0/\(List.take ((↑v11.2.2.2.2.2.2.2.1.length:Int).toNat-Int.toNat (1:Int)) (List.drop (0+Int.toNat (1:Int)) v11.2.2.2.2.2.2.2.1)).length=(List.take ((↑v11.2.2.2.2.2.2.2.1.length:Int).toNat-Int.toNat (1:Int)) (List.drop (0+Int.toNat (1:Int)) v11.2.2.2.2.2.2.2.1)).length/\0=0/\v11.2.2.2.1.length=v11.2.2.2.1.length/\0=0/\v11.2.2.2.2.2.1.length=v11.2.2.2.2.2.1.length/\k10 (v11.1,v11.2.2.2.1,v11.2.2.2.2.1,v11.2.2.2.2.2.1,v11.2.2.2.2.2.2.1,List.take ((↑v11.2.2.2.2.2.2.2.1.length:Int).toNat-Int.toNat (1:Int)) (List.drop (0+Int.toNat (1:Int)) v11.2.2.2.2.2.2.2.1),v11.2.2.2.2.2.2.2.2.1,()))) (v9.1,0+l.toNat,(0:Int),v9.2.1,v9.2.2.1,v9.2.2.2.1,v9.2.2.2.2.1,List.take v9.2.2.2.2.2.1.length (List.drop 0 v9.2.2.2.2.2.1),v9.2.2.2.2.2.2.1,PUnit.unit)) (∃(Ke:(List Int×PUnit)×PUnit),Kq.fn (v9.2.2.2.1.getD v9.1 [],())=some Ke/\0=0/\Ke.1.1.length=Ke.1.1.length/\0=0/\v9.2.1.length=v9.2.1.length/\0=0/\v9.2.2.2.1.length=v9.2.2.2.1.length/\Cb (λ(ga:JW) (k13:JW->Prop)=>Br (decide (ga.2.1<(↑Ke.1.1.length:Int))) (((0:Int)<=ga.2.1/\ga.2.1<(↑ga.2.2.2.2.2.2.1.length:Int))/\ ∃(Tc:Int),ga.2.2.2.2.2.2.1[0+ga.2.1.toNat]?=some Tc/\((0:Int)<=l/\l<(↑ga.2.2.1.length:Int))/\0=0/\ga.2.2.2.2.2.2.1.length=ga.2.2.2.2.2.2.1.length/\0=0/\ga.2.2.1.length=ga.2.2.1.length/\0=0/\ga.2.2.2.2.1.length=ga.2.2.2.2.1.length/\Cb (λ(Le:th) (k16:th->Prop)=>Br (decide (Le.2.2.1<(↑(ga.2.2.1.getD (0+l.toNat) []).length:Int))) (((0:Int)<=Le.2.2.1/\Le.2.2.1<(↑(Le.2.2.2.1.getD Le.2.1 []).length:Int))/\((0:Int)<=Tc/\Tc<(↑(Le.2.2.2.2.2.1.getD Le.1 []).length:Int))/\ ∃(BG:Option (List Int)),Ra.fn (((Le.2.2.2.2.2.1.getD Le.1 []).getD Tc.toNat (none:Option (List Int))).getD [],((Le.2.2.2.1.getD Le.2.1 []).getD Le.2.2.1.toNat (none:Option (List Int))).getD [],())=some BG/\ ∃(BH:Int),idx (((Le.2.2.2.1.getD Le.2.1 []).getD Le.2.2.1.toNat (none:Option (List Int))).getD []) Tc=some BH/\((0:Int)<=BH/\BH<(↑(Le.2.2.2.2.2.1.getD Le.1 []).length:Int))/\ ∃(y19:List Int),Em.fn (((Le.2.2.2.2.2.1.getD Le.1 []).getD BH.toNat (none:Option (List Int))).getD [],())=some y19/\ ∃(FQ:Option (List Int)),Ra.fn (BG.getD [],y19,())=some FQ/\0=0/\Le.2.2.2.1.length=Le.2.2.2.1.length/\0=0/\Le.2.2.2.2.2.1.length=Le.2.2.2.2.2.1.length/\ ∃(xj:(Int×List (List (Option (List Int)))×List (List (Option (List Int)))×PUnit)×PUnit),(Pn m).fn (Le.2.2.2.2.2.2.2.2.1,Le.2.2.2.1,Le.2.2.2.2.2.1,IntKind.i64.wrap (l+(1:Int)),FQ,())=some xj/\(Le.1<(Pn m).Cw (Le.2.2.2.2.2.2.2.2.1,Le.2.2.2.1,Le.2.2.2.2.2.1,IntKind.i64.wrap (l+(1:Int)),FQ,())/\Le.1<(List.length xj.1.2.2.1))/\(Le.2.1<(Pn m).Cw (Le.2.2.2.2.2.2.2.2.1,Le.2.2.2.1,Le.2.2.2.2.2.1,IntKind.i64.wrap (l+(1:Int)),FQ,())/\Le.2.1<(List.length xj.1.2.1))/\(Le.1<(Pn m).Cw (Le.2.2.2.2.2.2.2.2.1,Le.2.2.2.1,Le.2.2.2.2.2.1,IntKind.i64.wrap (l+(1:Int)),FQ,())/\Le.1<(List.length xj.1.2.2.1))/\(Le.1<(Pn m).Cw (Le.2.2.2.2.2.2.2.2.1,Le.2.2.2.1,Le.2.2.2.2.2.1,IntKind.i64.wrap (l+(1:Int)),FQ,())/\Le.1<(List.length xj.1.2.2.1))/\0=0/\Le.2.2.2.2.2.2.2.1.length=Le.2.2.2.2.2.2.2.1.length/\0=0/\xj.1.2.1.length=xj.1.2.1.length/\0=0/\xj.1.2.2.1.length=xj.1.2.2.1.length/\k16 (Le.1,Le.2.1,IntKind.i64.wrap (Le.2.2.1+(1:Int)),xj.1.2.1,min Le.2.2.2.2.1 ((Pn m).Cw (Le.2.2.2.2.2.2.2.2.1,Le.2.2.2.1,Le.2.2.2.2.2.1,IntKind.i64.wrap (l+(1:Int)),FQ,())),xj.1.2.2.1,min Le.2.2.2.2.2.2.1 ((Pn m).Cw (Le.2.2.2.2.2.2.2.2.1,Le.2.2.2.1,Le.2.2.2.2.2.1,IntKind.i64.wrap (l+(1:Int)),FQ,())),Le.2.2.2.2.2.2.2.1,xj.1.1,())) (0=0/\Le.2.2.2.2.2.2.2.1.length=Le.2.2.2.2.2.2.2.1.length/\0=0/\Le.2.2.2.1.length=Le.2.2.2.1.length/\0=0/\Le.2.2.2.2.2.1.length=Le.2.2.2.2.2.1.length/\k13 (Le.1,IntKind.i64.wrap (ga.2.1+(1:Int)),Le.2.2.2.1,Le.2.2.2.2.1,Le.2.2.2.2.2.1,Le.2.2.2.2.2.2.1,Le.2.2.2.2.2.2.2.1,Le.2.2.2.2.2.2.2.2.1,()))) (ga.1,0+l.toNat,(0:Int),ga.2.2.1,ga.2.2.2.1,ga.2.2.2.2.1,ga.2.2.2.2.2.1,ga.2.2.2.2.2.2.1,ga.2.2.2.2.2.2.2.1,PUnit.unit)) ((0=0/\ga.2.2.1.length=ga.2.2.1.length)/\(0=0/\ga.2.2.2.2.1.length=ga.2.2.2.2.1.length)/\(Pn (m+1)).Cw (n,G,T,l,p,())<=ga.2.2.2.1/\(Pn (m+1)).Cw (n,G,T,l,p,())<=ga.2.2.2.2.2.1/\P ((ga.2.2.2.2.2.2.2.1,ga.2.2.1,ga.2.2.2.2.1,()),()))) (v9.1,(0:Int),v9.2.1,v9.2.2.1,v9.2.2.2.1,v9.2.2.2.2.1,Ke.1.1,v9.2.2.2.2.2.2.1,PUnit.unit))) (0+l.toNat,G.set (0+l.toNat) (G.getD (0+l.toNat) []++List.take 1 (List.drop 0 [p])),min G.length (0+l.toNat),T,T.length,List.take y8.1.1.length (List.drop 0 y8.1.1),n,PUnit.unit))/\(((((0:Int)<=l/\l<(↑G.length:Int))/\((Gu G l p T y7 n))/\(Gu G l p T y7 n))/\((0:Int)<=l/\l<(↑G.length:Int))/\(Gu G l p T y7 n))/\((0:Int)<=l/\l<(↑G.length:Int))/\(Gu G l p T y7 n))/\(((((0:Int)<=l/\l<(↑G.length:Int))/\((Gu G l p T y7 n))/\(Gu G l p T y7 n))/\((0:Int)<=l/\l<(↑G.length:Int))/\(Gu G l p T y7 n))/\(((0:Int)<=l/\l<(↑G.length:Int))/\(((Gu G l p T y7 n))/\(Gu G l p T y7 n))/\(((Gu G l p T y7 n))/\((Gu G l p T y7 n))/\(Gu G l p T y7 n))/\((Gu G l p T y7 n))/\((Gu G l p T y7 n))/\(Gu G l p T y7 n))/\(((0:Int)<=l/\l<(↑G.length:Int))/\(Gu G l p T y7 n))/\((0:Int)<=l/\l<(↑G.length:Int))/\((Gu G l p T y7 n))/\((Gu G l p T y7 n))/\(Gu G l p T y7 n))/\(((0:Int)<=l/\l<(↑G.length:Int))/\(Gu G l p T y7 n))/\(((0:Int)<=l/\l<(↑G.length:Int))/\(Gu G l p T y7 n))/\((0:Int)<=l/\l<(↑G.length:Int))/\((Gu G l p T y7 n))/\((Gu G l p T y7 n))/\(Gu G l p T y7 n)))=fnMW (KB [Lo+7]) (look [(183,qF),(174,Kq),(156,Ra),(175,Em),(173,Wa.m (Pn m))]) (Pn (m+1)) Try.f173 (n,G,T,l,p,()) P:=by kernel_rfl
theorem tZ {k l:Nat} {p:List Int} {s:Dc×Dc} (h:Iy s.2 k l p=true):Dr k l p s=s:=by
 cases k with
 |zero=>rfl
 |succ k=>unfold Dr;rw [if_pos h]
theorem tY (k l:Nat) (p:List Int) (s:Dc×Dc):Dr (k+1) l p s=if Iy s.2 (k+1) l p=true then s else
   (bh (Rt (s.1.getD l []++ [some p]) (s.2.getD l [])) (s.1.getD l []++ [some p])).foldl (λs q=>Dr k (l+1) q s)
    (s.1.set l (s.1.getD l []++ [some p]),s.2.set l (Rt (s.1.getD l []++ [some p]) (s.2.getD l []))):=rfl
theorem HS {n:Nat} {p:List Int} (h:Pm n p) {i:Nat} (hi:i<n):idx p (i:Int)=some (ap p i:Int):=by
 have ek:i<p.length:=by rw [h.1];exact hi
 rw [Ax ek,<-(h.Oq hi).1,Ie ek]
theorem xu {x:Int} {gs:List PO} {j:Nat} (hj:j<gs.length) (s:Row×List Int):Te x (gs.take (j+1)) s=Tm x (Te x (gs.take j) s) gs[j]:=by
 unfold Te
 rw [List.take_add_one,List.getElem?_eq_getElem hj,Option.toList_some,List.foldl_append]
 rfl
theorem xw {gs:List PO} {f:Nat} {row:Row} :Sw gs f [] row=row:=by cases f<;>rfl
theorem fm {n:Nat} {p:List Int} (h:Pm n p):0<p.length/\p.length<=20:=⟨by rw [h.1];exact h.n1,by rw [h.1];exact h.n2⟩
theorem yV {n:Nat} {p q:List Int} (h:Pm n p) (k:Pm n q):Qc q.length p:=by rw [k.1];exact h.row
theorem ZP {m:Nat} (n:Int) (G T:List (List (Option (List Int)))) (l:Int) (p:Option (List Int)) (h:(∃N L q,p=some q/\lL N L n G T l q)/\(n-l).toNat<m+1):
  fnMW (KB [Lo+7]) (look [(183,qF),(174,Kq),(156,Ra),(175,Em),(173,Wa.m (Pn m))]) (Pn (m+1)) Try.f173 (n,G,T,l,p,()) (λ(z:(Int×List (List (Option (List Int)))×List (List (Option (List Int)))×Unit)×Unit)=>z=((n,(Dr (n-l).toNat l.toNat (p.getD []) (G,T)).1,(Dr (n-l).toNat l.toNat (p.getD []) (G,T)).2,()),())):=by
 obtain ⟨⟨N,L,q,rfl,h⟩,hm⟩:=h
 have h':=h
 obtain ⟨n1,n2,en,el,hle,v,pm,fx⟩:=h
 subst en el
 have hk:((N:Int)-(L:Int)).toNat=N-L:=by omega
 rw [hk,Int.toNat_natCast]
 refine Eq.mp (Aa8 (N:Int) G T (L:Int) (some q) _) ⟨_,if_pos ⟨N,L,?a⟩,?b⟩
 case a=>
  simp only [List.drop_zero,List.take_length,Option.getD_some]
  exact h'
 obtain ⟨v1,v2,v3,v4⟩:=v
 dsimp only at v1 v2
 have hw:IntKind.i64.wrap ((L:Int)+1)=((L+1:Nat):Int):=Ap (by omega)
 simp only [Gu]
 simp only [List.drop_zero,List.take_length,Option.getD_some,hk,Int.toNat_natCast,Nat.zero_add,eq_self,true_and,and_true,List.take_succ_cons,List.take_zero,List.length_cons,List.length_nil,List.length_set,hw]
 refine Br.of (λhh=>⟨by show Int.toNat (L:Int)<=G.length;omega,by show Int.toNat (L:Int)<=T.length;omega,?_⟩) λhh=>?_
 ·rw [tZ (s:=(G,T)) hh]
 obtain ⟨k,hNk⟩: ∃k,N-L=k+1:=by
  cases e:N-L with
  |zero=>rw [e] at hh;simp [Iy] at hh
  |succ k=>exact ⟨k,rfl⟩
 have WU:L<N:=by omega
 have hv:V N (k+1) L (G,T):=by rw [<-hNk];exact ⟨v1,v2,v3,v4⟩
 rw [hNk] at hh⊢
 have e1:(0:Int)<=(L:Int)/\(L:Int)<(G.length:Int):=by omega
 have e1':(0:Int)<=(L:Int)/\(L:Int)<(T.length:Int):=by omega
 have hgl:(G.getD L []).length<=400:=MD n2 (by omega) hv
 have e2:(G.getD L []).length+1<=Bm:=by show _<=4294967296;omega
 simp only [e1,e1',e2,and_self,true_and,and_true]
 generalize zV:G.getD L []++ [some q]=gs
 have Ai7:gs.length<=401:=by rw [<-zV,List.length_append,List.length_singleton];omega
 have hg:PG N L gs:=by rw [<-zV];exact hv.pg pm fx
 have SW:Rw N L gs (T.getD L []):=by rw [<-zV];exact hv.Af6 q
 obtain ⟨r1,r2,r3⟩:=vU WU n2 hg SW
 generalize hR:Rt gs (T.getD L [])=R at r1 r2 r3
 have l8:Dr (k+1) L q (G,T)=(bh R gs).foldl (λs q=>Dr k (L+1) q s) (G.set L gs,T.set L R):=by
  rw [tY,if_neg (by rw [hh];simp)]
  dsimp only
  rw [zV,hR]
 rw [l8]
 have hTl:L<T.length:=by omega
 have hGl:L<G.length:=by omega
 have hG1:(G.set L gs).getD L []=gs:=ef G L hGl gs
 have hT1: ∀row:Row,(T.set L row).getD L []=row:=ef T L hTl
 refine ⟨_,if_pos (by show (T.getD L []).length<=20;rw [SW.rl];exact n2),?_⟩
 dsimp only
 have VN:(Hv (T.getD L [])).length+Ll (T.getD L [])<=40:=by have:=sm (T.getD L []);have:=vQ (T.getD L []);have:=SW.rl;omega
 have hq0:BI gs (Hv (T.getD L [])) (T.getD L []):=⟨λy hy=>Nf.1 hy,λy hy=> .inl (Nf.2 ⟨y,rfl,hy⟩)⟩
 refine ⟨λv=> ∃(row:Row) (qu:List Int) (kg kt:Nat),v=(L,G.set L gs,kg,T.set L row,kt,qu,(N:Int),())/\L<=kg/\L<=kt/\qu.length+Ll row<=40/\Rw N L gs row/\BI gs qu row/\Sw gs (qu.length+Ll row) qu row=R,
  fun v=>v.2.2.2.2.2.1.length+Ll (v.2.2.2.1.getD v.1 []),⟨T.getD L [],Hv (T.getD L []),min G.length L,T.length,?_,by omega,by omega,VN,SW,hq0,?_⟩,?_⟩
 ·rw [p8 T L hTl]
 ·rw [<-ue WU hg 100 _ _ (by omega) SW hq0];exact hR
 rintro v ⟨row,qu,kg,kt,rfl,SH,SK,hb,HK,hqi,GW⟩
 dsimp only
 simp only [hG1,hT1,List.length_set]
 refine Br.dec (λhl=>⟨e1.2,?_⟩) λhl=>?_
 ·cases qu with
  |nil=>simp at hl
  |cons x qu=>
  obtain ⟨p1,p2,xn,t,rfl,ht⟩:=yM WU hg HK hqi
  have LM:xn<N:=by rw [<-HK.rl];exact lz ht
  refine Aq gs.length (λv=>v.2.2.1) (λj v=> ∃kg kt:Nat,v=(L,L,(j:Int),G.set L gs,kg,T.set L (Te (xn:Int) (gs.take j) (row,qu)).1,kt,(xn:Int)::(Te (xn:Int) (gs.take j) (row,qu)).2,(N:Int),())/\L<=kg/\L<=kt) rfl ⟨kg,kt,rfl,SH,SK⟩ ?_
  rintro j v K hj hi ⟨kg,kt,rfl,h1,h2⟩ hK
  dsimp only
  simp only [hG1,hT1,Int.toNat_natCast]
  refine Br.dec (λhl=>?_) λhl=>?_
  ·have hl:j<gs.length:=by omega
   obtain ⟨x1,x2⟩:=JI WU hg (gs.take j) (q:=qu) (λo ho=>List.mem_of_mem_take ho) HK ht
   have Ss:=xu (x:=(xn:Int)) hl (row,qu)
   generalize Te (xn:Int) (gs.take j) (row,qu)=s at x1 x2 Ss⊢
   obtain ⟨r,qq⟩:=s
   dsimp only at x1 x2⊢
   obtain ⟨g,oA,Qb,SB⟩:=hg gs[j] (List.getElem_mem hl)
   have htx:r.getD xn none=some t:=x1.mono _ _ ht
   obtain ⟨t1,t2,t3,t4⟩:=x1.ok.rt _ _ htx
   have YM:r.length=N:=x1.ok.rl
   have hgj:gs.getD j none=some g:=by rw [GP hl];exact oA
   have hy:=Qb.lt LM
   have hga:=(Qb.Oq LM).1
   have MV:qq.length+Ll r=qu.length+Ll row:=x1.VW
   simp only [List.length_cons] at hb
   simp only [hgj,Option.getD_some]
   refine ⟨⟨by omega,by omega⟩,⟨by omega,by simp only [List.length_cons];omega⟩,_,rfl,_,HS Qb LM,⟨by omega,by omega⟩,?_⟩
   rw [oA] at Ss
   unfold Tm at Ss
   dsimp only at Ss
   rw [Option.getD_some,hga,Int.toNat_natCast,Int.toNat_natCast,htx,Option.getD_some] at Ss
   rw [Int.toNat_natCast]
   refine Br.of (λhn=>?_) λhn=>?_
   ·have hn:r.getD (ap g xn) none=none:=by
     cases e:r.getD (ap g xn) none with
     |none=>rfl
     |some u=>rw [e] at hn;simp at hn
    rw [hn] at Ss
    refine ⟨⟨by omega,by simp only [List.length_cons];omega⟩,_,rfl,⟨by omega,by omega⟩,some (Aa t g),?_,⟨by omega,by omega⟩,?_,?_⟩
    ·rw [Int.toNat_natCast,htx,Option.getD_some]
     exact if_pos ⟨fm t1,yV t1 Qb⟩
    ·show qq.length+1+1<=4294967296
     omega
    ·rw [Ap (by omega)]
     refine hK hl _ rfl ⟨kg,kt,?_,h1,h2⟩
     rw [Ss,List.set_set]
     rfl
   ·have hn: ∃u,r.getD (ap g xn) none=some u:=by
     cases e:r.getD (ap g xn) none with
     |none=>rw [e] at hn;simp at hn
     |some u=>exact ⟨u,rfl⟩
    obtain ⟨u,hn⟩:=hn
    rw [hn] at Ss
    rw [Ap (by omega)]
    refine hK hl _ rfl ⟨kg,kt,?_,h1,h2⟩
    rw [Ss]
  ·have:j=gs.length:=by omega
   subst this
   rw [List.take_length]
   generalize hs:Te (xn:Int) gs (row,qu)=s at p1 p2⊢
   obtain ⟨r,qq⟩:=s
   dsimp only at p1 p2⊢
   have MV:qq.length+Ll r=qu.length+Ll row:=p1.VW
   simp only [List.length_cons] at hb GW
   refine ⟨⟨by omega,by simp only [List.length_cons];omega,Int.le_refl _⟩,⟨r,qq,kg,kt,?_,h1,h2,by omega,p1.ok,p2,?_⟩,?_⟩
   ·simp
   ·rw [show qu.length+1+Ll row=(qu.length+Ll row)+1 by omega] at GW
    simp only [Sw,hs] at GW
    rw [MV]
    exact GW
   ·simp only [List.length_cons]
    have:(List.take (qq.length+1-Int.toNat 1) (List.drop (Int.toNat 1) ((xn:Int)::qq))).length=qq.length:=by simp
    rw [this]
    omega
 ·have:qu= []:=List.eq_nil_of_length_eq_zero (by omega)
  subst this
  rw [xw] at GW
  subst GW
  have hpr:=JE WU hg HK r3
  have YX:=hv.lower gs row
  have PU: ∀qs:List (List Int),(∀q∈qs,q∈bh row gs)->V N k (L+1) (qs.foldl (λs q=>Dr k (L+1) q s) (G.set L gs,T.set L row))/\Wz (L+1) (G.set L gs,T.set L row) (qs.foldl (λs q=>Dr k (L+1) q s) (G.set L gs,T.set L row)):=
   fun qs MX=>zL n1 n2 (by omega) qs _ (λq hq=>hpr q (MX q hq)) YX
  refine ⟨_,if_pos (by show row.length<=20;rw [HK.rl];exact n2),?_⟩
  dsimp only
  have hol:=sm row
  have YM:=HK.rl
  refine Aq (Hv row).length (λv=>v.2.1) (λi v=> ∃(s:Dc×Dc) (kg kt:Nat),v=(L,(i:Int),s.1,kg,s.2,kt,Hv row,(N:Int),())/\L<=kg/\L<=kt/\s=(((Hv row).take i).flatMap λy=>gs.map (Nb row y)).foldl (λs q=>Dr k (L+1) q s) (G.set L gs,T.set L row)) rfl ⟨_,kg,kt,rfl,SH,SK,rfl⟩ ?_
  rintro i v K hi ek ⟨s,kg,kt,rfl,h1,h2,hs⟩ hK
  dsimp only
  have Lc: ∀q∈((Hv row).take i).flatMap (λy=>gs.map (Nb row y)),q∈bh row gs:= λq hq=>by
   obtain ⟨y,hy,hq⟩:=List.mem_flatMap.1 hq
   exact List.mem_flatMap.2 ⟨y,List.mem_of_mem_take hy,hq⟩
  refine Br.dec (λhl=>?_) λhl=>?_
  ·have hl:i<(Hv row).length:=by omega
   obtain ⟨f1,f2⟩:=PU _ Lc
   rw [<-hs] at f1 f2
   have g1:s.1.getD L []=gs:=by rw [(f2.low L (by omega)).1];exact hG1
   have g2:s.1.length=N:=f1.1
   obtain ⟨yn,QL,ZB⟩:=Nf.1 (List.getElem_mem hl)
   obtain ⟨t,ht⟩:=Option.ne_none_iff_exists'.1 ZB
   have hyN:yn<N:=by rw [<-YM];exact lz ht
   obtain ⟨t1,t2,t3,t4⟩:=HK.rt _ _ ht
   refine ⟨⟨by omega,by omega⟩,(yn:Int),by rw [Int.toNat_natCast,List.getElem?_eq_getElem hl,QL],by omega,?_⟩
   rw [g1]
   refine Aq gs.length (λv=>v.2.2.1) (λj v=> ∃(s':Dc×Dc) (kg kt:Nat),v=(L,L,(j:Int),s'.1,kg,s'.2,kt,Hv row,(N:Int),())/\L<=kg/\L<=kt/\s'=(((Hv row).take i).flatMap (λy=>gs.map (Nb row y))++(gs.take j).map (Nb row (yn:Int))).foldl (λs q=>Dr k (L+1) q s) (G.set L gs,T.set L row)) rfl ⟨s,kg,kt,rfl,h1,h2,by simpa using hs⟩ ?_
   rintro j v K' hj rI ⟨s',kg,kt,rfl,h1,h2,ya⟩ WT
   dsimp only
   refine Br.dec (λHd=>?_) λHd=>?_
   ·have Hd:j<gs.length:=by omega
    have AH: ∀q∈((Hv row).take i).flatMap (λy=>gs.map (Nb row y))++(gs.take j).map (Nb row (yn:Int)),q∈bh row gs:= λq hq=>by
     rcases List.mem_append.1 hq with hq|hq
     ·exact Lc q hq
     ·obtain ⟨o,ho,rfl⟩:=List.mem_map.1 hq
      exact List.mem_flatMap.2 ⟨(yn:Int),Nf.2 ⟨yn,rfl,ZB⟩,List.mem_map.2 ⟨o,List.mem_of_mem_take ho,rfl⟩⟩
    obtain ⟨VC,f2'⟩:=PU _ AH
    rw [<-ya] at VC f2'
    obtain ⟨G',T'⟩:=s'
    dsimp only at VC f2'⊢
    have g1':G'.getD L []=gs:=by have:=(f2'.low L (by omega)).1;dsimp only at this;rw [this];exact hG1
    have g3':T'.getD L []=row:=by have:=(f2'.low L (by omega)).2;dsimp only at this;rw [this];exact hT1 row
    have g4':G'.length=N:=VC.1
    have g5':T'.length=N:=VC.2.1
    obtain ⟨g,oA,Qb,SB⟩:=hg gs[j] (List.getElem_mem Hd)
    have hgj:gs.getD j none=some g:=by rw [GP Hd];exact oA
    have hgm:some g∈gs:=by rw [<-oA];exact List.getElem_mem Hd
    have hy:=Qb.lt hyN
    obtain ⟨t',CF⟩:=Option.ne_none_iff_exists'.1 (r3 yn t g ht hgm)
    obtain ⟨u1,u2,u3,u4⟩:=HK.rt _ _ CF
    have YP:Nb row (yn:Int) gs[j]=Aa (Aa t g) (Am t'):=by rw [oA];exact cU ht CF
    have QF:=hpr _ (List.mem_flatMap.2 ⟨(yn:Int),Nf.2 ⟨yn,rfl,ZB⟩,List.mem_map.2 ⟨gs[j],List.getElem_mem Hd,YP⟩⟩)
    simp only [g1',g3',Int.toNat_natCast,hgj,ht,Option.getD_some]
    have mG:L<Int.toNat ((L+1:Nat):Int):=by omega
    have GR:=r6 n1 n2 k (L+1) _ (G',T') (by omega) VC QF.1 QF.2
    have Ag1:((Dr k (L+1) (Aa (Aa t g) (Am t')) (G',T')).1).length=N:=GR.v.1
    have Ag2:((Dr k (L+1) (Aa (Aa t g) (Am t')) (G',T')).2).length=N:=GR.v.2.1
    have LF:((N:Int)-((L+1:Nat):Int)).toNat=k:=by omega
    refine ⟨⟨by omega,by omega⟩,⟨by omega,by omega⟩,some (Aa t g),if_pos ⟨fm t1,yV t1 Qb⟩,_,HS Qb hyN,⟨by omega,by omega⟩,Am t',?_,some (Aa (Aa t g) (Am t')),?_,_,if_pos ⟨⟨N,L+1,_,rfl,?pr⟩,?lt⟩,⟨mG,?k1⟩,⟨mG,?k2⟩,⟨mG,?k3⟩,⟨mG,?k4⟩,?go⟩
    case pr=>exact ⟨n1,n2,rfl,rfl,by omega,by rw [show N-(L+1)=k by omega];exact VC,QF.1,QF.2⟩
    case lt=>
     show ((N:Int)-((L+1:Nat):Int)).toNat<m
     omega
    case go=>
     dsimp only
     rw [Ap (by omega)]
     refine WT Hd _ rfl ⟨_,_,_,rfl,?_,?_,?_⟩
     ·show L<=min kg (Int.toNat ((L+1:Nat):Int));omega
     ·show L<=min kt (Int.toNat ((L+1:Nat):Int));omega
     ·rw [List.take_add_one,List.getElem?_eq_getElem Hd,Option.toList_some,List.map_append,<-List.append_assoc,List.foldl_append,<-ya]
      simp only [List.map_cons,List.map_nil,List.foldl_cons,List.foldl_nil,YP,LF,Int.toNat_natCast,Option.getD_some]
    case k1=>simp only [LF,Int.toNat_natCast,Option.getD_some];omega
    case k2=>simp only [LF,Int.toNat_natCast,Option.getD_some];omega
    case k3=>simp only [LF,Int.toNat_natCast,Option.getD_some];omega
    case k4=>simp only [LF,Int.toNat_natCast,Option.getD_some];omega
    ·rw [Int.toNat_natCast,CF,Option.getD_some]
     exact if_pos ⟨by show t'.length<=20;rw [u1.1];exact n2,u1.2.row⟩
    ·exact if_pos ⟨fm (t1.comp Qb),yV (t1.comp Qb) u1.inv⟩
   ·have:j=gs.length:=by omega
    subst this
    rw [Ap (by omega)]
    refine hK hl _ rfl ⟨s',kg,kt,rfl,h1,h2,?_⟩
    rw [ya,List.take_length,List.take_add_one,List.getElem?_eq_getElem hl,Option.toList_some,List.flatMap_append,QL]
    simp
  ·have:i=(Hv row).length:=by omega
   subst this
   rw [List.take_length] at hs
   refine ⟨h1,h2,?_⟩
   rw [hs]
   rfl
theorem JS {m:Nat} (TH:Bo Try.prog 173 (Pn m)):Bo Try.prog 173 (Pn (m+1)):=
 Bo.xh (OH [Lo+7]) (Ah ED (Fg eI (Ah nE (Ah Pr (Fg TH At))))) mixed Try.func173 (by kernel_rfl) (by kernel_rfl) λx h=>ZP x.1 x.2.1 x.2.2.1 x.2.2.2.1 x.2.2.2.2.1 h
theorem z7:Bo Try.prog 173 (Pn 0):=
 Bo.xh jR At mixed Try.func173 (by kernel_rfl) (by kernel_rfl) λ_ h=>absurd h.2 (Nat.not_lt_zero _)
theorem nC: ∀m,Bo Try.prog 173 (Pn m)
 |0=>z7
 |m+1=>JS (nC m)
noncomputable abbrev sK:MSpec:=xh QS (λx=> ∃N L q,x.2.2.2.2.1=some q/\lL N L x.1 x.2.1 x.2.2.1 x.2.2.2.1 q)
 (λx=>((x.1,(Dr (x.1-x.2.2.2.1).toNat x.2.2.2.1.toNat (x.2.2.2.2.1.getD []) (x.2.1,x.2.2.1)).1,(Dr (x.1-x.2.2.2.1).toNat x.2.2.2.1.toNat (x.2.2.2.2.1.getD []) (x.2.1,x.2.2.1)).2,()),()))
theorem z8:Bo Try.prog 173 sK:=Bo.ZN (λx=>(x.1-x.2.2.2.1).toNat) nC
end Go.Proofs.Ytjbdmibbbpdnnaa

namespace Go.Proofs.Ytjbdmibbbpdnnaa
open Go.RowKit
def Tb (n:Nat):Dc:=List.replicate n []
def Zf (n i:Nat):Row:=(List.replicate n none).set i (some (upto n))
def Xq (n:Nat):Dc:=(List.range n).map λi=>Zf n i
def Nj (n:Nat) (gens:List PO):Dc×Dc:=gens.foldl (λs o=>Dr n 0 (o.getD []) s) (Tb n,Xq n)
noncomputable abbrev yh:MSpec:= {Hb:= [none,none],ins:= [(false, .Ee tI),(false, .Ee VX)],Ef:=false,Gd:= [none,none,none],outs:= [.Ee tI, .Al tO QX false, .Al tO QX false],fn:= λ_=>none,rp:=some 179}
noncomputable abbrev cS:MSpec:=xh yh (λx=>(1<=x.1/\x.1<=20)/\List.length x.2.1<=4294967296/\ ∀o∈(x.2.1:List PO),∃g,o=some g/\Pm x.1.toNat g)
 (λx=>((x.1,(Nj x.1.toNat x.2.1).1,(Nj x.1.toNat x.2.1).2,()),()))
abbrev Tx:Type:=Int×List (List (Option (List Int)))×Int×List (List (Option (List Int)))×PUnit
theorem wY (n:Int) (gens:List (Option (List Int))) (P:(Int×List (List (Option (List Int)))×List (List (Option (List Int)))×Unit)×Unit->Prop):(((0:Int)<=n/\n<(↑Bm:Int)+(1:Int))/\n=n/\0=0/\(List.replicate n.toNat ([]:List (Option (List Int)))).length=(List.replicate n.toNat ([]:List (Option (List Int)))).length/\0=0/\0=([]:List Int).length/\Cb (λ(v3:Tx) (k4:Tx->Prop)=>Br (decide (v3.1<n)) (((0:Int)<=n/\n<(↑Bm:Int)+(1:Int))/\n=n/\ ∃(y5:Option (List Int)),Wr.fn (n,())=some y5/\((0:Int)<=v3.1/\v3.1<(↑(List.replicate n.toNat (none:Option (List Int))).length:Int))/\0+v3.1.toNat<(List.replicate n.toNat (none:Option (List Int))).length/\0=0/\(List.replicate n.toNat (none:Option (List Int))).length=((List.replicate n.toNat (none:Option (List Int))).set (0+v3.1.toNat) y5).length/\(0=0/\v3.2.2.2.1.length=v3.2.2.2.1.length)/\(0=0/\1= [(List.replicate n.toNat (none:Option (List Int))).set (0+v3.1.toNat) y5].length)/\0< [(List.replicate n.toNat (none:Option (List Int))).set (0+v3.1.toNat) y5].length/\v3.2.2.2.1.length+ [(List.replicate n.toNat (none:Option (List Int))).set (0+v3.1.toNat) y5].length<=Bm/\0=0/\v3.2.1.length=v3.2.1.length/\0=0/\(v3.2.2.2.1++ [(List.replicate n.toNat (none:Option (List Int))).set (0+v3.1.toNat) y5]).length=(v3.2.2.2.1++ [(List.replicate n.toNat (none:Option (List Int))).set (0+v3.1.toNat) y5]).length/\k4 (IntKind.i64.wrap (v3.1+(1:Int)),v3.2.1,v3.2.2.1,v3.2.2.2.1++ [(List.replicate n.toNat (none:Option (List Int))).set (0+v3.1.toNat) y5],())) (0=0/\v3.2.1.length=v3.2.1.length/\0=0/\v3.2.2.2.1.length=v3.2.2.2.1.length/\Cb (λ(v5:Tx) (k6:Tx->Prop)=>Br (decide (v5.1<(↑gens.length:Int))) (∃(y7:Option (List Int)),idx gens v5.1=some y7/\0=0/\v5.2.1.length=v5.2.1.length/\0=0/\v5.2.2.2.1.length=v5.2.2.2.1.length/\ ∃(y8:(Int×List (List (Option (List Int)))×List (List (Option (List Int)))×PUnit)×PUnit),sK.fn (v5.2.2.1,v5.2.1,v5.2.2.2.1,(0:Int),y7,())=some y8/\0=0/\y8.1.2.1.length=y8.1.2.1.length/\0=0/\y8.1.2.2.1.length=y8.1.2.2.1.length/\k6 (IntKind.i64.wrap (v5.1+(1:Int)),y8.1.2.1,y8.1.1,y8.1.2.2.1,())) ((0=0/\v5.2.1.length=v5.2.1.length)/\(0=0/\v5.2.2.2.1.length=v5.2.2.2.1.length)/\P ((v5.2.2.1,v5.2.1,v5.2.2.2.1,()),()))) ((0:Int),v3.2.1,v3.2.2.1,v3.2.2.2.1,PUnit.unit))) ((0:Int),List.replicate n.toNat ([]:List (Option (List Int))),n,[],PUnit.unit))=fnMW Tz (look [(127,Wr),(173,sK)]) cS Try.f154 (n,gens,()) P:=by kernel_rfl
theorem Vs (n i:Nat):(Tb n).getD i []= []:=by
 unfold Tb
 rw [List.getD_eq_getElem?_getD,List.getElem?_replicate]
 split<;>rfl
theorem fX {n i:Nat} (h:i<n):(Xq n).getD i []=Zf n i:=by
 unfold Xq
 rw [List.getD_eq_getElem?_getD,List.getElem?_map,List.getElem?_range h]
 rfl
theorem iB {n i y:Nat} (h:i<n):(Zf n i).getD y none=if i=y then some (upto n) else none:=by
 unfold Zf
 rw [Qo,List.length_replicate]
 by_cases e:i=y
 ·rw [if_pos ⟨e,h⟩,if_pos e]
 ·rw [if_neg (λhh=>e hh.1),if_neg e,List.getD_eq_getElem?_getD,List.getElem?_replicate]
  split<;>rfl
theorem nR {n:Nat} (h1:1<=n) (h2:n<=20): ∀(k l:Nat),l+k=n->fa n k l (Tb n,Xq n)
 |0,l,hk=>Vs n l
 |k+1,l,hk=>by
  have hl:l<n:=by omega
  have hg: ∀(g:List Int) (j:Nat),some g∈(Tb n).getD j []->False:= λg j hg=>by rw [Vs] at hg;cases hg
  refine ⟨nR h1 h2 k (l+1) (by omega),⟨λo ho=>?_,?_,?_,λy t e0=>?_,λy t g _ Zk=>(hg _ _ Zk).elim,λy t g t' _ Zk=>(hg _ _ Zk).elim⟩,λg Zk=>(hg _ _ Zk).elim⟩
  ·have ho:o∈(Tb n).getD l []:=ho
   rw [Vs] at ho;cases ho
  ·show ((Xq n).getD l []).length=n
   rw [fX hl];simp [Zf]
  ·show ((Xq n).getD l []).getD l none=_
   rw [fX hl,iB hl,if_pos rfl]
  ·replace e0:((Xq n).getD l []).getD y none=some t:=e0
   rw [fX hl,iB hl] at e0
   by_cases hy:l=y
   ·rw [if_pos hy] at e0
    have e1:=Option.some.inj e0
    subst e1 hy
    exact ⟨Pm.id h1 h2,λi hi=>dV (by omega),dV hl, .id⟩
   ·rw [if_neg hy] at e0;cases e0
theorem wF (n:Nat): ∀(k l:Nat),WC k l (Tb n,Xq n)
 |0,_=>trivial
 |k+1,l=>⟨wF n k (l+1),by show ((Tb n).getD l []).length<=_;rw [Vs];exact Nat.zero_le _⟩
theorem AX {n:Nat} (h1:1<=n) (h2:n<=20):V n n 0 (Tb n,Xq n):=⟨by simp [Tb],by simp [Xq],nR h1 h2 n 0 (by omega),wF n n 0⟩
def PmL (n:Nat) (gens:List PO):Prop:= ∀o∈gens,∃g,o=some g/\Pm n g
theorem tX {n:Nat} {gens:List PO} {j:Nat} (hj:j<gens.length):Nj n (gens.take (j+1))=Dr n 0 (gens[j].getD []) (Nj n (gens.take j)):=by
 unfold Nj
 rw [List.take_add_one,List.getElem?_eq_getElem hj,Option.toList_some,List.foldl_append]
 rfl
theorem iQ {n:Nat} (h1:1<=n) (h2:n<=20): ∀(gens:List PO) (s:Dc×Dc),PmL n gens->V n n 0 s->V n n 0 (gens.foldl (λs o=>Dr n 0 (o.getD []) s) s)/\
  Wz 0 s (gens.foldl (λs o=>Dr n 0 (o.getD []) s) s)/\(∀g,some g∈gens->Gn n ((gens.foldl (λs o=>Dr n 0 (o.getD []) s) s).1.getD 0 []) g)/\ ∀o∈(gens.foldl (λs o=>Dr n 0 (o.getD []) s) s).1.getD 0 [],o∈s.1.getD 0 []\/o∈gens
 | [],s,_,hv=>⟨hv,Wz.refl _ _,(λ_ hg=>by cases hg),λ_ ho=> .inl ho⟩
 |o::gens,s,hg,hv=>by
  obtain ⟨g,rfl,Qb⟩:=hg o (by simp)
  have ha:=r6 h1 h2 n 0 g s (by omega) hv Qb (λi hi=>absurd hi (Nat.not_lt_zero _))
  obtain ⟨a1,a2,a3,a4⟩:=iQ h1 h2 gens (Dr n 0 g s) (λo ho=>hg o (by simp [ho])) ha.v
  refine ⟨a1,ha.grow.trans a2 (Nat.le_refl _),λg' Zk=>?_,λo ho=>?_⟩
  ·rcases List.mem_cons.1 Zk with e|Zk
   ·cases e;exact ha.ZK.mono λg hg=>a2.zP _ _ hg
   ·exact a3 g' Zk
  ·rcases a4 o ho with h|h
   ·rcases ha.gens o h with h|h
    ·exact .inl h
    ·exact .inr (by simp [h])
   ·exact .inr (by simp [h])
theorem tW {n:Nat} (h1:1<=n) (h2:n<=20) {gens:List PO} (hg:PmL n gens):V n n 0 (Nj n gens):=(iQ h1 h2 gens _ hg (AX h1 h2)).1
theorem mA {n:Nat} (h1:1<=n) (h2:n<=20) {gens:List PO} (hg:PmL n gens) {p:List Int} (hp:Pm n p):Iy (Nj n gens).2 n 0 p=true↔Gn n gens p:=by
 obtain ⟨a1,a2,a3,a4⟩:=iQ h1 h2 gens _ hg (AX h1 h2)
 have hS:zA n λg=>some g∈gens:=⟨⟨h1,h2⟩,λg Zk=>by obtain ⟨g',e,h⟩:=hg _ Zk;cases e;exact h⟩
 have Lc: ∀g,some g∈(Nj n gens).1.getD 0 []->some g∈gens:= λg Zk=>by
  rcases a4 _ Zk with h|h
  ·have h:some g∈(Tb n).getD 0 []:=h
   rw [Vs] at h;cases h
  ·exact h
 have WV:zA n λg=>some g∈(Nj n gens).1.getD 0 []:=⟨⟨h1,h2⟩,λg Zk=>hS.2 g (Lc g Zk)⟩
 refine (gN h1 h2 n 0 (Nj n gens) (by omega) a1.2.2.1 p hp λi hi=>absurd hi (Nat.not_lt_zero _)).trans ⟨λh=>h.mono Lc,λh=>h.trans WV λg Zk=>a3 g Zk⟩
theorem w6 (n:Int) (gens:List (Option (List Int))) (h:(1<=n/\n<=20)/\List.length gens<=4294967296/\ ∀o∈(gens:List PO),∃g,o=some g/\Pm n.toNat g):
  fnMW Tz (look [(127,Wr),(173,sK)]) cS Try.f154 (n,gens,()) (λ(z:(Int×List (List (Option (List Int)))×List (List (Option (List Int)))×Unit)×Unit)=>z=((n,(Nj n.toNat gens).1,(Nj n.toNat gens).2,()),())):=by
 obtain ⟨⟨h1,h2⟩,h3,hg⟩:=h
 obtain ⟨N,rfl⟩: ∃N:Nat,n=N:=⟨n.toNat,by omega⟩
 rw [Int.toNat_natCast] at hg⊢
 have h1:1<=N:=by omega
 have h2:N<=20:=by omega
 refine Eq.mp (wY (N:Int) gens _) ?_
 have hm:((0:Int)<=(N:Int)/\(N:Int)<(Bm:Int)+1):=⟨by omega,by show (N:Int)<(4294967296:Int)+1;omega⟩
 simp only [hm,and_self,eq_self,true_and,Int.toNat_natCast,Nat.zero_add,List.length_nil,List.length_set,List.length_replicate,List.length_cons,Nat.lt_add_one,List.length_append]
 refine Aq N (λv=>v.1) (λj v=>v=((j:Int),Tb N,(N:Int),(List.range j).map (Zf N),())) rfl rfl ?_
 rintro j v K hj hi rfl hK
 dsimp only
 refine Br.dec (λhl=>?_) λhl=>?_
 ·refine ⟨_,if_pos ⟨by show (1:Int)<=N;omega,by show (N:Int)<=20;omega⟩,⟨by omega,by omega⟩,by rw [Int.toNat_natCast];omega,?_,?_⟩
  ·show _<=4294967296
   simp only [List.length_map,List.length_range]
   omega
  ·rw [Ap (by omega)]
   refine hK (by omega) _ rfl ?_
   rw [List.range_succ,List.map_append]
   rfl
 ·have:j=N:=by omega
  subst this
  refine Aq gens.length (λv=>v.1) (λi v=>v=((i:Int),(Nj j (gens.take i)).1,(j:Int),(Nj j (gens.take i)).2,())) rfl rfl ?_
  rintro i v K' ek Ai9 rfl WT
  dsimp only
  refine Br.dec (λHd=>?_) λHd=>?_
  ·have Hd:i<gens.length:=by omega
   obtain ⟨g,oA,Qb⟩:=hg gens[i] (List.getElem_mem Hd)
   have hv:=tW h1 h2 (gens:=gens.take i) λo ho=>hg o (List.mem_of_mem_take ho)
   refine ⟨_,Ax Hd,_,if_pos ⟨j,0,g,oA,h1,h2,rfl,rfl,Nat.zero_le _,hv,Qb,λi hi=>absurd hi (Nat.not_lt_zero _)⟩,?_⟩
   rw [Ap (by omega)]
   refine WT Hd _ rfl ?_
   rw [tX Hd]
   simp only [Int.sub_zero,Int.toNat_natCast]
   rfl
  ·have:i=gens.length:=by omega
   subst this
   rw [List.take_length]
theorem lh:Bo Try.prog 154 cS:=
 Bo.xh jR (Ah lf (Fg z8 At)) mixed Try.func154 (by kernel_rfl) (by kernel_rfl) λx h=>w6 x.1 x.2.1 h
end Go.Proofs.Ytjbdmibbbpdnnaa

namespace Go.Proofs.Ytjbdmibbbpdnnaa
open Go.RowKit
def Vm (T:Dc):Nat->Nat
 |0=>1
 |j+1=>Vm T j*(Hv (T.getD j [])).length
noncomputable abbrev dK:Spec:=Dp (.pair (.ptr tj) (.pair tI .unit)) tI false true (λx=>x.2.1=0/\ ∃N:Nat,(1<=N/\N<=20)/\x.1.1=N/\V N N 0 (x.1.2.1,x.1.2.2.1)) (λx=>(Vm x.1.2.2.1 x.1.1.toNat:Int))
noncomputable abbrev va:MSpec:= {Hb:= [none,none],ins:= [(false, .Ee tI),(false, .Ee fY)],Ef:=false,Gd:= [none,none,none],outs:= [.Ee tI, .Al tO QX false, .Al tO QX false],fn:= λ_=>none,rp:=some 179}
def Tn (n:Int) (g:List (List Int)):Dc×Dc:=Nj n.toNat (g.map some)
noncomputable abbrev Re:MSpec:=xh va (λx=>(1<=x.1/\x.1<=20)/\List.length x.2.1<=4294967296/\ ∀g∈(x.2.1:List (List Int)),Pm x.1.toNat g)
 (λx=>((x.1,(Tn x.1 x.2.1).1,(Tn x.1 x.2.1).2,()),()))
noncomputable def Pd (p:PP):Int:=if Bh p=true then (Vm (Tn p.1 p.2.2.1).2 p.1.toNat:Int) else 0
noncomputable abbrev Mb:Spec:=Dp (.pair Cu .unit) tI false true (λx=>Cj x.1) (λx=>Pd x.1)
theorem OR (c:Int×List (List (Option (List Int)))×List (List (Option (List Int)))×Unit) (l:Int) (P:Int->Prop):(Cb (λ(v3:Int×Int×PUnit) (k4:Int×Int×PUnit->Prop)=>Br (decide (v3.2.1<c.1)) (∃(y5:List (Option (List Int))),idx c.2.2.1 v3.2.1=some y5/\ ∃(y6:(List Int×PUnit)×PUnit),Kq.fn (y5,())=some y6/\ ∃(y7:Int),Mp.fn (List.take y6.1.1.length (List.drop 0 y6.1.1),())=some y7/\k4 (IntKind.i64.wrap (v3.1*y7),IntKind.i64.wrap (v3.2.1+(1:Int)),())) (P v3.1)) ((1:Int),l,PUnit.unit))=fnW Tz (look [(174,Kq),(82,Mp)]) dK Try.f155 (c,l,()) P:=by kernel_rfl
theorem tH (p:Int×ByteArray×List (List Int)×Unit) (P:Int->Prop):(∃(y2:Bool),Eo.fn ((p.1,p.2.1,p.2.2.1,()),())=some y2/\Br (!y2) (P (0:Int)) (∃(y3:(Int×List (List (Option (List Int)))×List (List (Option (List Int)))×PUnit)×PUnit),Re.fn (p.1,p.2.2.1,())=some y3/\ ∃(y4:Int),dK.fn ((y3.1.1,List.take y3.1.2.1.length (List.drop 0 y3.1.2.1),List.take y3.1.2.2.1.length (List.drop 0 y3.1.2.2.1),()),(0:Int),())=some y4/\P y4))=fnW Di (look [(130,Eo),(154,Re),(155,dK)]) Mb Try.f126 (p,()) P:=by kernel_rfl
theorem OJ (n i:Nat):(upto n).countP (λy=>decide ((i:Int)<=y))=n-i:=by
 induction n with
 |zero=>simp [upto]
 |succ n ih=>
  rw [Zh,List.countP_append,ih]
  simp only [List.countP_cons,List.countP_nil,decide_eq_true_eq]
  split<;>omega
theorem NL {n i:Nat} {gs:List PO} {row:Row} {H:List Int->Prop} (hi:i<n) (h:LP n i gs row H):(Hv row).length<=n-i:=by
 rw [<-OJ n i]
 unfold Hv
 rw [h.rl,<-List.countP_eq_length_filter]
 refine List.countP_mono_left λy hy hs=>?_
 obtain ⟨h1,h2⟩:=Ik.1 hy
 obtain ⟨t,ht⟩:=Option.isSome_iff_exists.1 hs
 obtain ⟨t1,t2,t3,_⟩:=h.rt _ _ ht
 refine decide_eq_true ?_
 refine Classical.byContradiction λhn=>?_
 have hy':y.toNat<i:=by omega
 have:=t1.inj hi (by omega:y.toNat<n) (by rw [t3,t2 _ hy'])
 omega
def fact:Nat->Nat
 |0=>1
 |n+1=>(n+1)*fact n
theorem uF: ∀n,1<=fact n
 |0=>Nat.le_refl _
 |n+1=>by have:=uF n;simp only [fact];exact Nat.le_trans this (Nat.le_mul_of_pos_left _ (by omega))
theorem BS {a b:Nat} (h:a<=b):fact a<=fact b:=by
 induction h with
 |refl=>exact Nat.le_refl _
 |step _ ih=>simp only [fact];exact Nat.le_trans ih (Nat.le_mul_of_pos_left _ (by omega))
theorem IT {n:Nat} {s:Dc×Dc} (hc:fa n n 0 s): ∀j,j<=n->Vm s.2 j*fact (n-j)<=fact n
 |0,_=>by simp [Vm]
 |j+1,hj=>by
  have ih:=IT hc j (by omega)
  have h1:=NL (by omega) (gw n 0 hc j (by omega) (by omega))
  have e:n-j=(n-(j+1))+1:=by omega
  simp only [Vm]
  rw [e] at ih h1
  simp only [fact] at ih
  rw [Nat.mul_assoc]
  exact Nat.le_trans (Nat.mul_le_mul_left _ (Nat.mul_le_mul_right _ h1)) ih
theorem DA {n:Nat} (h2:n<=20) {s:Dc×Dc} (hc:fa n n 0 s) {j:Nat} (hj:j<=n):Vm s.2 j<=2432902008176640000:=by
 have h1:=IT hc j hj
 have h3:=uF (n-j)
 have h4:fact n<=2432902008176640000:=Nat.le_trans (BS h2) (by decide)
 have h5:Vm s.2 j*1<=Vm s.2 j*fact (n-j):=Nat.mul_le_mul_left _ h3
 omega
theorem NR (c:Int×List (List (Option (List Int)))×List (List (Option (List Int)))×Unit) (l:Int) (h:l=0/\ ∃N:Nat,(1<=N/\N<=20)/\c.1=N/\V N N 0 (c.2.1,c.2.2.1)):
  fnW Tz (look [(174,Kq),(82,Mp)]) dK Try.f155 (c,l,()) (λ(z:Int)=>z=(Vm c.2.2.1 c.1.toNat:Int)):=by
 obtain ⟨rfl,N,⟨h1,h2⟩,hN,v⟩:=h
 obtain ⟨n,G,T,⟨⟩⟩:=c
 dsimp only at hN v⊢
 subst hN
 refine Eq.mp (OR ((N:Int),G,T,()) 0 _) ?_
 obtain ⟨v1,v2,v3,v4⟩:=v
 dsimp only at v1 v2⊢
 rw [Int.toNat_natCast]
 refine Aq N (λv=>v.2.1) (λj v=>v.1=(Vm T j:Int)) rfl rfl ?_
 rintro j ⟨o,i,⟨⟩⟩ K hj hi ho hK
 dsimp only at hi ho⊢
 subst hi ho
 refine Br.dec (λhl=>?_) λhl=>?_
 ·have hl:j<N:=by omega
  have hT:j<T.length:=by omega
  have Qq:=gw N 0 v3 j (by omega) (by omega)
  have YM:=Qq.rl
  dsimp only at YM
  rw [uM hT] at YM
  refine ⟨_,Ax hT,_,if_pos (by show (T[j]).length<=20;omega),_,if_pos trivial,?_⟩
  rw [List.drop_zero,List.take_length,Ap (by omega)]
  have hb:=DA h2 v3 (j:=j+1) (by omega)
  simp only [Vm] at hb
  rw [uM hT] at hb
  have e:(Vm T j:Int)*((Hv T[j]).length:Int)=((Vm T j*(Hv T[j]).length:Nat):Int):=by push_cast;rfl
  show K (IntKind.i64.wrap ((Vm T j:Int)*((Hv T[j]).length:Int)),_,())
  rw [e,Bk (by omega) (by omega)]
  refine hK hl _ rfl ?_
  simp only [Vm]
  rw [uM hT]
 ·have:j=N:=by omega
  subst this
  rfl
theorem wz:Sound Try.prog 155 dK:=
 Sound.Dp jR (Fg eI (Ah aI At)) mixed Try.func155 (by kernel_rfl) (by kernel_rfl) λx h=>NR x.1 x.2.1 h
theorem Cells.told {w:World} {S:Nat->Prop} {e:Ty} {cs:List Value} {xs:List e.den} (h:Cells w S (.slice e) cs xs): ∃o:Option (List e.den),Cells w S (.oslice e) cs o/\o.getD []=xs:=by
 simp only [Cells] at h
 obtain ⟨a,len,cap,rfl,h1,h2,h3⟩:=h
 cases a with
 |none=>
  rcases h3 with rfl|⟨g,o,h,_⟩
  ·refine ⟨none,?_,rfl⟩
   simp only [Cells]
   exact .inl ⟨trivial,cap,by rw [h1];rfl⟩
  ·cases h
 |some ad=>
  refine ⟨some xs,?_,rfl⟩
  simp only [Cells]
  exact .inr ⟨xs,ad,len,cap,rfl,rfl,h1,h2,h3.imp id λ⟨g,o,h,h4⟩=>⟨g,o,Option.some.inj h,h4⟩⟩
theorem xp {α β:Type} (Q:Nat->α->β->Prop): ∀(xs:List α),(∀i x,xs[i]?=some x-> ∃y,Q i x y)-> ∃ys:List β,ys.length=xs.length/\ ∀i x y,xs[i]?=some x->ys[i]?=some y->Q i x y:=by
 intro xs h
 refine ⟨List.ofFn λi:Fin xs.length=>Classical.choose (h i xs[i] (List.getElem?_eq_getElem i.2)),by simp,λi x y h1 h2=>?_⟩
 obtain ⟨hi,rfl⟩:=List.getElem?_eq_some_iff.1 h1
 obtain ⟨ek,rfl⟩:=List.getElem?_eq_some_iff.1 h2
 rw [List.getElem_ofFn]
 exact Classical.choose_spec (h i xs[i] (List.getElem?_eq_getElem hi))
theorem Bd.Aa7 {w:World} {S:Nat->Prop} {e:Ty} {v:Value} {xs:List (List e.den)} (h:Bd w S (.slice (.slice e)) v xs): ∃os:List (Option (List e.den)),Bd w S (.slice (.oslice e)) v os/\os.map (·.getD [])=xs:=by
 obtain ⟨cs,hc,rfl⟩:=h
 simp only [Cells] at hc
 obtain ⟨a,len,cap,rfl,h1,h2,h3⟩:=hc
 rcases h3 with rfl|⟨g,o,rfl,hg,hS,h4⟩
 ·refine ⟨[],⟨_,?_,rfl⟩,rfl⟩
  simp only [Cells]
  exact ⟨a,len,cap,rfl,h1,h2, .inl trivial⟩
 ·obtain ⟨os,e1,e2⟩:=xp (λi (x:List e.den) (y:Option (List e.den))=>y.getD []=x/\ ∃es:List Value,es.length=1/\(∀j u,es[j]?=some u->w.cell? ⟨g,o+i*1+j,none⟩=some u)/\Cells w S (.oslice e) es y) xs λi x hx=>by
   obtain ⟨es,k1,k2,k3⟩:=h4 i x hx
   obtain ⟨y,k4,k5⟩:=Cells.told (e:=e) (by simp only [Cells];exact k3)
   exact ⟨y,k5,es,k1,k2,k4⟩
  refine ⟨os,⟨_,?_,rfl⟩,?_⟩
  ·simp only [Cells]
   refine ⟨_,len,cap,rfl,by rw [h1,e1],h2, .inr ⟨g,o,rfl,hg,hS,λi y hy=>?_⟩⟩
   obtain ⟨hi,_⟩:=List.getElem?_eq_some_iff.1 hy
   obtain ⟨_,es,k1,k2,k3⟩:=e2 i _ y (List.getElem?_eq_getElem (by omega)) hy
   simp only [Cells] at k3
   exact ⟨es,k1,k2,k3⟩
  ·refine List.ext_getElem (by simp [e1]) λi g1 g2=>?_
   rw [List.getElem_map]
   exact (e2 i _ _ (List.getElem?_eq_getElem g2) (List.getElem?_eq_getElem (by omega))).1
theorem nI:Bo Try.prog 154 Re:=by
 have h:=lh
 refine ⟨h.enter,λw S π us x r o g vs h1 hg h2 h3 hS h4 h5=>?_⟩
 obtain ⟨n,gens,⟨⟩⟩:=x
 match us,h2 with
 |u1::u2::us,h2=>
  obtain ⟨h6,⟨h7,h8⟩,h9⟩:=h2
  obtain ⟨os,ki,eg⟩:=Bd.Aa7 (e:=tI) h8
  have eg:os.map (·.getD [])=(gens:List (List Int)):=eg
  have fE:(1<=n/\n<=20)/\List.length gens<=4294967296/\ ∀g∈(gens:List (List Int)),Pm n.toNat g:=Classical.byContradiction λhn=>by
   have:Re.fn (n,gens,())=none:=if_neg hn
   rw [this] at h5;cases h5
  have hos:os=gens.map some:=by
   rw [<-eg,List.map_map]
   refine (List.map_id os).symm.trans (List.map_congr_left λx hx=>?_)
   cases x with
   |some y=>rfl
   |none=>
    have:=fE.2.2 [] (by rw [<-eg];exact List.mem_map.2 ⟨none,hx,rfl⟩)
    have h1:=this.n1
    have h2:=this.1
    simp at h2
    omega
  have hv:Re.fn (n,gens,())=some ((n,(Tn n gens).1,(Tn n gens).2,()),()):=if_pos fE
  rw [hv] at h5
  have h5:=Option.some.inj h5
  refine h.calls w S π (u1::u2::us) (n,os,()) r o g vs h1 hg ⟨h6,⟨h7,ki⟩,h9⟩ h3 hS h4 ?_
  refine (if_pos ⟨fE.1,by rw [hos,List.length_map];exact fE.2.1,λy hy=>?pp⟩).trans (congrArg some ?qq)
  case pp=>
   replace hy:y∈os:=hy
   rw [hos] at hy
   obtain ⟨g,hg,rfl⟩:=List.mem_map.1 hy
   exact ⟨g,rfl,fE.2.2 g hg⟩
  case qq=>subst hos;exact h5
theorem gu {p:PP} (hv:Valid p):(1<=p.1/\p.1<=20)/\List.length p.2.2.1<=4294967296/\ ∀g∈p.2.2.1,Pm p.1.toNat g:=
 ⟨hv.n,by have:=hv.ec;omega,λg hg=>⟨by have:=hv.len g hg;omega,fQ (hv.perm g hg)⟩⟩
theorem nm {n:Nat} {g:List (List Int)} (h: ∀x∈g,Pm n x):PmL n (g.map some):= λo ho=>by
 obtain ⟨x,hx,rfl⟩:=List.mem_map.1 ho
 exact ⟨x,rfl,h x hx⟩
theorem rk {p:PP} (hv:Valid p):V p.1.toNat p.1.toNat 0 (Tn p.1 p.2.2.1):=by
 have:=hv.n
 exact tW (by omega) (by omega) (nm (gu hv).2.2)
theorem sw (p:PP) (h:Cj p):fnW Di (look [(130,Eo),(154,Re),(155,dK)]) Mb Try.f126 (p,()) (λ(z:Int)=>z=Pd p):=by
 refine Eq.mp (tH p _) ⟨_,if_pos h,?_⟩
 show Br (!Bh p) _ _
 unfold Pd
 cases hv:Bh p with
 |false=>exact Br.of (λ_=>rfl) λhh=>by cases hh
 |true=>
  refine Br.of (λhh=>by cases hh) λ_=>?_
  have hV:=valid hv
  have hn:=hV.n
  refine ⟨_,if_pos (gu hV),_,if_pos ⟨rfl,p.1.toNat,⟨by omega,by omega⟩,(Int.toNat_of_nonneg (by omega:(0:Int)<=p.1)).symm,?vv⟩,?_⟩
  case vv=>
   simp only [List.drop_zero,List.take_length]
   exact rk hV
  simp only [List.drop_zero,List.take_length]
  exact (if_pos trivial).symm
theorem jK:Sound Try.prog 126 Mb:=
 Sound.Dp Cf (Ah Ze (Fg nI (Ah wz At))) mixed Try.func126 (by kernel_rfl) (by kernel_rfl) λx h=>sw x.1 h
end Go.Proofs.Ytjbdmibbbpdnnaa

namespace Go.Proofs.Ytjbdmibbbpdnnaa
open Go.RowKit
theorem cy {α:Type} [DecidableEq α]: ∀ {l1 l2:List α},l1.Nodup->(∀x∈l1,x∈l2)->l1.length<=l2.length
 | [],_,_,_=>Nat.zero_le _
 |a::l,l2,hn,hs=>by
  obtain ⟨h1,h2⟩:=List.nodup_cons.1 hn
  have ha:=hs a (by simp)
  have:=cy (l1:=l) (l2:=l2.erase a) h2 λy hy=>by
   have hya:y≠a:= λe'=>h1 (by rw [<-e'];exact hy)
   exact (List.mem_erase_of_ne hya).2 (hs y (by simp [hy]))
  rw [List.length_erase_of_mem ha] at this
  have:=List.length_pos_of_mem ha
  simp only [List.length_cons]
  omega
def jl (n:Nat) (T:Dc):Nat->Nat->List (List Int)
 |0,_=> [upto n]
 |k+1,l=>(Hv (T.getD l [])).flatMap λy=>(jl n T k (l+1)).map λq=>Aa q (((T.getD l []).getD y.toNat none).getD [])
def qx (T:Dc):Nat->Nat->Nat
 |0,_=>1
 |k+1,l=>(Hv (T.getD l [])).length*qx T k (l+1)
theorem vI (n:Nat) (T:Dc): ∀k l,(jl n T k l).length=qx T k l
 |0,_=>rfl
 |k+1,l=>by
  simp only [jl,qx,List.length_flatMap,List.length_map,vI n T k (l+1)]
  generalize Hv (T.getD l [])=o
  induction o with
  |nil=>simp
  |cons a o ih=>simp only [List.map_cons,List.sum_cons,ih,List.length_cons,Nat.succ_mul];omega
theorem ql (T:Dc): ∀k j,Vm T (j+k)=Vm T j*qx T k j
 |0,j=>by simp [qx]
 |k+1,j=>by
  have:=ql T k (j+1)
  rw [show j+(k+1)=j+1+k by omega,this]
  simp only [Vm,qx]
  rw [Nat.mul_assoc]
theorem vV (n:Nat) (T:Dc):(jl n T n 0).length=Vm T n:=by
 rw [vI,show Vm T n=Vm T (0+n) by rw [Nat.zero_add],ql]
 simp [Vm]
theorem mS {n:Nat} (h1:1<=n) (h2:n<=20) {s:Dc×Dc} : ∀(k l:Nat),l+k=n->fa n k l s-> ∀p,p∈jl n s.2 k l↔Pm n p/\Fx l p/\Iy s.2 k l p=true
 |0,l,hk,hc,p=>by
  have hl:l=n:=by omega
  subst hl
  simp only [jl,List.mem_singleton]
  exact ⟨λe=>by subst e;exact ⟨Pm.id h1 h2,λi hi=>dV hi,rfl⟩,λh=>h.2.1.all h.1⟩
 |k+1,l,hk,hc,p=>by
  obtain ⟨c1,c2,c3⟩:=hc
  have ih:=mS h1 h2 k (l+1) (by omega) c1
  have Yk:l<n:=by omega
  simp only [jl,List.mem_flatMap,List.mem_map]
  constructor
  ·rintro ⟨y,hy,q,hq,rfl⟩
   obtain ⟨yn,rfl,QL⟩:=Nf.1 hy
   obtain ⟨t,ht⟩:=Option.ne_none_iff_exists'.1 QL
   obtain ⟨t1,t2,t3,t4⟩:=c2.rt _ _ ht
   obtain ⟨q1,q2,q3⟩:=(ih q).1 hq
   rw [Int.toNat_natCast,ht,Option.getD_some]
   have hap:ap (Aa q t) l=yn:=by rw [Ft q1 t1 Yk,q2 l (by omega),t3]
   refine ⟨q1.comp t1,λi hi=>by rw [Ft q1 t1 (by omega),q2 i (by omega),t2 i hi],?_⟩
   simp only [Iy]
   rw [show (Bw (Aa q t) (l:Int)).toNat=ap (Aa q t) l from rfl,hap,ht]
   show Iy s.2 k (l+1) (Aa (Aa q t) (Am t))=true
   rw [Dz q1 t1 t1.inv,bQ t1,comp_id q1]
   exact q3
  ·rintro ⟨p1,p2,p3⟩
   simp only [Iy] at p3
   rw [show (Bw p (l:Int)).toNat=ap p l from rfl] at p3
   split at p3
   ·cases p3
   ·rename_i t ht
    obtain ⟨t1,t2,t3,t4⟩:=c2.rt _ _ ht
    refine ⟨(ap p l:Int),Nf.2 ⟨ap p l,rfl,by rw [ht];simp⟩,Aa p (Am t),(ih _).2 ⟨p1.comp t1.inv,Fx.div p1 t1 p2 t2 Yk t3,p3⟩,?_⟩
    rw [Int.toNat_natCast,ht,Option.getD_some,Dz p1 t1.inv t1,Vf t1,comp_id p1]
theorem mT {n:Nat} (h1:1<=n) (h2:n<=20) {s:Dc×Dc} : ∀(k l:Nat),l+k=n->fa n k l s->(jl n s.2 k l).Nodup
 |0,l,hk,hc=>by simp [jl]
 |k+1,l,hk,hc=>by
  obtain ⟨c1,c2,c3⟩:=hc
  have ih:=mT h1 h2 k (l+1) (by omega) c1
  have hm:=mS h1 h2 k (l+1) (by omega) c1
  have Yk:l<n:=by omega
  have rep: ∀y∈Hv (s.2.getD l []),∃(yn:Nat) (t:List Int),y=yn/\((s.2.getD l []).getD y.toNat none).getD []=t/\Pm n t/\ap t l=yn:= λy hy=>by
   obtain ⟨yn,rfl,QL⟩:=Nf.1 hy
   obtain ⟨t,ht⟩:=Option.ne_none_iff_exists'.1 QL
   obtain ⟨t1,t2,t3,t4⟩:=c2.rt _ _ ht
   exact ⟨yn,t,rfl,by rw [Int.toNat_natCast,ht];rfl,t1,t3⟩
  simp only [jl]
  refine List.pairwise_flatMap.2 ⟨λy hy=>?_,?_⟩
  ·obtain ⟨yn,t,rfl,e,t1,t3⟩:=rep y hy
   rw [e]
   refine List.pairwise_map.2 (List.Pairwise.imp_of_mem ?_ ih)
   intro a b ha hb Ff he
   have ha:=((hm a).1 ha).1
   have hb:=((hm b).1 hb).1
   have h3:=congrArg (λz=>Aa z (Am t)) he
   simp only [Dz ha t1 t1.inv,Dz hb t1 t1.inv,bQ t1,comp_id ha,comp_id hb] at h3
   exact Ff h3
  ·refine List.Pairwise.imp_of_mem ?_ ((o3 _).filter _)
   intro y z hy hz Ff a ha b hb he
   obtain ⟨yn,t,rfl,e,t1,t3⟩:=rep y hy
   obtain ⟨zn,u,rfl,e',u1,u3⟩:=rep z hz
   rw [e] at ha
   rw [e'] at hb
   obtain ⟨q,hq,rfl⟩:=List.mem_map.1 ha
   obtain ⟨q',ew,rfl⟩:=List.mem_map.1 hb
   obtain ⟨a1,a2,_⟩:=(hm q).1 hq
   obtain ⟨b1,b2,_⟩:=(hm q').1 ew
   have h3:=congrArg (λz=>ap z l) he
   simp only [Ft a1 t1 Yk,Ft b1 u1 Yk,a2 l (by omega),b2 l (by omega),t3,u3] at h3
   exact Ff (by rw [h3])
theorem iS {g:List (List Int)} (Q:List Int->Prop) {x:List Int} {d:Int} : ∀(ls:List Int) (L:List (List Int)) (D:List Int),(∀l∈ls,Q (Aa x (Ag g l)))->(∀y∈L,Q y)->
  (∀y∈(Et g x d ls L D).1,Q y)/\(∀y∈L,y∈(Et g x d ls L D).1)/\((Et g x d ls L D).2.2=true-> ∀l∈ls,Aa x (Ag g l)∈(Et g x d ls L D).1)/\
   ((Et g x d ls L D).2.2=false->(Et g x d ls L D).1.length=3000/\ ∃z,Q z/\z∉(Et g x d ls L D).1)
 | [],L,D,_,h=>⟨h,λ_ h=>h,(λ_ l hl=>by cases hl),(λe=>by cases e)⟩
 |l::ls,L,D,hq,h=>by
  have ew: ∀l∈ls,Q (Aa x (Ag g l)):= λl' h'=>hq l' (List.mem_cons_of_mem _ h')
  simp only [Et]
  split
  ·rename_i hm
   obtain ⟨a1,a2,a3,a4⟩:=iS Q (d:=d) ls L D ew h
   refine ⟨a1,a2,λe l' Hd=>?_,a4⟩
   rcases List.mem_cons.1 Hd with rfl|Hd
   ·exact a2 _ hm
   ·exact a3 e l' Hd
  ·rename_i hn
   split
   ·rename_i hf
    exact ⟨h,λ_ h=>h,(λe=>by cases e),λ_=>⟨hf,_,hq l (by simp),hn⟩⟩
   ·obtain ⟨a1,a2,a3,a4⟩:=iS Q (d:=d) ls (L++ [Aa x (Ag g l)]) (D++ [d+1]) ew λy hy=>by
     rcases List.mem_append.1 hy with hy|hy
     ·exact h y hy
     ·rw [List.mem_singleton.1 hy];exact hq l (by simp)
    refine ⟨a1,λy hy=>a2 y (List.mem_append_left _ hy),λe l' Hd=>?_,a4⟩
    rcases List.mem_cons.1 Hd with rfl|Hd
    ·exact a2 _ (List.mem_append_right _ (by simp))
    ·exact a3 e l' Hd
theorem pG {p:PP} (hV:Valid p) {m:Nat} {ls:List Int} (hl: ∀l∈ls,Fa (List.length p.2.2.1) l) (Q:List Int->Prop) (hQ: ∀x,Q x-> ∀l∈ls,Q (Aa x (Ag p.2.2.1 l))):
  ∀(f k:Nat) (L:List (List Int)) (D:List Int),3001<=f+k->k<=L.length->Pz p m L D->(∀y∈L,Q y)->(∀(j:Nat) (h:j<L.length),j<k-> ∀l∈ls,Aa L[j] (Ag p.2.2.1 l)∈L)->
  (∀y∈(Gl p.2.2.1 ls f k L D).1,Q y)/\((Gl p.2.2.1 ls f k L D).2.2=true-> ∀x∈(Gl p.2.2.1 ls f k L D).1,∀l∈ls,Aa x (Ag p.2.2.1 l)∈(Gl p.2.2.1 ls f k L D).1)/\
   ((Gl p.2.2.1 ls f k L D).2.2=false->(Gl p.2.2.1 ls f k L D).1.length=3000/\ ∃z,Q z/\z∉(Gl p.2.2.1 ls f k L D).1)
 |0,k,L,D,hf,PV,hb,hq,hc=>by
  have:=hb.ok.ec
  omega
 |f+1,k,L,D,hf,PV,hb,hq,hc=>by
  simp only [Gl]
  split
  ·rename_i hk
   have BY:k<D.length:=by rw [hb.len];exact hk
   have hd:=hb.dep k BY
   have e:D.getD k 0=D[k]:=by rw [List.getD_eq_getElem?_getD,List.getElem?_eq_getElem BY];rfl
   rw [Ow hk,e]
   obtain ⟨k1,⟨A,k2⟩,_⟩:=gq hV (hb.row _ (List.getElem_mem hk)) (hb.ok.len _ (List.getElem_mem hk)) (d:=D[k]) ls L D hl hb ⟨by omega,by omega⟩
   obtain ⟨a1,a2,a3,a4⟩:=iS (g:=p.2.2.1) Q (x:=L[k]) (d:=D[k]) ls L D (hQ _ (hq _ (List.getElem_mem hk))) hq
   split
   ·rename_i L' D' he
    rw [he] at k1 k2 a1 a2 a3 a4
    have k2:L'=L++A:=k2
    refine pG hV hl Q hQ f (k+1) L' D' (by omega) (by rw [k2,List.length_append];omega) k1 a1 λj hj hjk l Hd=>?_
    by_cases e':j<k
    ·have e2:L'[j]=L[j]:=by simp only [k2];rw [List.getElem_append_left (by omega)]
     rw [e2];exact a2 _ (hc j (by omega) e' l Hd)
    ·have:j=k:=by omega
     subst this
     have e2:L'[j]=L[j]:=by simp only [k2];rw [List.getElem_append_left (by omega)]
     rw [e2];exact a3 rfl l Hd
   ·rename_i L' D' he
    rw [he] at a1 a4
    exact ⟨a1,(λe=>by cases e),λ_=>a4 rfl⟩
  ·rename_i hk
   refine ⟨hq,λ_ x hx l Hd=>?_,λe=>by cases e⟩
   obtain ⟨j,hj,rfl⟩:=List.mem_iff_getElem.1 hx
   have hj:j<L.length:=hj
   exact hc j hj (by omega) l Hd
theorem LV {p:PP} (hv:Bh p=true) {s:List Int} (hs:s.length<=20) (hr: ∀y∈s,0<=y/\y<p.1) (Q:List Int->Prop) (hQs:Q s) (hQ: ∀x,Q x-> ∀l∈Af p.2.2.1.length,Q (Aa x (Ag p.2.2.1 l))):
  (∀y∈(Fm p.2.2.1 s).1,Q y)/\((Fm p.2.2.1 s).2.2=true-> ∀x∈(Fm p.2.2.1 s).1,∀l∈Af p.2.2.1.length,Aa x (Ag p.2.2.1 l)∈(Fm p.2.2.1 s).1)/\
   ((Fm p.2.2.1 s).2.2=false->(Fm p.2.2.1 s).1.length=3000/\ ∃z,Q z/\z∉(Fm p.2.2.1 s).1):=
 pG (valid hv) (λ_ hl=>He hl) Q hQ 3001 0 [s] [0] (by omega) (Nat.zero_le _) (dr hs hr) (λy hy=>by rw [List.mem_singleton.1 hy];exact hQs) λj _ hj=>absurd hj (Nat.not_lt_zero _)
theorem Zc {g:List (List Int)} {x:List Int} :some x∈g.map some↔x∈g:=by simp
theorem yo {n:Nat} {g:List (List Int)} {x:List Int} (h:Gn n (g.map some) x) {l:Int} (hl:l∈Af g.length):Gn n (g.map some) (Aa x (Ag g l)):=by
 obtain ⟨k,hk,rfl|rfl⟩:=Pc (He hl)
 ·rw [Nn hk];exact .mul h (Zc.2 (List.getElem_mem hk))
 ·rw [Nm hk];exact .inv h (Zc.2 (List.getElem_mem hk))
theorem Wm {n k:Nat} (hk:k<n):(k:Int)+1∈Af n/\ -((k:Int)+1)∈Af n:=by
 unfold Af
 exact ⟨List.mem_flatMap.2 ⟨k,List.mem_range.2 hk,by simp⟩,List.mem_flatMap.2 ⟨k,List.mem_range.2 hk,by simp⟩⟩
theorem xO {n:Nat} {g:List (List Int)} {L:List (List Int)} (h0:upto n∈L) (hc: ∀x∈L,∀l∈Af g.length,Aa x (Ag g l)∈L) {p:List Int} (hp:Gn n (g.map some) p):p∈L:=by
 induction hp with
 |id=>exact h0
 |mul _ hg ih=>
  obtain ⟨k,hk,rfl⟩:=List.mem_iff_getElem.1 (Zc.1 hg)
  have:=hc _ ih _ (Wm hk).1
  rwa [Nn hk] at this
 |inv _ hg ih=>
  obtain ⟨k,hk,rfl⟩:=List.mem_iff_getElem.1 (Zc.1 hg)
  have:=hc _ ih _ (Wm hk).2
  rwa [Nm hk] at this
structure Reach (p:PP) (L:List (List Int)) (D:List Int) (whole:Bool):Prop where
 ok:Pz p p.1.toNat L D
 nodup:L.Nodup
 first: ∃A,L=upto p.1.toNat::A
 gen: ∀x∈L,Gn p.1.toNat (p.2.2.1.map some) x
 all:whole=true-> ∀x,Gn p.1.toNat (p.2.2.1.map some) x->x∈L
 big:whole=false->L.length=3000/\ ∃z,Gn p.1.toNat (p.2.2.1.map some) z/\z∉L
theorem Ct.nodup {m:Nat} {L:List (List Int)} {Gv:List Int} (h:Ct m L Gv):L.Nodup:=
 List.pairwise_iff_getElem.2 λi j hi hj eo e=>by have:=h.inj hi hj e;omega
theorem cI {p:PP} (hv:Bh p=true):Reach p (Fm p.2.2.1 (upto p.1.toNat)).1 (Fm p.2.2.1 (upto p.1.toNat)).2.1 (Fm p.2.2.1 (upto p.1.toNat)).2.2:=by
 have hV:=valid hv
 have hn:=hV.n
 have hl:(upto p.1.toNat).length=p.1.toNat:=Pw _
 have hr: ∀y∈upto p.1.toNat,0<=y/\y<p.1:= λy hy=>by have:=Ik.1 hy;omega
 obtain ⟨b1,b2⟩:=GG hv (by omega) hr
 rw [hl] at b1
 obtain ⟨a1,a2,a3⟩:=LV hv (by omega) hr (λx=>Gn p.1.toNat (p.2.2.1.map some) x) .id λx hx l hl=>yo hx hl
 exact ⟨b1,b1.ok.nodup,b2,a1,λhw x hx=>xO (by obtain ⟨A,e⟩:=b2;rw [e];simp) (a2 hw) hx,a3⟩
theorem Wo {p:PP} (hV:Valid p) {x:List Int} :x∈jl p.1.toNat (Tn p.1 p.2.2.1).2 p.1.toNat 0↔Gn p.1.toNat (p.2.2.1.map some) x:=by
 have hn:=hV.n
 have hg:=nm (gu hV).2.2
 have hS:zA p.1.toNat λg=>some g∈p.2.2.1.map some:=⟨⟨by omega,by omega⟩,λg Zk=>by obtain ⟨g',e,h⟩:=hg _ Zk;cases e;exact h⟩
 refine (mS (by omega) (by omega) _ 0 (by omega) (rk hV).2.2.1 x).trans ⟨λh=>(mA (by omega) (by omega) hg h.1).1 h.2.2,λh=>?_⟩
 have hp:=Xs.pm hS h
 exact ⟨hp,λi hi=>absurd hi (Nat.not_lt_zero _),(mA (by omega) (by omega) hg hp).2 h⟩
theorem oN {p:PP} (hV:Valid p):(jl p.1.toNat (Tn p.1 p.2.2.1).2 p.1.toNat 0).Nodup:=by
 have hn:=hV.n
 exact mT (by omega) (by omega) _ 0 (by omega) (rk hV).2.2.1
theorem count_eq {p:PP} (hv:Bh p=true):Pd p=((jl p.1.toNat (Tn p.1 p.2.2.1).2 p.1.toNat 0).length:Int):=by
 unfold Pd
 rw [if_pos hv,vV]
theorem uq {p:PP} (hv:Bh p=true):(Fm p.2.2.1 (upto p.1.toNat)).2.2=decide (1<=Pd p/\Pd p<=3000):=by
 have hV:=valid hv
 have h:=cI hv
 rw [count_eq hv]
 have tN:=oN hV
 have h1:=cy h.nodup λx hx=>(Wo hV).2 (h.gen x hx)
 obtain ⟨A,hA⟩:=h.first
 have oF:1<=(Fm p.2.2.1 (upto p.1.toNat)).1.length:=by rw [hA];simp
 cases hw:(Fm p.2.2.1 (upto p.1.toNat)).2.2 with
 |true=>
  have h2:=cy tN λx hx=>h.all hw x ((Wo hV).1 hx)
  have h3:=h.ok.ok.ec
  exact (decide_eq_true ⟨by omega,by omega⟩).symm
 |false=>
  obtain ⟨h2,z,h3,h4⟩:=h.big hw
  have h5:=cy (l1:=z::(Fm p.2.2.1 (upto p.1.toNat)).1) (List.nodup_cons.2 ⟨h4,h.nodup⟩) λx hx=>by
   rcases List.mem_cons.1 hx with rfl|hx
   ·exact (Wo hV).2 h3
   ·exact (Wo hV).2 (h.gen x hx)
  simp only [List.length_cons] at h5
  exact (decide_eq_false (by omega)).symm
end Go.Proofs.Ytjbdmibbbpdnnaa

namespace Go.Proofs.Ytjbdmibbbpdnnaa
open Go.RowKit
def sd (g:List (List Int)) (s:List Int):List (List Int):=(Af g.length).map λl=>Aa s (Ag g l)
noncomputable abbrev dJ:Spec:=Dp (.pair Cu (.pair tL .unit)) fY false true (λx=>Bh x.1=true/\List.length x.2.1<=20/\ ∀y∈x.2.1,0<=y/\y<x.1.1) (λx=>sd x.1.2.2.1 x.2.1)
abbrev EX:Type:=List (List Int)×List Int×List Int×List Int
def Vy (g:List (List Int)) (k:Int) (x:List Int) (d:Int):List Int->EX->List Int->EX×List Int
 | [],s,row=>(s,row)
 |l::ls,s,row=>if Aa x (Ag g l)∈s.1 then Vy g k x d ls s (row++ [(s.1.idxOf (Aa x (Ag g l)):Int)])
  else Vy g k x d ls (s.1++ [Aa x (Ag g l)],s.2.1++ [d+1],s.2.2.1++ [k],s.2.2.2++ [l]) (row++ [(s.1.length:Int)])
def Xe (g:List (List Int)) (ls:List Int):Nat->Nat->EX->List (List Int)->EX×List (List Int)
 |0,_,s,N=>(s,N)
 |f+1,k,s,N=>if k<s.1.length then Xe g ls f (k+1) (Vy g (k:Int) (s.1.getD k []) (s.2.1.getD k 0) ls s []).1 (N++ [(Vy g (k:Int) (s.1.getD k []) (s.2.1.getD k 0) ls s []).2]) else (s,N)
def cq (key:ByteArray):List (List Int)->Nat->Option Int
 | [],_=>none
 |x::r,i=>if Mg x=key then some (i:Int) else cq key r (i+1)
def Rr (L:List (List Int)):ByteArray->Option Int:= λkey=>cq key L 0
def WH (p:PP) (r:EX×List (List Int)):eN.den:=(p,r.1.1,r.1.2.1,Rr r.1.1,r.1.2.2.1,r.1.2.2.2,r.2,())
def Hy (p:PP):eN.den:=WH p (Xe p.2.2.1 (Af p.2.2.1.length) 3001 0 ([upto p.1.toNat],[0],[0],[0]) [])
noncomputable def Cg (p:PP):Bool:=Bh p&&(Fm p.2.2.1 (upto p.1.toNat)).2.2
noncomputable abbrev Kp:Spec:=Dp (.pair Cu .unit) (.pair (.optr eN) (.pair .bool .unit)) true false (λx=>Cj x.1) (λx=>if Cg x.1=true then (some (Hy x.1),true,()) else (none,false,()))
abbrev wK:Type:=Int×Int×ByteArray×List (List Int)×List (List Int)×PUnit
theorem OQ (p:Int×ByteArray×List (List Int)×Unit) (s:List Int) (P:List (List Int)->Prop):(∃(y3:List Int),Ib.fn ((↑p.2.2.1.length:Int),())=some y3/\0=0/\0=([]:List Int).length/\Cb (λ(v4:wK) (k5:wK->Prop)=>Br (decide (v4.1<(↑y3.length:Int))) (∃(y6:Int),idx y3 v4.1=some y6/\ ∃(y7:List Int),Rd.fn (v4.2.2.2.1,y6,())=some y7/\ ∃(y8:List Int),Ue.fn (s,y7,())=some y8/\0=0/\v4.2.2.2.2.1.length=v4.2.2.2.2.1.length/\v4.2.2.2.2.1.length+(List.take 1 (List.drop 0 [y8])).length<=Bm/\0=0/\(v4.2.2.2.2.1++List.take 1 (List.drop 0 [y8])).length=(v4.2.2.2.2.1++List.take 1 (List.drop 0 [y8])).length/\k5 (IntKind.i64.wrap (v4.1+(1:Int)),v4.2.1,v4.2.2.1,v4.2.2.2.1,v4.2.2.2.2.1++List.take 1 (List.drop 0 [y8]),())) (P (List.take v4.2.2.2.2.1.length (List.drop 0 v4.2.2.2.2.1)))) ((0:Int),p.1,p.2.1,p.2.2.1,[],PUnit.unit))=fnW Di (look [(117,Ib),(157,Rd),(156,Ue)]) dJ Try.f129 (p,s,()) P:=by kernel_rfl
theorem NQ (p:PP) (s:List Int) (h:Bh p=true/\s.length<=20/\ ∀y∈s,0<=y/\y<p.1):fnW Di (look [(117,Ib),(157,Rd),(156,Ue)]) dJ Try.f129 (p,s,()) (λ(z:List (List Int))=>z=sd p.2.2.1 s):=by
 obtain ⟨hv,hs,hr⟩:=h
 have hV:=valid hv
 have hf:=hV.ec
 refine Eq.mp (OQ p s _) ⟨Af p.2.2.1.length,if_pos ⟨Int.natCast_nonneg _,by show ((p.2.2.1.length:Nat):Int)<=8;omega⟩,rfl,rfl,?_⟩
 have hL:=Km p.2.2.1.length
 refine Aq (Af p.2.2.1.length).length (λv=>v.1) (λj v=>v=((j:Int),p.1,p.2.1,p.2.2.1,((Af p.2.2.1.length).take j).map (λl=>Aa s (Ag p.2.2.1 l)),())) rfl (by simp) ?_
 rintro j v K hj hi rfl hK
 dsimp only
 refine Br.dec (λhl=>?_) λhl=>?_
 ·have hl:j<(Af p.2.2.1.length).length:=by omega
  have XR:=He (List.getElem_mem hl)
  obtain ⟨h1,h2⟩:=jh hV XR
  refine ⟨_,Ax hl,_,if_pos ⟨XR,hf.2,hV.perm⟩,_,if_pos ⟨hs,λy hy=>by have:=hr y hy;show 0<=y/\y<((Ag p.2.2.1 (Af p.2.2.1.length)[j]).length:Int);omega⟩,rfl,rfl,?_,rfl,rfl,?_⟩
  ·show (((Af p.2.2.1.length).take j).map _).length+1<=4294967296
   rw [List.length_map,List.length_take]
   omega
  ·rw [Ap (by omega)]
   refine hK hl _ rfl ?_
   have e:(Af p.2.2.1.length).take (j+1)=(Af p.2.2.1.length).take j++ [(Af p.2.2.1.length)[j]]:=by
    rw [List.take_add_one,List.getElem?_eq_getElem hl,Option.toList_some]
   rw [e,List.map_append]
   rfl
 ·have:j=(Af p.2.2.1.length).length:=by omega
  subst this
  rw [List.drop_zero,List.take_length,List.take_length]
  rfl
theorem wy:Sound Try.prog 129 dJ:=
 Sound.Dp Cf (Ah Xp (Ah nH (Ah Pq At))) mixed Try.func129 (by kernel_rfl) (by kernel_rfl) λx h=>NQ x.1 x.2.1 h
end Go.Proofs.Ytjbdmibbbpdnnaa

namespace Go.Proofs.Ytjbdmibbbpdnnaa
open Go.RowKit
theorem Ez {α:Type} {xs ys:List α} {i:Nat} {d:α} (h:i<xs.length):(xs++ys).getD i d=xs.getD i d:=by
 rw [List.getD_eq_getElem?_getD,List.getD_eq_getElem?_getD,List.getElem?_append_left h]
theorem dw {α:Type} {xs:List α} {x d:α} :(xs++ [x]).getD xs.length d=x:=by
 rw [List.getD_eq_getElem?_getD,List.getElem?_append_right (Nat.le_refl _),Nat.sub_self];rfl
theorem Cz {α:Type} {xs:List α} {i:Nat} {d:α} (h:i<xs.length):xs.getD i d=xs[i]:=by
 rw [List.getD_eq_getElem?_getD,List.getElem?_eq_getElem h];rfl
structure Lv (g:List (List Int)) (ls:List Int) (k:Nat) (L:List (List Int)) (D:List Int):Prop where
 len:D.length=L.length
 pos:0<L.length
 mono: ∀i j,i<=j->j<L.length->D.getD i 0<=D.getD j 0
 CV:k<L.length-> ∀j,j<L.length->D.getD j 0<=D.getD k 0+1
 par: ∀j,0<j->j<L.length-> ∃i l,i<j/\l∈ls/\L.getD j []=Aa (L.getD i []) (Ag g l)/\D.getD j 0=D.getD i 0+1
 zero:D.getD 0 0=0
theorem Lv.add {g:List (List Int)} {ls:List Int} {k:Nat} {L:List (List Int)} {D:List Int} (h:Lv g ls k L D) (hk:k<L.length) {l:Int} (hl:l∈ls):
  Lv g ls k (L++ [Aa (L.getD k []) (Ag g l)]) (D++ [D.getD k 0+1]):=by
 have hlen:=h.len
 have hD: ∀i,i<L.length->(D++ [D.getD k 0+1]).getD i 0=D.getD i 0:= λi hi=>Ez (by omega)
 have PF:(D++ [D.getD k 0+1]).getD L.length 0=D.getD k 0+1:=by rw [<-hlen];exact dw
 refine ⟨by simp [hlen],by simp,λi j eo hj=>?_,λ_ j hj=>?_,λj h0 hj=>?_,?_⟩
 ·rw [List.length_append,List.length_singleton] at hj
  by_cases e:j=L.length
  ·subst e
   rw [PF]
   by_cases e':i=L.length
   ·subst e';rw [PF];exact Int.le_refl _
   ·rw [hD i (by omega)]
    exact h.CV hk i (by omega)
  ·rw [hD i (by omega),hD j (by omega)]
   exact h.mono i j eo (by omega)
 ·rw [List.length_append,List.length_singleton] at hj
  rw [hD k hk]
  by_cases e:j=L.length
  ·subst e;rw [PF];exact Int.le_refl _
  ·rw [hD j (by omega)];exact h.CV hk j (by omega)
 ·rw [List.length_append,List.length_singleton] at hj
  by_cases e:j=L.length
  ·subst e
   exact ⟨k,l,hk,hl,by rw [dw,Ez hk],by rw [PF,hD k hk]⟩
  ·obtain ⟨i,l',h1,h2,h3,h4⟩:=h.par j h0 (by omega)
   exact ⟨i,l',h1,h2,by rw [Ez (by omega),Ez (by omega)];exact h3,by rw [hD j (by omega),hD i (by omega)];exact h4⟩
 ·rw [hD 0 h.pos];exact h.zero
theorem m7 {g:List (List Int)} {ls:List Int} {k:Nat} : ∀(AN:List Int) (L:List (List Int)) (D:List Int),(∀l∈AN,l∈ls)->Lv g ls k L D->k<L.length-> ∀ {x:List Int} {d:Int},x=L.getD k []->d=D.getD k 0->
  Lv g ls k (Et g x d AN L D).1 (Et g x d AN L D).2.1/\(∃A,(Et g x d AN L D).1=L++A)/\(∃A,(Et g x d AN L D).2.1=D++A)/\
  ((Et g x d AN L D).2.2=true-> ∀l∈AN,∃j,j<(Et g x d AN L D).1.length/\(Et g x d AN L D).1.getD j []=Aa x (Ag g l)/\(Et g x d AN L D).2.1.getD j 0<=d+1)
 | [],L,D,_,h,_,x,d,_,_=>⟨h,⟨[],by simp [Et]⟩,⟨[],by simp [Et]⟩,λ_ l hl=>by cases hl⟩
 |l::AN,L,D,hs,h,hk,x,d,hx,hd=>by
  have ya: ∀l∈AN,l∈ls:= λl' h'=>hs l' (List.mem_cons_of_mem _ h')
  have hlen:=h.len
  simp only [Et]
  split
  ·rename_i hm
   obtain ⟨a1,⟨A,a2⟩,⟨A',a3⟩,a4⟩:=m7 AN L D ya h hk hx hd
   refine ⟨a1,⟨A,a2⟩,⟨A',a3⟩,λe l' Hd=>?_⟩
   rcases List.mem_cons.1 Hd with rfl|Hd
   ·obtain ⟨j,hj,hjx⟩:=List.mem_iff_getElem.1 hm
    refine ⟨j,by rw [a2,List.length_append];omega,by rw [a2,Ez hj,Cz hj];exact hjx,?_⟩
    rw [a3,Ez (by omega),hd]
    exact h.CV hk j hj
   ·exact a4 e l' Hd
  ·split
   ·exact ⟨h,⟨[],by simp⟩,⟨[],by simp⟩,λe=>by cases e⟩
   ·have GR:=h.add hk (hs l (by simp))
    rw [<-hx,<-hd] at GR
    obtain ⟨a1,⟨A,a2⟩,⟨A',a3⟩,a4⟩:=m7 AN (L++ [Aa x (Ag g l)]) (D++ [d+1]) ya GR (by rw [List.length_append];omega) (x:=x) (d:=d) (by rw [Ez hk];exact hx) (by rw [Ez (by omega)];exact hd)
    refine ⟨a1,⟨_::A,by rw [a2,List.append_assoc];rfl⟩,⟨_::A',by rw [a3,List.append_assoc];rfl⟩,λe l' Hd=>?_⟩
    rcases List.mem_cons.1 Hd with rfl|Hd
    ·refine ⟨L.length,by rw [a2,List.length_append,List.length_append];simp only [List.length_singleton];omega,?_,?_⟩
     ·rw [a2,Ez (by simp),dw]
     ·rw [a3,Ez (by simp [hlen]),<-hlen,dw]
      exact Int.le_refl _
    ·exact a4 e l' Hd
structure lP (g:List (List Int)) (ls:List Int) (L:List (List Int)) (D:List Int):Prop where
 len:D.length=L.length
 pos:0<L.length
 zero:D.getD 0 0=0
 par: ∀j,0<j->j<L.length-> ∃i l,i<j/\l∈ls/\L.getD j []=Aa (L.getD i []) (Ag g l)/\D.getD j 0=D.getD i 0+1
 step: ∀i,i<L.length-> ∀l∈ls,∃j,j<L.length/\L.getD j []=Aa (L.getD i []) (Ag g l)/\D.getD j 0<=D.getD i 0+1
theorem uc {g:List (List Int)} {ls:List Int} : ∀(f k:Nat) (L:List (List Int)) (D:List Int),3001<=f+k->Lv g ls k L D->k<=L.length->
  (∀i,i<k-> ∀l∈ls,∃j,j<L.length/\L.getD j []=Aa (L.getD i []) (Ag g l)/\D.getD j 0<=D.getD i 0+1)->
  (Gl g ls f k L D).2.2=true->(Gl g ls f k L D).1.length<=3000->lP g ls (Gl g ls f k L D).1 (Gl g ls f k L D).2.1
 |0,k,L,D,hf,h,PV,hc,hw,h3=>by
  simp only [Gl] at h3⊢
  omega
 |f+1,k,L,D,hf,h,PV,hc,hw,h3=>by
  simp only [Gl] at hw h3⊢
  split
  ·rename_i hk
   rw [if_pos hk] at hw h3
   obtain ⟨a1,⟨A,a2⟩,⟨A',a3⟩,a4⟩:=m7 (x:=L.getD k []) (d:=D.getD k 0) ls L D (λ_ h=>h) h hk rfl rfl
   have hlen:=h.len
   split
   ·rename_i L' D' he
    rw [he] at a1 a2 a3 a4
    simp only [he] at hw h3
    have a2:L'=L++A:=a2
    have a3:D'=D++A':=a3
    have a4:=a4 rfl
    dsimp only at a4
    have hLl:L.length<=L'.length:=by rw [a2,List.length_append];omega
    refine uc f (k+1) L' D' (by omega) ⟨a1.len,a1.pos,a1.mono,λhk1 j hj=>?_,a1.par,a1.zero⟩ (by omega) (λi hi l hl=>?_) hw h3
    ·have h1:D'.getD j 0<=D'.getD k 0+1:=a1.CV (show k<L'.length by omega) j hj
     have h2:D'.getD k 0<=D'.getD (k+1) 0:=a1.mono k (k+1) (by omega) hk1
     omega
    ·by_cases e:i=k
     ·subst e
      obtain ⟨j,b1,b2,b3⟩:=a4 l hl
      refine ⟨j,b1,?_,?_⟩
      ·rw [b2,a2,Ez (by omega)]
      ·rw [show D'.getD i 0=D.getD i 0 by rw [a3,Ez (by omega)]];exact b3
     ·obtain ⟨j,b1,b2,b3⟩:=hc i (by omega) l hl
      refine ⟨j,by omega,?_,?_⟩
      ·rw [a2,Ez (by omega),Ez (by omega)];exact b2
      ·rw [a3,Ez (by omega),Ez (by omega)];exact b3
   ·rename_i L' D' he
    simp only [he] at hw
    cases hw
  ·rename_i hk
   exact ⟨h.len,h.pos,h.zero,h.par,λi hi=>hc i (by have hi:i<L.length:=hi;omega)⟩
theorem m8 {p:PP} {s:List Int} (hv:Bh p=true) (hs:s.length<=20) (hr: ∀y∈s,0<=y/\y<p.1) (hw:(Fm p.2.2.1 s).2.2=true):
  lP p.2.2.1 (Af p.2.2.1.length) (Fm p.2.2.1 s).1 (Fm p.2.2.1 s).2.1:=by
 have hb:=(GG hv hs hr).1.ok.ec
 refine uc 3001 0 [s] [0] (by omega) ⟨rfl,by simp,λi j eo hj=>?_,λ_ j hj=>?_,λj h0 hj=>?_,rfl⟩ (Nat.zero_le _) (λi hi=>absurd hi (Nat.not_lt_zero _)) hw hb
 ·have:j=0:=by simpa using hj
  subst this
  have:i=0:=by omega
  subst this
  exact Int.le_refl _
 ·have:j=0:=by simpa using hj
  subst this
  simp
 ·have:j=0:=by simpa using hj
  omega
theorem ku {p:PP} (hV:Valid p) {x:List Int} (hx: ∀y∈x,0<=y/\y<p.1) {l:Int} (hl:l∈Af p.2.2.1.length):
  -l∈Af p.2.2.1.length/\Aa (Aa x (Ag p.2.2.1 l)) (Ag p.2.2.1 (-l))=x:=by
 obtain ⟨k,hk,Kz⟩:=Pc (He hl)
 have hg:=fQ (hV.perm _ (List.getElem_mem hk))
 have hgl:=hV.len _ (List.getElem_mem hk)
 have hn:=hV.n
 have hp:Pm p.1.toNat (p.2.2.1[k]):=⟨by omega,hg⟩
 have key: ∀q r:List Int,Pm p.1.toNat q->Pm p.1.toNat r->Aa q r=upto p.1.toNat->Aa (Aa x q) r=x:= λq r hq hr he=>by
  refine List.ext_getElem (by rw [Nw,Nw]) λi h1 h2=>?_
  have hxi:=hx _ (List.getElem_mem h2)
  obtain ⟨xi,hxe⟩:=Int.eq_ofNat_of_zero_le hxi.1
  have LM:xi<p.1.toNat:=by omega
  have e1:ap (Aa q r) xi=ap (upto p.1.toNat) xi:=congrArg (λz=>ap z xi) he
  rw [Ft hq hr LM,dV LM] at e1
  simp only [Aa,List.getElem_map,hxe]
  have h3:=(hq.Oq LM).1
  have h4:=(hr.Oq (hq.lt LM)).1
  rw [h3,h4,e1]
 rcases Kz with rfl|rfl
 ·refine ⟨(Wm hk).2,?_⟩
  rw [Nn hk,Nm hk]
  exact key _ _ hp hp.inv (bQ hp)
 ·refine ⟨by rw [Int.neg_neg];exact (Wm hk).1,?_⟩
  rw [Int.neg_neg,Nn hk,Nm hk]
  exact key _ _ hp.inv hp (Vf hp)
structure Jv (g:List (List Int)) (ls:List Int) (L:List (List Int)) (S:List Int->Prop) (d:List Int->Int):Prop where
 nn: ∀x∈L,0<=d x
 zero: ∀x∈L,d x=0↔S x
 step: ∀x∈L,∀l∈ls,d (Aa x (Ag g l))<=d x+1
 down: ∀x∈L,0<d x-> ∃l∈ls,d (Aa x (Ag g l))=d x-1
structure lM (g:List (List Int)) (ls:List Int) (L:List (List Int)):Prop where
 next: ∀x∈L,∀l∈ls,Aa x (Ag g l)∈L
 back: ∀x∈L,∀l∈ls,-l∈ls/\Aa (Aa x (Ag g l)) (Ag g (-l))=x
theorem Jv.le {g:List (List Int)} {ls:List Int} {L:List (List Int)} {S:List Int->Prop} {d d':List Int->Int} (hc:lM g ls L) (h:Jv g ls L S d) (h':Jv g ls L S d'):
  ∀(n:Nat) (x:List Int),x∈L->d' x=n->d x<=n
 |0,x,hx,e=>by
  have:=(h.zero x hx).2 ((h'.zero x hx).1 e)
  omega
 |n+1,x,hx,e=>by
  obtain ⟨l,hl,hd⟩:=h'.down x hx (by omega)
  obtain ⟨b1,b2⟩:=hc.back x hx l hl
  have h1:=Jv.le hc h h' n _ (hc.next x hx l hl) (by omega)
  have h2:=h.step _ (hc.next x hx l hl) _ b1
  rw [b2] at h2
  omega
theorem Jv.eq {g:List (List Int)} {ls:List Int} {L:List (List Int)} {S:List Int->Prop} {d d':List Int->Int} (hc:lM g ls L) (h:Jv g ls L S d) (h':Jv g ls L S d') {x:List Int} (hx:x∈L):d x=d' x:=by
 have n1:=h.nn x hx
 have n2:=h'.nn x hx
 have h1:=Jv.le hc h h' (d' x).toNat x hx (by omega)
 have h2:=Jv.le hc h' h (d x).toNat x hx (by omega)
 omega
theorem Jv.CV {g:List (List Int)} {ls:List Int} {L:List (List Int)} {S:List Int->Prop} {d:List Int->Int} (hc:lM g ls L) (h:Jv g ls L S d) {x:List Int} (hx:x∈L) {l:Int} (hl:l∈ls):
  d x-1<=d (Aa x (Ag g l)):=by
 obtain ⟨b1,b2⟩:=hc.back x hx l hl
 have h2:=h.step _ (hc.next x hx l hl) _ b1
 rw [b2] at h2
 omega
def Gp (L:List (List Int)) (D:List Int) (x:List Int):Int:=if x∈L then D.getD (L.idxOf x) 0 else-1
theorem Nl {L:List (List Int)} (hn:L.Nodup) {j:Nat} (hj:j<L.length):L.idxOf (L.getD j [])=j:=by
 rw [Cz hj]
 exact hn.idxOf_getElem j hj
theorem Vb {L:List (List Int)} {j:Nat} (hj:j<L.length):L.getD j []∈L:=by rw [Cz hj];exact List.getElem_mem hj
theorem fo {L:List (List Int)} {D:List Int} (hn:L.Nodup) {j:Nat} (hj:j<L.length):Gp L D (L.getD j [])=D.getD j 0:=by
 unfold Gp
 rw [if_pos (Vb hj),Nl hn hj]
theorem oL {p:PP} (hV:Valid p) {m:Nat} {L:List (List Int)} {D:List Int} (hb:Pz p m L D) (h:lP p.2.2.1 (Af p.2.2.1.length) L D):lM p.2.2.1 (Af p.2.2.1.length) L where
 next x hx l hl:=by
  obtain ⟨i,hi,rfl⟩:=List.mem_iff_getElem.1 hx
  obtain ⟨j,h1,h2,_⟩:=h.step i hi l hl
  rw [Cz hi] at h2
  rw [<-h2]
  exact Vb h1
 back x hx l hl:=ku hV (hb.row x hx) hl
theorem vu {p:PP} (hV:Valid p) {m:Nat} {L:List (List Int)} {D:List Int} (hb:Pz p m L D) (h:lP p.2.2.1 (Af p.2.2.1.length) L D):
  Jv p.2.2.1 (Af p.2.2.1.length) L (λx=>x=L.getD 0 []) (Gp L D) where
 nn x hx:=by
  obtain ⟨i,hi,rfl⟩:=List.mem_iff_getElem.1 hx
  rw [<-Cz (d:= []) hi,fo hb.ok.nodup hi]
  have:=hb.dep i (by rw [hb.len];exact hi)
  rw [Cz (by rw [hb.len];exact hi)]
  omega
 zero x hx:=by
  obtain ⟨i,hi,rfl⟩:=List.mem_iff_getElem.1 hx
  rw [<-Cz (d:= []) hi,fo hb.ok.nodup hi]
  constructor
  ·intro h0
   by_cases e:i=0
   ·rw [e]
   ·obtain ⟨k,l,h1,_,_,h4⟩:=h.par i (by omega) hi
    have hk:k<D.length:=by rw [hb.len];omega
    have:=hb.dep k hk
    rw [<-Cz (d:=0) hk] at this
    omega
  ·intro e
   have:i=0:=by
    have h1:=Nl hb.ok.nodup hi
    have h2:=Nl hb.ok.nodup h.pos
    rw [e,h2] at h1
    exact h1.symm
   rw [this]
   exact h.zero
 step x hx l hl:=by
  obtain ⟨i,hi,rfl⟩:=List.mem_iff_getElem.1 hx
  rw [<-Cz (d:= []) hi,fo hb.ok.nodup hi]
  obtain ⟨j,h1,h2,h3⟩:=h.step i hi l hl
  rw [<-h2,fo hb.ok.nodup h1]
  exact h3
 down x hx h0:=by
  obtain ⟨i,hi,rfl⟩:=List.mem_iff_getElem.1 hx
  rw [<-Cz (d:= []) hi,fo hb.ok.nodup hi] at h0⊢
  have hi0:0<i:=by
   rcases Nat.eq_zero_or_pos i with e|e
   ·subst e;rw [h.zero] at h0;omega
   ·exact e
  obtain ⟨k,l,h1,h2,h3,h4⟩:=h.par i hi0 hi
  have hk:k<L.length:=by omega
  obtain ⟨b1,b2⟩:=ku hV (hb.row _ (Vb hk)) h2
  refine ⟨-l,b1,?_⟩
  rw [h3,b2,fo hb.ok.nodup hk]
  omega
end Go.Proofs.Ytjbdmibbbpdnnaa

namespace Go.Proofs.Ytjbdmibbbpdnnaa
open Go.RowKit
def RC (N:Nat->List Int) (m:Nat):Prop:= ∀i,i<m-> ∀t∈N i,0<=t/\t<m
end Go.Proofs.Ytjbdmibbbpdnnaa

namespace Go.Proofs.Ytjbdmibbbpdnnaa
open Go.RowKit
abbrev nX:Type:=Int×Int×ByteArray×List (List Int)×List Int×List (List Int)×List Int×(ByteArray->Option Int)×List Int×List Int×Int×ByteArray×List (List Int)×List (List Int)×PUnit
abbrev nY:Type:=Int×Int×ByteArray×List (List Int)×List (List Int)×List Int×(ByteArray->Option Int)×List Int×List Int×Int×ByteArray×List (List Int)×List (List Int)×PUnit
abbrev ab:List (Nat×Nat):= [(0,1),(0,1),(0,1),(0,1),(0,1),(0,1),(0,1),(0,1),(0,1),(0,1),(0,1),(0,1),(0,0)]
abbrev Dk (p:Int×ByteArray×List (List Int)×Unit) (y4:List Int) (y2:Int) (y3:Bool) (y6:ByteArray) (y5:ByteArray):Prop:=ab=ab/\(p,false,y4,p.1,p.2.1,p.2.2.1,y2,y3,!y3,p.1,y4,p.1,p.2.1,p.2.2.1,y4,y4,y6,p.1,p.2.1,p.2.2.1,p.1,p.2.1,p.2.2.1,[y4],[(0:Int)],aQ (λ(_:ByteArray)=>none) y6 (0:Int),[(0:Int)],[(0:Int)],p.1,p.2.1,p.2.2.1,([]:List (List Int)),())=(p,false,y4,p.1,p.2.1,p.2.2.1,y2,y3,!y3,p.1,y4,p.1,p.2.1,p.2.2.1,y4,y4,y5,p.1,p.2.1,p.2.2.1,p.1,p.2.1,p.2.2.1,[y4],[(0:Int)],aQ (λ(_:ByteArray)=>none) y5 (0:Int),[(0:Int)],[(0:Int)],p.1,p.2.1,p.2.2.1,([]:List (List Int)),PUnit.unit)
theorem EW (p:Int×ByteArray×List (List Int)×Unit) (P:(Option (PP×List (List Int)×List Int×(ByteArray->Option Int)×List Int×List Int×List (List Int)×Unit)×Bool×Unit)->Prop):(∃(y2:Int),Mb.fn ((p.1,p.2.1,p.2.2.1,()),())=some y2/\ ∃(y3:Bool),Bq.fn (y2,(1:Int),(3000:Int),())=some y3/\Br (!y3) (P (none,false,())) (∃(y4:List Int),Og.fn (p.1,())=some y4/\ ∃(y5:ByteArray),Ei.fn (y4,())=some y5/\(∃(y6:List Int),Ib.fn ((↑p.2.2.1.length:Int),())=some y6/\0=0/\1= [y4].length/\0=0/\1= [(0:Int)].length/\0=0/\1= [(0:Int)].length/\0=0/\1= [(0:Int)].length/\0=0/\0=([]:List Int).length/\Cb (λ(v7:nY) (k8:nY->Prop)=>Br (decide (v7.1<(↑v7.2.2.2.2.1.length:Int))) (((0:Int)<=v7.1/\v7.1<(↑v7.2.2.2.2.1.length:Int))/\ ∃(y9:List Int),v7.2.2.2.2.1[0+v7.1.toNat]?=some y9/\ ∃(Ls:List (List Int)),dJ.fn ((v7.2.1,v7.2.2.1,v7.2.2.2.1,()),y9,())=some Ls/\0=0/\0=([]:List Int).length/\0=0/\v7.2.2.2.2.1.length=v7.2.2.2.2.1.length/\0=0/\v7.2.2.2.2.2.1.length=v7.2.2.2.2.2.1.length/\0=0/\v7.2.2.2.2.2.2.2.1.length=v7.2.2.2.2.2.2.2.1.length/\0=0/\v7.2.2.2.2.2.2.2.2.1.length=v7.2.2.2.2.2.2.2.2.1.length/\0=0/\v7.2.2.2.2.2.2.2.2.2.2.2.2.1.length=v7.2.2.2.2.2.2.2.2.2.2.2.2.1.length/\Cb (λ(v11:nX) (QR:nX->Prop)=>Br (decide (v11.1<(↑Ls.length:Int))) (∃(lK:List Int),idx Ls v11.1=some lK/\ ∃(Tc:ByteArray),Ei.fn (lK,())=some Tc/\Br (!(v11.2.2.2.2.2.2.2.1 Tc).isSome) (∃(iK:Int),Tv.fn (List.take v11.2.2.2.2.2.1.length (List.drop 0 v11.2.2.2.2.2.1),())=some iK/\0=0/\v11.2.2.2.2.2.1.length=v11.2.2.2.2.2.1.length/\v11.2.2.2.2.2.1.length+(List.take 1 (List.drop 0 [lK])).length<=Bm/\((0:Int)<=v7.1/\v7.1<(↑v11.2.2.2.2.2.2.1.length:Int))/\ ∃(xb:Int),v11.2.2.2.2.2.2.1[0+v7.1.toNat]?=some xb/\0=0/\v11.2.2.2.2.2.2.1.length=v11.2.2.2.2.2.2.1.length/\v11.2.2.2.2.2.2.1.length+ [IntKind.i64.wrap (xb+(1:Int))].length<=Bm/\0=0/\v11.2.2.2.2.2.2.2.2.1.length=v11.2.2.2.2.2.2.2.2.1.length/\v11.2.2.2.2.2.2.2.2.1.length+(List.take 1 (List.drop 0 [v7.1])).length<=Bm/\ ∃(BG:Int),idx y6 v11.1=some BG/\0=0/\v11.2.2.2.2.2.2.2.2.2.1.length=v11.2.2.2.2.2.2.2.2.2.1.length/\v11.2.2.2.2.2.2.2.2.2.1.length+ [BG].length<=Bm/\0=0/\v11.2.2.2.2.1.length=v11.2.2.2.2.1.length/\v11.2.2.2.2.1.length+(List.take 1 (List.drop 0 [iK])).length<=Bm/\0=0/\(v11.2.2.2.2.1++List.take 1 (List.drop 0 [iK])).length=(v11.2.2.2.2.1++List.take 1 (List.drop 0 [iK])).length/\0=0/\(v11.2.2.2.2.2.1++List.take 1 (List.drop 0 [lK])).length=(v11.2.2.2.2.2.1++List.take 1 (List.drop 0 [lK])).length/\0=0/\(v11.2.2.2.2.2.2.1++ [IntKind.i64.wrap (xb+(1:Int))]).length=(v11.2.2.2.2.2.2.1++ [IntKind.i64.wrap (xb+(1:Int))]).length/\0=0/\(v11.2.2.2.2.2.2.2.2.1++List.take 1 (List.drop 0 [v7.1])).length=(v11.2.2.2.2.2.2.2.2.1++List.take 1 (List.drop 0 [v7.1])).length/\0=0/\(v11.2.2.2.2.2.2.2.2.2.1++ [BG]).length=(v11.2.2.2.2.2.2.2.2.2.1++ [BG]).length/\0=0/\v11.2.2.2.2.2.2.2.2.2.2.2.2.2.1.length=v11.2.2.2.2.2.2.2.2.2.2.2.2.2.1.length/\QR (IntKind.i64.wrap (v11.1+(1:Int)),v11.2.1,v11.2.2.1,v11.2.2.2.1,v11.2.2.2.2.1++List.take 1 (List.drop 0 [iK]),v11.2.2.2.2.2.1++List.take 1 (List.drop 0 [lK]),v11.2.2.2.2.2.2.1++ [IntKind.i64.wrap (xb+(1:Int))],aQ v11.2.2.2.2.2.2.2.1 Tc iK,v11.2.2.2.2.2.2.2.2.1++List.take 1 (List.drop 0 [v7.1]),v11.2.2.2.2.2.2.2.2.2.1++ [BG],v11.2.2.2.2.2.2.2.2.2.2.1,v11.2.2.2.2.2.2.2.2.2.2.2.1,v11.2.2.2.2.2.2.2.2.2.2.2.2.1,v11.2.2.2.2.2.2.2.2.2.2.2.2.2.1,())) (0=0/\v11.2.2.2.2.1.length=v11.2.2.2.2.1.length/\v11.2.2.2.2.1.length+(List.take 1 (List.drop 0 [(v11.2.2.2.2.2.2.2.1 Tc).getD (Int.ofNat (nat_lit 0))])).length<=Bm/\0=0/\(v11.2.2.2.2.1++List.take 1 (List.drop 0 [(v11.2.2.2.2.2.2.2.1 Tc).getD (Int.ofNat (nat_lit 0))])).length=(v11.2.2.2.2.1++List.take 1 (List.drop 0 [(v11.2.2.2.2.2.2.2.1 Tc).getD (Int.ofNat (nat_lit 0))])).length/\0=0/\v11.2.2.2.2.2.1.length=v11.2.2.2.2.2.1.length/\0=0/\v11.2.2.2.2.2.2.1.length=v11.2.2.2.2.2.2.1.length/\0=0/\v11.2.2.2.2.2.2.2.2.1.length=v11.2.2.2.2.2.2.2.2.1.length/\0=0/\v11.2.2.2.2.2.2.2.2.2.1.length=v11.2.2.2.2.2.2.2.2.2.1.length/\0=0/\v11.2.2.2.2.2.2.2.2.2.2.2.2.2.1.length=v11.2.2.2.2.2.2.2.2.2.2.2.2.2.1.length/\QR (IntKind.i64.wrap (v11.1+(1:Int)),v11.2.1,v11.2.2.1,v11.2.2.2.1,v11.2.2.2.2.1++List.take 1 (List.drop 0 [(v11.2.2.2.2.2.2.2.1 Tc).getD (Int.ofNat (nat_lit 0))]),v11.2.2.2.2.2.1,v11.2.2.2.2.2.2.1,v11.2.2.2.2.2.2.2.1,v11.2.2.2.2.2.2.2.2.1,v11.2.2.2.2.2.2.2.2.2.1,v11.2.2.2.2.2.2.2.2.2.2.1,v11.2.2.2.2.2.2.2.2.2.2.2.1,v11.2.2.2.2.2.2.2.2.2.2.2.2.1,v11.2.2.2.2.2.2.2.2.2.2.2.2.2.1,()))) (0=0/\v11.2.2.2.2.2.2.2.2.2.2.2.2.2.1.length=v11.2.2.2.2.2.2.2.2.2.2.2.2.2.1.length/\v11.2.2.2.2.2.2.2.2.2.2.2.2.2.1.length+(List.take 1 (List.drop 0 [List.take v11.2.2.2.2.1.length (List.drop 0 v11.2.2.2.2.1)])).length<=Bm/\0=0/\v11.2.2.2.2.2.1.length=v11.2.2.2.2.2.1.length/\0=0/\v11.2.2.2.2.2.2.1.length=v11.2.2.2.2.2.2.1.length/\0=0/\v11.2.2.2.2.2.2.2.2.1.length=v11.2.2.2.2.2.2.2.2.1.length/\0=0/\v11.2.2.2.2.2.2.2.2.2.1.length=v11.2.2.2.2.2.2.2.2.2.1.length/\0=0/\(v11.2.2.2.2.2.2.2.2.2.2.2.2.2.1++List.take 1 (List.drop 0 [List.take v11.2.2.2.2.1.length (List.drop 0 v11.2.2.2.2.1)])).length=(v11.2.2.2.2.2.2.2.2.2.2.2.2.2.1++List.take 1 (List.drop 0 [List.take v11.2.2.2.2.1.length (List.drop 0 v11.2.2.2.2.1)])).length/\k8 (IntKind.i64.wrap (v7.1+(1:Int)),v11.2.1,v11.2.2.1,v11.2.2.2.1,v11.2.2.2.2.2.1,v11.2.2.2.2.2.2.1,v11.2.2.2.2.2.2.2.1,v11.2.2.2.2.2.2.2.2.1,v11.2.2.2.2.2.2.2.2.2.1,v11.2.2.2.2.2.2.2.2.2.2.1,v11.2.2.2.2.2.2.2.2.2.2.2.1,v11.2.2.2.2.2.2.2.2.2.2.2.2.1,v11.2.2.2.2.2.2.2.2.2.2.2.2.2.1++List.take 1 (List.drop 0 [List.take v11.2.2.2.2.1.length (List.drop 0 v11.2.2.2.2.1)]),()))) ((0:Int),v7.2.1,v7.2.2.1,v7.2.2.2.1,[],v7.2.2.2.2.1,v7.2.2.2.2.2.1,v7.2.2.2.2.2.2.1,v7.2.2.2.2.2.2.2.1,v7.2.2.2.2.2.2.2.2.1,v7.2.2.2.2.2.2.2.2.2.1,v7.2.2.2.2.2.2.2.2.2.2.1,v7.2.2.2.2.2.2.2.2.2.2.2.1,v7.2.2.2.2.2.2.2.2.2.2.2.2.1,PUnit.unit)) (P (some ((v7.2.2.2.2.2.2.2.2.2.1,v7.2.2.2.2.2.2.2.2.2.2.1,v7.2.2.2.2.2.2.2.2.2.2.2.1,()),List.take v7.2.2.2.2.1.length (List.drop 0 v7.2.2.2.2.1),List.take v7.2.2.2.2.2.1.length (List.drop 0 v7.2.2.2.2.2.1),v7.2.2.2.2.2.2.1,List.take v7.2.2.2.2.2.2.2.1.length (List.drop 0 v7.2.2.2.2.2.2.2.1),List.take v7.2.2.2.2.2.2.2.2.1.length (List.drop 0 v7.2.2.2.2.2.2.2.2.1),List.take v7.2.2.2.2.2.2.2.2.2.2.2.2.1.length (List.drop 0 v7.2.2.2.2.2.2.2.2.2.2.2.2.1),()),true,()))) ((0:Int),p.1,p.2.1,p.2.2.1,[y4],[(0:Int)],aQ (λ(_:ByteArray)=>none) y5 (0:Int),[(0:Int)],[(0:Int)],p.1,p.2.1,p.2.2.1,([]:List (List Int)),PUnit.unit))/\((∃(y6:ByteArray),Ei.fn (y4,())=some y6/\(Dk p y4 y2 y3 y6 y5))/\ ∃(y6:ByteArray),Ei.fn (y4,())=some y6/\((Dk p y4 y2 y3 y6 y5))/\((Dk p y4 y2 y3 y6 y5))/\(Dk p y4 y2 y3 y6 y5))/\((∃(y6:ByteArray),Ei.fn (y4,())=some y6/\(Dk p y4 y2 y3 y6 y5))/\ ∃(y6:ByteArray),Ei.fn (y4,())=some y6/\((Dk p y4 y2 y3 y6 y5))/\((Dk p y4 y2 y3 y6 y5))/\(Dk p y4 y2 y3 y6 y5))/\ ∃(y6:ByteArray),Ei.fn (y4,())=some y6/\(((Dk p y4 y2 y3 y6 y5))/\((Dk p y4 y2 y3 y6 y5))/\(Dk p y4 y2 y3 y6 y5))/\(((Dk p y4 y2 y3 y6 y5))/\((Dk p y4 y2 y3 y6 y5))/\(Dk p y4 y2 y3 y6 y5))/\(((Dk p y4 y2 y3 y6 y5))/\(Dk p y4 y2 y3 y6 y5))/\(((Dk p y4 y2 y3 y6 y5))/\(Dk p y4 y2 y3 y6 y5))/\((Dk p y4 y2 y3 y6 y5))/\ab=ab/\(p,false,y4,p.1,p.2.1,p.2.2.1,y2,y3,!y3,p.1,y4,p.1,p.2.1,p.2.2.1,y4,y4,y6,p.1,p.2.1,p.2.2.1,p.1,p.2.1,p.2.2.1,[y4],[(0:Int)],aQ (λ(_:ByteArray)=>none) y6 (0:Int),[(0:Int)],[(0:Int)],p.1,p.2.1,p.2.2.1,([]:List (List Int)),())=(p,false,y4,p.1,p.2.1,p.2.2.1,y2,y3,!y3,p.1,y4,p.1,p.2.1,p.2.2.1,y4,y4,y5,p.1,p.2.1,p.2.2.1,p.1,p.2.1,p.2.2.1,[y4],[(0:Int)],aQ (λ(_:ByteArray)=>none) y5 (0:Int),[(0:Int)],[(0:Int)],p.1,p.2.1,p.2.2.1,[],PUnit.unit)))=fnW Di (look [(126,Mb),(97,Bq),(127,Og),(128,Ei),(117,Ib),(129,dJ),(58,Tv)]) Kp Try.f80 (p,()) P:=by kernel_rfl
theorem mo {g:List (List Int)} {k:Int} {x:List Int} {d:Int} : ∀(ls:List Int) (s:EX) (row:List Int) (L':List (List Int)) (D':List Int),Et g x d ls s.1 s.2.1=(L',D',true)->
  (Vy g k x d ls s row).1.1=L'/\(Vy g k x d ls s row).1.2.1=D'
 | [],s,row,L',D',h=>by
  simp only [Et,Prod.mk.injEq] at h
  exact ⟨h.1,h.2.1⟩
 |l::ls,s,row,L',D',h=>by
  simp only [Et] at h
  simp only [Vy]
  by_cases hm:Aa x (Ag g l)∈s.1
  ·rw [if_pos hm] at h
   rw [if_pos hm]
   exact mo ls s _ L' D' h
  ·rw [if_neg hm] at h
   rw [if_neg hm]
   by_cases hf:s.1.length=3000
   ·rw [if_pos hf] at h
    simp at h
   ·rw [if_neg hf] at h
    exact mo ls _ _ L' D' h
theorem uC {g:List (List Int)} {ls:List Int} : ∀(f k:Nat) (s:EX) (N:List (List Int)) (L':List (List Int)) (D':List Int),Gl g ls f k s.1 s.2.1=(L',D',true)->
  (Xe g ls f k s N).1.1=L'/\(Xe g ls f k s N).1.2.1=D'
 |0,k,s,N,L',D',h=>by
  simp only [Gl,Prod.mk.injEq] at h
  exact ⟨h.1,h.2.1⟩
 |f+1,k,s,N,L',D',h=>by
  simp only [Gl] at h
  simp only [Xe]
  by_cases hk:k<s.1.length
  ·rw [if_pos hk] at h
   rw [if_pos hk]
   split at h
   ·rename_i L1 D1 he
    obtain ⟨a1,a2⟩:=mo (k:=(k:Int)) ls s [] L1 D1 he
    refine uC f (k+1) _ _ L' D' ?_
    rw [a1,a2]
    exact h
   ·simp at h
  ·rw [if_neg hk] at h
   rw [if_neg hk]
   simp only [Prod.mk.injEq] at h
   exact ⟨h.1,h.2.1⟩
theorem gX {key:ByteArray} {x:List Int} : ∀(L:List (List Int)) (i:Nat),cq key (L++ [x]) i=if (cq key L i).isSome=true then cq key L i else if Mg x=key then some ((i+L.length:Nat):Int) else none
 | [],i=>by simp [cq]
 |y::L,i=>by
  simp only [List.cons_append,cq]
  split
  ·rfl
  ·rw [gX L (i+1),List.length_cons,show i+1+L.length=i+(L.length+1) by omega]
theorem jg {x:List Int} (hx:Qa x): ∀(L:List (List Int)) (i:Nat),(∀y∈L,Qa y)->cq (Mg x) L i=if x∈L then some ((i+L.idxOf x:Nat):Int) else none
 | [],i,_=>by simp [cq]
 |y::L,i,h=>by
  have hy:=h y (by simp)
  simp only [cq]
  by_cases e:y=x
  ·subst e
   rw [if_pos rfl,if_pos (by simp),List.idxOf_cons_self]
   rfl
  ·rw [if_neg λhk=>e (key_inj hy hx hk),jg hx L (i+1) λz hz=>h z (List.mem_cons_of_mem _ hz),show List.idxOf x (y::L)=(List.idxOf x L).succ by rw [List.idxOf_cons,beq_false_of_ne e];rfl]
   have:(x∈y::L)↔(x∈L):=by simp [Ne.symm e]
   by_cases hm:x∈L
   ·rw [if_pos hm,if_pos (this.2 hm),show i+1+List.idxOf x L=i+(List.idxOf x L).succ by omega]
   ·rw [if_neg hm,if_neg λh=>hm (this.1 h)]
theorem qc {x:List Int} {L:List (List Int)} (hx:Qa x) (hL: ∀y∈L,Qa y):Rr L (Mg x)=if x∈L then some (L.idxOf x:Int) else none:=by
 unfold Rr
 rw [jg hx L 0 hL,Nat.zero_add]
theorem qb {x:List Int} {L:List (List Int)} (hx:Qa x) (hL: ∀y∈L,Qa y) (hn:x∉L):aQ (Rr L) (Mg x) (L.length:Int)=Rr (L++ [x]):=by
 funext key
 unfold aQ Rr
 rw [gX,Nat.zero_add]
 by_cases e:key=Mg x
 ·subst e
  rw [if_pos rfl,jg hx L 0 hL,if_neg hn,if_neg (by simp),if_pos rfl]
 ·rw [if_neg e,if_neg (c:=Mg x=key) λh=>e h.symm]
  split
  ·rfl
  ·rename_i h
   cases hk:cq key L 0 with
   |none=>rfl
   |some v=>rw [hk] at h;simp at h
theorem x8 (p:PP):Hj (Pd p) 1 3000=Cg p:=by
 unfold Cg
 by_cases hv:Bh p=true
 ·rw [hv,Bool.true_and,uq hv]
  rfl
 ·have hv:Bh p=false:=by simpa using hv
  rw [hv,Bool.false_and]
  have:Pd p=0:=by unfold Pd;rw [if_neg (by simp [hv])]
  rw [this]
  rfl
theorem DE (p:PP) (h:Cj p):fnW Di (look [(126,Mb),(97,Bq),(127,Og),(128,Ei),(117,Ib),(129,dJ),(58,Tv)]) Kp Try.f80 (p,()) (λ(z:Option (PP×List (List Int)×List Int×(ByteArray->Option Int)×List Int×List Int×List (List Int)×Unit)×Bool×Unit)=>z=(if Cg p=true then (some (Hy p),true,()) else (none,false,()))):=by
 refine Eq.mp (EW p _) ⟨_,if_pos h,_,if_pos trivial,?_⟩
 show Br (!Hj (Pd p) 1 3000) _ _
 rw [x8 p]
 refine Br.of (λhb=>?_) λhb=>?_
 ·rw [if_neg (by simpa using hb)]
 have hw:Cg p=true:=by simpa using hb
 rw [if_pos hw]
 obtain ⟨hv,xP⟩:=Bool.and_eq_true_iff.1 hw
 have hV:=valid hv
 have uR:=hV.ec
 have hn:=hV.n
 obtain ⟨pn,ps,g,⟨⟩⟩:=p
 dsimp only at uR hn xP⊢
 have hI:(upto pn.toNat).length<=20:=by rw [Pw];omega
 have hIr: ∀y∈upto pn.toNat,0<=y/\y<pn:= λy hy=>by have:=Ik.1 hy;omega
 have RQ:=dr (p:=(pn,ps,g,())) hI hIr
 obtain ⟨ls,fD⟩: ∃ls,Af g.length=ls:=⟨_,rfl⟩
 have LH:ls.length<=16:=by rw [<-fD,Km];omega
 have jc: ∀l∈ls,Fa (List.length g) l:= λl hl=>He (fD▸hl)
 have zT: ∀x:List Int,(∀y∈x,0<=y/\y<pn)->Qa x:= λx hx y hy=>by have:=hx y hy;omega
 have yb:Gl g ls 3001 0 [upto pn.toNat] [0]=Fm g (upto pn.toNat):=by unfold Fm;rw [fD]
 have oB:aQ (λ(_:ByteArray)=>(none:Option Int)) (Mg (upto pn.toNat)) 0=Rr [upto pn.toNat]:=by
  have:=qb (L:= []) (zT _ hIr) (λy hy=>by cases hy) (by simp)
  exact this
 refine ⟨upto pn.toNat,if_pos ⟨by show (0:Int)<=pn;omega,by show pn<=20;omega⟩,Mg (upto pn.toNat),if_pos (by show short (upto pn.toNat);unfold short;omega),⟨ls,?_,rfl,rfl,rfl,rfl,rfl,rfl,rfl,rfl,rfl,rfl,?_⟩,?_⟩
 ·refine (if_pos ⟨by show (0:Int)<=((g.length:Nat):Int);omega,by show ((g.length:Nat):Int)<=8;omega⟩).trans (congrArg some ?_)
  show Af (((g.length:Nat):Int)).toNat=ls
  rw [Int.toNat_natCast];exact fD
 ·obtain ⟨R,hR⟩: ∃R,Xe g ls 3001 0 ([upto pn.toNat],[0],[0],[0]) []=R:=⟨_,rfl⟩
  have Ad9:Hy (pn,ps,g,())=WH (pn,ps,g,()) R:=by unfold Hy;rw [fD];exact congrArg _ hR
  rw [Ad9]
  refine Cb.mk (λv=> ∃(k:Nat) (s:EX) (N:List (List Int)),v=((k:Int),pn,ps,g,s.1,s.2.1,Rr s.1,s.2.2.1,s.2.2.2,pn,ps,g,N,())/\k<=s.1.length/\Pz (pn,ps,g,()) (upto pn.toNat).length s.1 s.2.1/\s.2.2.1.length=s.1.length/\s.2.2.2.length=s.1.length/\N.length=k/\
    Gl g ls (3001-k) k s.1 s.2.1=Fm g (upto pn.toNat)/\Xe g ls (3001-k) k s N=R) (λv=>3001-v.1.toNat)
   ⟨0,([upto pn.toNat],[0],[0],[0]),[],?_,by simp,RQ,rfl,rfl,rfl,yb,hR⟩ ?_
  ·rw [<-oB];rfl
  rintro v ⟨k,s0,N,rfl,h1,h2,h3,h4,h5,h6,h7⟩
  obtain ⟨L0,D0,P0,B0⟩:=s0
  dsimp only at h1 h2 h3 h4 h6 h7⊢
  have hL0:=h2.ok.ec
  have hD0:=h2.len
  obtain ⟨f,hf⟩: ∃f,3001-k=f+1:=⟨3000-k,by omega⟩
  refine Br.dec (λhl=>?_) λhl=>?_
  ·have hk:k<L0.length:=by omega
   have BY:k<D0.length:=by omega
   have hx: ∀y∈L0[k],0<=y/\y<pn:=h2.row _ (List.getElem_mem hk)
   have ND:L0[k].length=(upto pn.toNat).length:=h2.ok.len _ (List.getElem_mem hk)
   have hdk:=h2.dep k BY
   have hxe:L0.getD k []=L0[k]:=Ow hk
   have xR:D0.getD k 0=D0[k]:=by rw [List.getD_eq_getElem?_getD,List.getElem?_eq_getElem BY];rfl
   have XJ: ∀L' D' ok,Et g L0[k] D0[k] ls L0 D0=(L',D',ok)->Fm g (upto pn.toNat)=if ok=true then Gl g ls f (k+1) L' D' else (L',D',false):=by
    intro L' D' ok he
    rw [<-h6,hf,Gl,if_pos hk,hxe,xR,he]
    cases ok<;>rfl
   obtain ⟨E,hE⟩: ∃E,Vy g (k:Int) L0[k] D0[k] ls (L0,D0,P0,B0) []=E:=⟨_,rfl⟩
   have hex:R=Xe g ls f (k+1) E.1 (N++ [E.2]):=by
    rw [<-h7,hf,Xe,if_pos hk]
    dsimp only
    rw [hxe,xR,hE]
   refine ⟨⟨by omega,by omega⟩,L0[k],by rw [Int.toNat_natCast,Nat.zero_add];exact List.getElem?_eq_getElem hk,ls.map (λl=>Aa L0[k] (Ag g l)),?_,?_⟩
   ·refine (if_pos ⟨hv,by show L0[k].length<=20;omega,hx⟩).trans (congrArg some ?_)
    show sd g L0[k]=_
    unfold sd
    rw [fD]
   refine ⟨rfl,rfl,rfl,rfl,rfl,rfl,rfl,rfl,rfl,rfl,rfl,rfl,?_⟩
   obtain ⟨nb,hnb⟩: ∃nb,ls.map (λl=>Aa L0[k] (Ag g l))=nb:=⟨_,rfl⟩
   have hnl:nb.length=ls.length:=by rw [<-hnb,List.length_map]
   have hni: ∀i (h:i<ls.length),nb[i]'(by omega)=Aa L0[k] (Ag g ls[i]):= λi h=>by simp only [<-hnb,List.getElem_map]
   rw [hnb]
   refine Cb.mk (λv=> ∃(i:Nat) (row:List Int) (s:EX),v=((i:Int),pn,ps,g,row,s.1,s.2.1,Rr s.1,s.2.2.1,s.2.2.2,pn,ps,g,N,())/\i<=ls.length/\row.length=i/\Pz (pn,ps,g,()) (upto pn.toNat).length s.1 s.2.1/\s.2.2.1.length=s.1.length/\s.2.2.2.length=s.1.length/\
     (∃A,s.1=L0++A)/\(∃A,s.2.1=D0++A)/\Et g L0[k] D0[k] (ls.drop i) s.1 s.2.1=Et g L0[k] D0[k] ls L0 D0/\Vy g (k:Int) L0[k] D0[k] (ls.drop i) s row=E) (λv=>ls.length-v.1.toNat)
    ⟨0,[],(L0,D0,P0,B0),rfl,Nat.zero_le _,rfl,h2,h3,h4,⟨[],by simp⟩,⟨[],by simp⟩,rfl,hE⟩ ?_
   rintro v ⟨i,row,s,rfl,g1,g2,g3,g4,g5,⟨A,g6⟩,⟨A',g7⟩,g8,g9⟩
   obtain ⟨L,D,Pa,By⟩:=s
   dsimp only at g3 g4 g5 g6 g7 g8 g9⊢
   have hLf:=g3.ok.ec
   have PF:=g3.len
   refine Br.dec (λhli=>?_) λhli=>?_
   ·have hi:i<ls.length:=by omega
    have PV:k<L.length:=by rw [g6,List.length_append];omega
    have SG:k<D.length:=by rw [PF];exact PV
    have hDk:D[k]=D0[k]:=by simp only [g7];exact List.getElem_append_left BY
    have xU:=jc _ (List.getElem_mem hi)
    obtain ⟨nl,nr⟩:=lG hV hx xU
    dsimp only at nl nr
    rw [List.drop_eq_getElem_cons hi] at g8 g9
    simp only [Et] at g8
    simp only [Vy] at g9
    have hyb:=zT _ nr
    refine ⟨_,Ax (by omega),?_⟩
    rw [hni i hi]
    generalize hyv:Aa L0[k] (Ag g ls[i])=yv at*
    refine ⟨Mg yv,if_pos (by show short yv;unfold short;rw [nl];omega),?_⟩
    rw [qc hyb λy hy=>zT _ (g3.row y hy)]
    refine Br.of (λOz=>?_) λOz=>?_
    ·have Oz:yv∉L:= λhm=>by rw [if_pos hm] at Oz;simp at Oz
     rw [if_neg Oz] at g8 g9
     by_cases ej:L.length=3000
     ·rw [if_pos ej] at g8
      have:=XJ _ _ _ g8.symm
      rw [if_neg (by decide)] at this
      rw [this] at xP
      cases xP
     rw [if_neg ej] at g8
     refine ⟨_,if_pos trivial,rfl,rfl,?_,⟨by omega,by omega⟩,D0[k],?_,rfl,rfl,?_,rfl,rfl,?_,_,Ax hi,rfl,rfl,?_,rfl,rfl,?_,rfl,rfl,rfl,rfl,rfl,rfl,rfl,rfl,rfl,rfl,rfl,rfl,?_⟩
     ·show L.length+1<=4294967296;omega
     ·rw [Int.toNat_natCast,Nat.zero_add,List.getElem?_eq_getElem SG,hDk]
     ·show D.length+1<=4294967296;omega
     ·show Pa.length+1<=4294967296;omega
     ·show By.length+1<=4294967296;omega
     ·show row.length+1<=4294967296;omega
     ·dsimp only
      rw [Bj L,Bk (n:=D0[k]+1) (by omega) (by omega),Ap (by omega),qb hyb (λy hy=>zT _ (g3.row y hy)) Oz]
      refine ⟨⟨i+1,row++ [(L.length:Int)],(L++ [yv],D++ [D0[k]+1],Pa++ [(k:Int)],By++ [ls[i]]),rfl,hi,by rw [List.length_append,g2];rfl,g3.add Oz (by rw [nl,ND]) (by omega) nr ⟨by omega,by omega⟩,?_,?_,⟨A++ [yv],by rw [g6,List.append_assoc]⟩,⟨A'++ [D0[k]+1],by rw [g7,List.append_assoc]⟩,g8,g9⟩,by omega⟩
      ·simp [g4]
      ·simp [g5]
    ·have Oz:yv∈L:=Classical.byContradiction λhm=>by rw [if_neg hm] at Oz;simp at Oz
     rw [if_pos Oz] at g8 g9
     rw [if_pos Oz]
     refine ⟨rfl,rfl,?_,rfl,rfl,rfl,rfl,rfl,rfl,rfl,rfl,rfl,rfl,rfl,rfl,?_⟩
     ·show row.length+1<=4294967296;omega
     ·rw [Ap (by omega)]
      exact ⟨⟨i+1,row++ [(L.idxOf yv:Int)],(L,D,Pa,By),rfl,hi,by rw [List.length_append,g2];rfl,g3,g4,g5,⟨A,g6⟩,⟨A',g7⟩,g8,g9⟩,by omega⟩
   ·have:i=ls.length:=by omega
    subst this
    rw [List.drop_length,Et] at g8
    rw [List.drop_length,Vy] at g9
    have:=XJ _ _ _ g8.symm
    rw [if_pos rfl] at this
    rw [Bj row,Ap (by omega)]
    refine ⟨rfl,rfl,?_,rfl,rfl,rfl,rfl,rfl,rfl,rfl,rfl,rfl,rfl,⟨k+1,(L,D,Pa,By),N++ [row],rfl,by rw [g6,List.length_append];omega,g3,g4,g5,by rw [List.length_append,h5];rfl,?_,?_⟩,by omega⟩
    ·show N.length+1<=4294967296;omega
    ·rw [show 3001-(k+1)=f by omega]
     exact this.symm
    ·rw [show 3001-(k+1)=f by omega,hex,<-g9]
  ·have hk:k=L0.length:=by omega
   rw [hf,Xe,if_neg (by show ¬k<L0.length;omega)] at h7
   subst h7
   simp only [List.drop_zero,List.take_length]
   rfl
 ·have xT:Ei.fn (upto pn.toNat,())=some (Mg (upto pn.toNat)):=if_pos (by show short (upto pn.toNat);unfold short;omega)
  repeat' (first|exact ⟨rfl,rfl⟩|refine ⟨_,xT,?_⟩|refine ⟨?_,?_⟩)
theorem pd:Sound Try.prog 80 Kp:=
 Sound.Dp Cf (Ah jK (Ah Ps (Ah bn (Ah cY (Ah Xp (Ah wy (Ah kK At))))))) mixed Try.func80 (by kernel_rfl) (by kernel_rfl) λx h=>DE x.1 h
end Go.Proofs.Ytjbdmibbbpdnnaa

namespace Go.Proofs.Ytjbdmibbbpdnnaa
open Go.RowKit
abbrev XP:Type:=PP×List (List Int)×List Int×(ByteArray->Option Int)×List Int×List Int×List (List Int)×Unit
noncomputable def Ad (p:PP):List (List Int):=(Fm p.2.2.1 (upto p.1.toNat)).1
noncomputable def Ai (p:PP):List Int:=(Fm p.2.2.1 (upto p.1.toNat)).2.1
def qT (e:XP):Prop:=Cg e.1=true/\e=Hy e.1
noncomputable def Pe (p:PP) (s:List Int):Int×Bool×Unit:=if s∈Ad p then ((List.idxOf s (Ad p):Nat),true,()) else (0,false,())
noncomputable def IH (e:Option XP) (s:List Int):Int×Bool×Unit:=match e with|some e=>Pe e.1 s|none=>(0,false,())
noncomputable abbrev Xm:Spec:=Dp (.pair (.optr eN) (.pair tL .unit)) (.pair tI (.pair .bool .unit)) true true (λx=>(∃e:XP,x.1=some e/\qT e)/\short x.2.1) (λx=>IH x.1 x.2.1)
noncomputable def Ga (p:PP):SS×Bool×Unit:=if Bh p=true then (Bg p.2.2.1 (upto p.1.toNat),Cg p,()) else (([],[],[],false,()),false,())
noncomputable abbrev Kd:Spec:=Dp (.pair Cu .unit) (.pair Pu (.pair .bool .unit)) true false (λx=>Cj x.1) (λx=>Ga x.1)
noncomputable abbrev Uf:Spec:=Dp (.pair Cu (.pair Pu (.pair tL .unit))) .bool false true (λx=>Cj x.1/\short x.2.2.1/\Bh x.1=true/\x.2.1=Bg x.1.2.2.1 (upto x.1.1.toNat)) (λx=>decide (x.2.2.1∈Ad x.1))
noncomputable abbrev jC:Spec:=Dp (.pair Cu (.pair tL (.pair tL .unit))) .bool false true (λx=>Cj x.1/\short x.2.1/\short x.2.2.1) (λ_=>true)
abbrev BC:Type:=(Int×ByteArray×List (List Int)×PUnit)×List (List Int)×List Int×(ByteArray->Option Int)×List Int×List Int×List (List Int)×PUnit
theorem UR (e:Option (PP×List (List Int)×List Int×(ByteArray->Option Int)×List Int×List Int×List (List Int)×Unit)) (s:List Int) (P:(Int×Bool×Unit)->Prop):(∃(y3:BC),e=some y3/\ ∃(y4:Bool),Rc.fn (y3.1,s,())=some y4/\Br (!y4) (P ((0:Int),false,())) (∃(y5:BC),e=some y5/\ ∃(y6:ByteArray),Ei.fn (s,())=some y6/\P ((y5.2.2.2.1 y6).getD (Int.ofNat (nat_lit 0)),(y5.2.2.2.1 y6).isSome,())))=fnW Di (look [(141,Rc),(128,Ei)]) Xm Try.f98 (e,s,()) P:=by kernel_rfl
abbrev Ca:Type:=List (List Int)×List Int×List Int×Bool×PUnit
theorem zv (p:Int×ByteArray×List (List Int)×Unit) (P:((List (List Int)×List Int×List Int×Bool×Unit)×Bool×Unit)->Prop):(∃(y2:Bool),Eo.fn ((p.1,p.2.1,p.2.2.1,()),())=some y2/\Br (!y2) (P ((List.take 0 (List.drop 0 []),List.take 0 (List.drop 0 []),List.take 0 (List.drop 0 []),false,()),false,())) (((((∃(y3:List Int),Ce.fn (p.1,())=some y3/\(∃(y4:Ca),Dm.fn ((p.1,p.2.1,p.2.2.1,()),y3,())=some y4/\((P ((y4.1,y4.2.1,y4.2.2.1,y4.2.2.2.1,()),y4.2.2.2.1,())/\P ((y4.1,y4.2.1,y4.2.2.1,y4.2.2.2.1,()),y4.2.2.2.1,()))/\P ((y4.1,y4.2.1,y4.2.2.1,y4.2.2.2.1,()),y4.2.2.2.1,()))/\(P ((y4.1,y4.2.1,y4.2.2.1,y4.2.2.2.1,()),y4.2.2.2.1,())/\P ((y4.1,y4.2.1,y4.2.2.1,y4.2.2.2.1,()),y4.2.2.2.1,()))/\P ((y4.1,y4.2.1,y4.2.2.1,y4.2.2.2.1,()),y4.2.2.2.1,()))/\ ∃(y4:Ca),Dm.fn ((p.1,p.2.1,p.2.2.1,()),y3,())=some y4/\((P ((y4.1,y4.2.1,y4.2.2.1,y4.2.2.2.1,()),y4.2.2.2.1,())/\P ((y4.1,y4.2.1,y4.2.2.1,y4.2.2.2.1,()),y4.2.2.2.1,()))/\P ((y4.1,y4.2.1,y4.2.2.1,y4.2.2.2.1,()),y4.2.2.2.1,()))/\(P ((y4.1,y4.2.1,y4.2.2.1,y4.2.2.2.1,()),y4.2.2.2.1,())/\P ((y4.1,y4.2.1,y4.2.2.1,y4.2.2.2.1,()),y4.2.2.2.1,()))/\P ((y4.1,y4.2.1,y4.2.2.1,y4.2.2.2.1,()),y4.2.2.2.1,()))/\ ∃(y3:List Int),Ce.fn (p.1,())=some y3/\ ∃(y4:Ca),Dm.fn ((p.1,p.2.1,p.2.2.1,()),y3,())=some y4/\((P ((y4.1,y4.2.1,y4.2.2.1,y4.2.2.2.1,()),y4.2.2.2.1,())/\P ((y4.1,y4.2.1,y4.2.2.1,y4.2.2.2.1,()),y4.2.2.2.1,()))/\P ((y4.1,y4.2.1,y4.2.2.1,y4.2.2.2.1,()),y4.2.2.2.1,()))/\(P ((y4.1,y4.2.1,y4.2.2.1,y4.2.2.2.1,()),y4.2.2.2.1,())/\P ((y4.1,y4.2.1,y4.2.2.1,y4.2.2.2.1,()),y4.2.2.2.1,()))/\P ((y4.1,y4.2.1,y4.2.2.1,y4.2.2.2.1,()),y4.2.2.2.1,()))/\ ∃(y3:List Int),Ce.fn (p.1,())=some y3/\ ∃(y4:Ca),Dm.fn ((p.1,p.2.1,p.2.2.1,()),y3,())=some y4/\((P ((y4.1,y4.2.1,y4.2.2.1,y4.2.2.2.1,()),y4.2.2.2.1,())/\P ((y4.1,y4.2.1,y4.2.2.1,y4.2.2.2.1,()),y4.2.2.2.1,()))/\P ((y4.1,y4.2.1,y4.2.2.1,y4.2.2.2.1,()),y4.2.2.2.1,()))/\(P ((y4.1,y4.2.1,y4.2.2.1,y4.2.2.2.1,()),y4.2.2.2.1,())/\P ((y4.1,y4.2.1,y4.2.2.1,y4.2.2.2.1,()),y4.2.2.2.1,()))/\P ((y4.1,y4.2.1,y4.2.2.1,y4.2.2.2.1,()),y4.2.2.2.1,()))/\ ∃(y3:List Int),Ce.fn (p.1,())=some y3/\ ∃(y4:Ca),Dm.fn ((p.1,p.2.1,p.2.2.1,()),y3,())=some y4/\((P ((y4.1,y4.2.1,y4.2.2.1,y4.2.2.2.1,()),y4.2.2.2.1,())/\P ((y4.1,y4.2.1,y4.2.2.1,y4.2.2.2.1,()),y4.2.2.2.1,()))/\P ((y4.1,y4.2.1,y4.2.2.1,y4.2.2.2.1,()),y4.2.2.2.1,()))/\(P ((y4.1,y4.2.1,y4.2.2.1,y4.2.2.2.1,()),y4.2.2.2.1,())/\P ((y4.1,y4.2.1,y4.2.2.1,y4.2.2.2.1,()),y4.2.2.2.1,()))/\P ((y4.1,y4.2.1,y4.2.2.1,y4.2.2.2.1,()),y4.2.2.2.1,()))/\((((∃(y3:List Int),Ce.fn (p.1,())=some y3/\(∃(y4:Ca),Dm.fn ((p.1,p.2.1,p.2.2.1,()),y3,())=some y4/\((P ((y4.1,y4.2.1,y4.2.2.1,y4.2.2.2.1,()),y4.2.2.2.1,())/\P ((y4.1,y4.2.1,y4.2.2.1,y4.2.2.2.1,()),y4.2.2.2.1,()))/\P ((y4.1,y4.2.1,y4.2.2.1,y4.2.2.2.1,()),y4.2.2.2.1,()))/\(P ((y4.1,y4.2.1,y4.2.2.1,y4.2.2.2.1,()),y4.2.2.2.1,())/\P ((y4.1,y4.2.1,y4.2.2.1,y4.2.2.2.1,()),y4.2.2.2.1,()))/\P ((y4.1,y4.2.1,y4.2.2.1,y4.2.2.2.1,()),y4.2.2.2.1,()))/\ ∃(y4:Ca),Dm.fn ((p.1,p.2.1,p.2.2.1,()),y3,())=some y4/\((P ((y4.1,y4.2.1,y4.2.2.1,y4.2.2.2.1,()),y4.2.2.2.1,())/\P ((y4.1,y4.2.1,y4.2.2.1,y4.2.2.2.1,()),y4.2.2.2.1,()))/\P ((y4.1,y4.2.1,y4.2.2.1,y4.2.2.2.1,()),y4.2.2.2.1,()))/\(P ((y4.1,y4.2.1,y4.2.2.1,y4.2.2.2.1,()),y4.2.2.2.1,())/\P ((y4.1,y4.2.1,y4.2.2.1,y4.2.2.2.1,()),y4.2.2.2.1,()))/\P ((y4.1,y4.2.1,y4.2.2.1,y4.2.2.2.1,()),y4.2.2.2.1,()))/\ ∃(y3:List Int),Ce.fn (p.1,())=some y3/\ ∃(y4:Ca),Dm.fn ((p.1,p.2.1,p.2.2.1,()),y3,())=some y4/\((P ((y4.1,y4.2.1,y4.2.2.1,y4.2.2.2.1,()),y4.2.2.2.1,())/\P ((y4.1,y4.2.1,y4.2.2.1,y4.2.2.2.1,()),y4.2.2.2.1,()))/\P ((y4.1,y4.2.1,y4.2.2.1,y4.2.2.2.1,()),y4.2.2.2.1,()))/\(P ((y4.1,y4.2.1,y4.2.2.1,y4.2.2.2.1,()),y4.2.2.2.1,())/\P ((y4.1,y4.2.1,y4.2.2.1,y4.2.2.2.1,()),y4.2.2.2.1,()))/\P ((y4.1,y4.2.1,y4.2.2.1,y4.2.2.2.1,()),y4.2.2.2.1,()))/\ ∃(y3:List Int),Ce.fn (p.1,())=some y3/\ ∃(y4:Ca),Dm.fn ((p.1,p.2.1,p.2.2.1,()),y3,())=some y4/\((P ((y4.1,y4.2.1,y4.2.2.1,y4.2.2.2.1,()),y4.2.2.2.1,())/\P ((y4.1,y4.2.1,y4.2.2.1,y4.2.2.2.1,()),y4.2.2.2.1,()))/\P ((y4.1,y4.2.1,y4.2.2.1,y4.2.2.2.1,()),y4.2.2.2.1,()))/\(P ((y4.1,y4.2.1,y4.2.2.1,y4.2.2.2.1,()),y4.2.2.2.1,())/\P ((y4.1,y4.2.1,y4.2.2.1,y4.2.2.2.1,()),y4.2.2.2.1,()))/\P ((y4.1,y4.2.1,y4.2.2.1,y4.2.2.2.1,()),y4.2.2.2.1,()))/\(((∃(y3:List Int),Ce.fn (p.1,())=some y3/\(∃(y4:Ca),Dm.fn ((p.1,p.2.1,p.2.2.1,()),y3,())=some y4/\((P ((y4.1,y4.2.1,y4.2.2.1,y4.2.2.2.1,()),y4.2.2.2.1,())/\P ((y4.1,y4.2.1,y4.2.2.1,y4.2.2.2.1,()),y4.2.2.2.1,()))/\P ((y4.1,y4.2.1,y4.2.2.1,y4.2.2.2.1,()),y4.2.2.2.1,()))/\(P ((y4.1,y4.2.1,y4.2.2.1,y4.2.2.2.1,()),y4.2.2.2.1,())/\P ((y4.1,y4.2.1,y4.2.2.1,y4.2.2.2.1,()),y4.2.2.2.1,()))/\P ((y4.1,y4.2.1,y4.2.2.1,y4.2.2.2.1,()),y4.2.2.2.1,()))/\ ∃(y4:Ca),Dm.fn ((p.1,p.2.1,p.2.2.1,()),y3,())=some y4/\((P ((y4.1,y4.2.1,y4.2.2.1,y4.2.2.2.1,()),y4.2.2.2.1,())/\P ((y4.1,y4.2.1,y4.2.2.1,y4.2.2.2.1,()),y4.2.2.2.1,()))/\P ((y4.1,y4.2.1,y4.2.2.1,y4.2.2.2.1,()),y4.2.2.2.1,()))/\(P ((y4.1,y4.2.1,y4.2.2.1,y4.2.2.2.1,()),y4.2.2.2.1,())/\P ((y4.1,y4.2.1,y4.2.2.1,y4.2.2.2.1,()),y4.2.2.2.1,()))/\P ((y4.1,y4.2.1,y4.2.2.1,y4.2.2.2.1,()),y4.2.2.2.1,()))/\ ∃(y3:List Int),Ce.fn (p.1,())=some y3/\ ∃(y4:Ca),Dm.fn ((p.1,p.2.1,p.2.2.1,()),y3,())=some y4/\((P ((y4.1,y4.2.1,y4.2.2.1,y4.2.2.2.1,()),y4.2.2.2.1,())/\P ((y4.1,y4.2.1,y4.2.2.1,y4.2.2.2.1,()),y4.2.2.2.1,()))/\P ((y4.1,y4.2.1,y4.2.2.1,y4.2.2.2.1,()),y4.2.2.2.1,()))/\(P ((y4.1,y4.2.1,y4.2.2.1,y4.2.2.2.1,()),y4.2.2.2.1,())/\P ((y4.1,y4.2.1,y4.2.2.1,y4.2.2.2.1,()),y4.2.2.2.1,()))/\P ((y4.1,y4.2.1,y4.2.2.1,y4.2.2.2.1,()),y4.2.2.2.1,()))/\(∃(y3:List Int),Ce.fn (p.1,())=some y3/\((∃(y4:Ca),Dm.fn ((p.1,p.2.1,p.2.2.1,()),y3,())=some y4/\((P ((y4.1,y4.2.1,y4.2.2.1,y4.2.2.2.1,()),y4.2.2.2.1,())/\P ((y4.1,y4.2.1,y4.2.2.1,y4.2.2.2.1,()),y4.2.2.2.1,()))/\P ((y4.1,y4.2.1,y4.2.2.1,y4.2.2.2.1,()),y4.2.2.2.1,()))/\(P ((y4.1,y4.2.1,y4.2.2.1,y4.2.2.2.1,()),y4.2.2.2.1,())/\P ((y4.1,y4.2.1,y4.2.2.1,y4.2.2.2.1,()),y4.2.2.2.1,()))/\P ((y4.1,y4.2.1,y4.2.2.1,y4.2.2.2.1,()),y4.2.2.2.1,()))/\ ∃(y4:Ca),Dm.fn ((p.1,p.2.1,p.2.2.1,()),y3,())=some y4/\((P ((y4.1,y4.2.1,y4.2.2.1,y4.2.2.2.1,()),y4.2.2.2.1,())/\P ((y4.1,y4.2.1,y4.2.2.1,y4.2.2.2.1,()),y4.2.2.2.1,()))/\P ((y4.1,y4.2.1,y4.2.2.1,y4.2.2.2.1,()),y4.2.2.2.1,()))/\(P ((y4.1,y4.2.1,y4.2.2.1,y4.2.2.2.1,()),y4.2.2.2.1,())/\P ((y4.1,y4.2.1,y4.2.2.1,y4.2.2.2.1,()),y4.2.2.2.1,()))/\P ((y4.1,y4.2.1,y4.2.2.1,y4.2.2.2.1,()),y4.2.2.2.1,()))/\ ∃(y4:Ca),Dm.fn ((p.1,p.2.1,p.2.2.1,()),y3,())=some y4/\((P ((y4.1,y4.2.1,y4.2.2.1,y4.2.2.2.1,()),y4.2.2.2.1,())/\P ((y4.1,y4.2.1,y4.2.2.1,y4.2.2.2.1,()),y4.2.2.2.1,()))/\P ((y4.1,y4.2.1,y4.2.2.1,y4.2.2.2.1,()),y4.2.2.2.1,()))/\(P ((y4.1,y4.2.1,y4.2.2.1,y4.2.2.2.1,()),y4.2.2.2.1,())/\P ((y4.1,y4.2.1,y4.2.2.1,y4.2.2.2.1,()),y4.2.2.2.1,()))/\P ((y4.1,y4.2.1,y4.2.2.1,y4.2.2.2.1,()),y4.2.2.2.1,()))/\(∃(y3:List Int),Ce.fn (p.1,())=some y3/\ ∃(y4:Ca),Dm.fn ((p.1,p.2.1,p.2.2.1,()),y3,())=some y4/\((P ((y4.1,y4.2.1,y4.2.2.1,y4.2.2.2.1,()),y4.2.2.2.1,())/\P ((y4.1,y4.2.1,y4.2.2.1,y4.2.2.2.1,()),y4.2.2.2.1,()))/\P ((y4.1,y4.2.1,y4.2.2.1,y4.2.2.2.1,()),y4.2.2.2.1,()))/\(P ((y4.1,y4.2.1,y4.2.2.1,y4.2.2.2.1,()),y4.2.2.2.1,())/\P ((y4.1,y4.2.1,y4.2.2.1,y4.2.2.2.1,()),y4.2.2.2.1,()))/\P ((y4.1,y4.2.1,y4.2.2.1,y4.2.2.2.1,()),y4.2.2.2.1,()))/\ ∃(y3:List Int),Ce.fn (p.1,())=some y3/\ ∃(y4:Ca),Dm.fn ((p.1,p.2.1,p.2.2.1,()),y3,())=some y4/\((P ((y4.1,y4.2.1,y4.2.2.1,y4.2.2.2.1,()),y4.2.2.2.1,())/\P ((y4.1,y4.2.1,y4.2.2.1,y4.2.2.2.1,()),y4.2.2.2.1,()))/\P ((y4.1,y4.2.1,y4.2.2.1,y4.2.2.2.1,()),y4.2.2.2.1,()))/\(P ((y4.1,y4.2.1,y4.2.2.1,y4.2.2.2.1,()),y4.2.2.2.1,())/\P ((y4.1,y4.2.1,y4.2.2.1,y4.2.2.2.1,()),y4.2.2.2.1,()))/\P ((y4.1,y4.2.1,y4.2.2.1,y4.2.2.2.1,()),y4.2.2.2.1,()))/\(∃(y3:List Int),Ce.fn (p.1,())=some y3/\ ∃(y4:Ca),Dm.fn ((p.1,p.2.1,p.2.2.1,()),y3,())=some y4/\((P ((y4.1,y4.2.1,y4.2.2.1,y4.2.2.2.1,()),y4.2.2.2.1,())/\P ((y4.1,y4.2.1,y4.2.2.1,y4.2.2.2.1,()),y4.2.2.2.1,()))/\P ((y4.1,y4.2.1,y4.2.2.1,y4.2.2.2.1,()),y4.2.2.2.1,()))/\(P ((y4.1,y4.2.1,y4.2.2.1,y4.2.2.2.1,()),y4.2.2.2.1,())/\P ((y4.1,y4.2.1,y4.2.2.1,y4.2.2.2.1,()),y4.2.2.2.1,()))/\P ((y4.1,y4.2.1,y4.2.2.1,y4.2.2.2.1,()),y4.2.2.2.1,()))/\(∃(y3:List Int),Ce.fn (p.1,())=some y3/\ ∃(y4:Ca),Dm.fn ((p.1,p.2.1,p.2.2.1,()),y3,())=some y4/\((P ((y4.1,y4.2.1,y4.2.2.1,y4.2.2.2.1,()),y4.2.2.2.1,())/\P ((y4.1,y4.2.1,y4.2.2.1,y4.2.2.2.1,()),y4.2.2.2.1,()))/\P ((y4.1,y4.2.1,y4.2.2.1,y4.2.2.2.1,()),y4.2.2.2.1,()))/\(P ((y4.1,y4.2.1,y4.2.2.1,y4.2.2.2.1,()),y4.2.2.2.1,())/\P ((y4.1,y4.2.1,y4.2.2.1,y4.2.2.2.1,()),y4.2.2.2.1,()))/\P ((y4.1,y4.2.1,y4.2.2.1,y4.2.2.2.1,()),y4.2.2.2.1,()))/\ ∃(y3:List Int),Ce.fn (p.1,())=some y3/\ ∃(y4:Ca),Dm.fn ((p.1,p.2.1,p.2.2.1,()),y3,())=some y4/\((P ((y4.1,y4.2.1,y4.2.2.1,y4.2.2.2.1,()),y4.2.2.2.1,())/\P ((y4.1,y4.2.1,y4.2.2.1,y4.2.2.2.1,()),y4.2.2.2.1,()))/\P ((y4.1,y4.2.1,y4.2.2.1,y4.2.2.2.1,()),y4.2.2.2.1,()))/\(P ((y4.1,y4.2.1,y4.2.2.1,y4.2.2.2.1,()),y4.2.2.2.1,())/\P ((y4.1,y4.2.1,y4.2.2.1,y4.2.2.2.1,()),y4.2.2.2.1,()))/\P ((y4.1,y4.2.1,y4.2.2.1,y4.2.2.2.1,()),y4.2.2.2.1,()))/\(∃(y3:List Int),Ce.fn (p.1,())=some y3/\ ∃(y4:Ca),Dm.fn ((p.1,p.2.1,p.2.2.1,()),y3,())=some y4/\((P ((y4.1,y4.2.1,y4.2.2.1,y4.2.2.2.1,()),y4.2.2.2.1,())/\P ((y4.1,y4.2.1,y4.2.2.1,y4.2.2.2.1,()),y4.2.2.2.1,()))/\P ((y4.1,y4.2.1,y4.2.2.1,y4.2.2.2.1,()),y4.2.2.2.1,()))/\(P ((y4.1,y4.2.1,y4.2.2.1,y4.2.2.2.1,()),y4.2.2.2.1,())/\P ((y4.1,y4.2.1,y4.2.2.1,y4.2.2.2.1,()),y4.2.2.2.1,()))/\P ((y4.1,y4.2.1,y4.2.2.1,y4.2.2.2.1,()),y4.2.2.2.1,()))/\(∃(y3:List Int),Ce.fn (p.1,())=some y3/\ ∃(y4:Ca),Dm.fn ((p.1,p.2.1,p.2.2.1,()),y3,())=some y4/\((P ((y4.1,y4.2.1,y4.2.2.1,y4.2.2.2.1,()),y4.2.2.2.1,())/\P ((y4.1,y4.2.1,y4.2.2.1,y4.2.2.2.1,()),y4.2.2.2.1,()))/\P ((y4.1,y4.2.1,y4.2.2.1,y4.2.2.2.1,()),y4.2.2.2.1,()))/\(P ((y4.1,y4.2.1,y4.2.2.1,y4.2.2.2.1,()),y4.2.2.2.1,())/\P ((y4.1,y4.2.1,y4.2.2.1,y4.2.2.2.1,()),y4.2.2.2.1,()))/\P ((y4.1,y4.2.1,y4.2.2.1,y4.2.2.2.1,()),y4.2.2.2.1,()))/\(∃(y3:List Int),Ce.fn (p.1,())=some y3/\ ∃(y4:Ca),Dm.fn ((p.1,p.2.1,p.2.2.1,()),y3,())=some y4/\((P ((y4.1,y4.2.1,y4.2.2.1,y4.2.2.2.1,()),y4.2.2.2.1,())/\P ((y4.1,y4.2.1,y4.2.2.1,y4.2.2.2.1,()),y4.2.2.2.1,()))/\P ((y4.1,y4.2.1,y4.2.2.1,y4.2.2.2.1,()),y4.2.2.2.1,()))/\(P ((y4.1,y4.2.1,y4.2.2.1,y4.2.2.2.1,()),y4.2.2.2.1,())/\P ((y4.1,y4.2.1,y4.2.2.1,y4.2.2.2.1,()),y4.2.2.2.1,()))/\P ((y4.1,y4.2.1,y4.2.2.1,y4.2.2.2.1,()),y4.2.2.2.1,()))/\ ∃(y3:List Int),Ce.fn (p.1,())=some y3/\ ∃(y4:Ca),Dm.fn ((p.1,p.2.1,p.2.2.1,()),y3,())=some y4/\((P ((y4.1,y4.2.1,y4.2.2.1,y4.2.2.2.1,()),y4.2.2.2.1,())/\P ((y4.1,y4.2.1,y4.2.2.1,y4.2.2.2.1,()),y4.2.2.2.1,()))/\P ((y4.1,y4.2.1,y4.2.2.1,y4.2.2.2.1,()),y4.2.2.2.1,()))/\(P ((y4.1,y4.2.1,y4.2.2.1,y4.2.2.2.1,()),y4.2.2.2.1,())/\P ((y4.1,y4.2.1,y4.2.2.1,y4.2.2.2.1,()),y4.2.2.2.1,()))/\P ((y4.1,y4.2.1,y4.2.2.1,y4.2.2.2.1,()),y4.2.2.2.1,())))=fnW Di (look [(110,Eo),(124,Ce),(112,Dm)]) Kd Try.f75 (p,()) P:=by kernel_rfl
theorem EY (p:Int×ByteArray×List (List Int)×Unit) (f:List (List Int)×List Int×List Int×Bool×Unit) (s:List Int) (P:Bool->Prop):(∃(y4:Bool),Ui.fn ((p.1,p.2.1,p.2.2.1,()),s,())=some y4/\Br y4 (∃(y5:Int),Hr.fn ((f.1,f.2.1,f.2.2.1,f.2.2.2.1,()),s,())=some y5/\P (decide (y5>=(0:Int)))) (P false))=fnW Di (look [(103,Ui),(54,Hr)]) Uf Try.f53 (p,f,s,()) P:=by kernel_rfl
theorem CM {p:List Int} (h:Up p):Fu p=true:=by
 refine Du.2 ⟨h.pos,h.len,λj h1 h2=>?_⟩
 have:=h.row _ (List.getElem_mem h2)
 exact ⟨by omega,by omega,λhm=>by
  obtain ⟨i,hi,e⟩:=List.mem_iff_getElem.1 hm
  have ek:i<j:=by rw [List.length_take] at hi;omega
  rw [List.getElem_take] at e
  exact (List.pairwise_iff_getElem.1 h.nodup i j (by omega) h2 ek) e⟩
theorem Cr {p:PP} (hw:Cg p=true):Bh p=true/\(Fm p.2.2.1 (upto p.1.toNat)).2.2=true:=Bool.and_eq_true_iff.1 hw
theorem AW {p:PP} (hw:Cg p=true):Reach p (Ad p) (Ai p) true:=by
 have h:=cI (Cr hw).1
 rw [(Cr hw).2] at h
 exact h
theorem aK {p:PP} (hv:Bh p=true):Pz p p.1.toNat (Ad p) (Ai p):=(cI hv).ok
theorem GO {p:PP} (hV:Valid p):zA p.1.toNat λg=>some g∈p.2.2.1.map some:=
 ⟨by have:=hV.n;omega,λg Zk=>by obtain ⟨g',e,h⟩:=nm (gu hV).2.2 _ Zk;cases e;exact h⟩
theorem wD {p:PP} (hv:Bh p=true) {x:List Int} (hx:x∈Ad p):Pm p.1.toNat x:=Xs.pm (GO (valid hv)) ((cI hv).gen x hx)
theorem UD {p:PP} (hV:Valid p) {x:List Int} (h:Pm p.1.toNat x):Ej p.1 x=true:=by
 have:=hV.n
 have:=h.1
 exact Du.2 ⟨by omega,CM h.2⟩
theorem GN {p:PP} (_hV:Valid p) {x:List Int} (h:Ej p.1 x=true):Pm p.1.toNat x:=by
 obtain ⟨h1,h2⟩:=Du.1 h
 exact ⟨by omega,fQ h2⟩
theorem JR {p:PP} (hv:Bh p=true) {x:List Int} (hx:x∈Ad p):Ej p.1 x=true:=UD (valid hv) (wD hv hx)
theorem OA {p:PP} (hv:Bh p=true) {x:List Int} (hx:x∈Ad p):Qa x:= λy hy=>by
 have h1:=(aK hv).row x hx y hy
 have:=(valid hv).n
 omega
theorem NV {n:Nat} {x:List Int} (h:Pm n x):Qa x:= λy hy=>by
 have h1:=h.row y hy
 have:=h.n2
 omega
theorem JG {n:Nat} {x:List Int} (h:Pm n x):short x:=by
 have h1:=h.1
 have:=h.n2
 unfold short;omega
theorem lv {p:PP} (hw:Cg p=true):(Hy p).2.1=Ad p/\(Hy p).2.2.1=Ai p:=by
 have h:=(Cr hw).2
 refine uC 3001 0 ([upto p.1.toNat],[0],[0],[0]) [] _ _ ?_
 show Gl p.2.2.1 (Af p.2.2.1.length) 3001 0 [upto p.1.toNat] [0]=(Ad p,Ai p,true)
 rw [<-h]
 rfl
theorem MC {p:PP} (hw:Cg p=true) {s:List Int} (hs:Qa s):(Hy p).2.2.2.1 (Mg s)=if s∈Ad p then some (((Ad p).idxOf s:Nat):Int) else none:=by
 show Rr (Hy p).2.1 (Mg s)=_
 rw [(lv hw).1,qc hs λy hy=>OA (Cr hw).1 hy]
theorem TV (e:Option XP) (s:List Int) (h:(∃e':XP,e=some e'/\qT e')/\short s):fnW Di (look [(141,Rc),(128,Ei)]) Xm Try.f98 (e,s,()) (λ(z:Int×Bool×Unit)=>z=IH e s):=by
 obtain ⟨⟨e',rfl,h1,h2⟩,hs⟩:=h
 have hv:=(Cr h1).1
 refine Eq.mp (UR (some e') s _) ⟨e',rfl,_,if_pos hs,Br.of (λhb=>?_) λhb=>⟨e',rfl,_,if_pos hs,?_⟩⟩
 ·have hb:=Cy hb
  show (0,false,())=Pe e'.1 s
  unfold Pe
  rw [if_neg λhm=>hb (JR hv hm)]
 ·have hb:Ej e'.1.1 s=true:=by simpa using hb
  have hp:=GN (valid hv) hb
  dsimp only
  have e3:e'.2.2.2.1=(Hy e'.1).2.2.2.1:=by rw [<-h2]
  rw [e3,MC h1 (NV hp)]
  show _=Pe e'.1 s
  unfold Pe
  split<;>rfl
theorem nF:Sound Try.prog 98 Xm:=
 Sound.Dp Cf (Ah fV (Ah cY At)) mixed Try.func98 (by kernel_rfl) (by kernel_rfl) λx h=>TV x.1 x.2.1 h
theorem yJ (p:PP) (h:Cj p):fnW Di (look [(110,Eo),(124,Ce),(112,Dm)]) Kd Try.f75 (p,()) (λ(z:SS×Bool×Unit)=>z=Ga p):=by
 refine Eq.mp (zv p _) ⟨_,if_pos h,?_⟩
 show Br (!Bh p) _ _
 unfold Ga
 by_cases hv:Bh p=true
 ·rw [if_pos hv,hv]
  refine ⟨λhb=>by simp at hb,λ_=>?_⟩
  have hn:=(valid hv).n
  have hid:Ce.fn (p.1,())=some (upto p.1.toNat):=if_pos ⟨by show 0<=p.1;omega,by show p.1<=20;omega⟩
  have QK: ∀y∈upto p.1.toNat,0<=y/\y<p.1:= λy hy=>by have:=Ik.1 hy;omega
  have uS:Dm.fn ((p.1,p.2.1,p.2.2.1,()),upto p.1.toNat,())=some (Bg p.2.2.1 (upto p.1.toNat)):=if_pos ⟨hv,by show (upto p.1.toNat).length<=20;rw [Pw];omega,QK⟩
  have hz:(((Bg p.2.2.1 (upto p.1.toNat)).1,(Bg p.2.2.1 (upto p.1.toNat)).2.1,(Bg p.2.2.1 (upto p.1.toNat)).2.2.1,(Bg p.2.2.1 (upto p.1.toNat)).2.2.2.1,()),(Bg p.2.2.1 (upto p.1.toNat)).2.2.2.1,())=(Bg p.2.2.1 (upto p.1.toNat),Cg p,()):=by
   unfold Cg
   rw [hv,Bool.true_and]
   rfl
  repeat' (first|exact hz|refine ⟨_,hid,?_⟩|refine ⟨_,uS,?_⟩|refine ⟨?_,?_⟩)
 ·rw [if_neg hv]
  refine ⟨λ_=>rfl,λhb=>?_⟩
  exact absurd (by simpa using hb) hv
theorem nN:Sound Try.prog 75 Kd:=
 Sound.Dp Cf (Ah Ri (Ah nG (Ah wB At))) mixed Try.func75 (by kernel_rfl) (by kernel_rfl) λx h=>yJ x.1 h
theorem DF (p:PP) (f:SS) (s:List Int) (h:Cj p/\short s/\Bh p=true/\f=Bg p.2.2.1 (upto p.1.toNat)):fnW Di (look [(103,Ui),(54,Hr)]) Uf Try.f53 (p,f,s,()) (λ(z:Bool)=>z=decide (s∈Ad p)):=by
 obtain ⟨hp,hs,hv,rfl⟩:=h
 refine Eq.mp (EY p _ s _) ⟨_,if_pos ⟨hp,hs⟩,?_⟩
 show Br (Bh p&&Ej p.1 s) _ _
 rw [hv,Bool.true_and]
 refine Br.of (λhb=>?_) λhb=>?_
 ·have LK:=GN (valid hv) hb
  refine ⟨_,if_pos (by show Ct s.length (Ad p) (Sq (Ad p));rw [LK.1];exact (aK hv).ok),?_⟩
  show decide (Wn (Ad p) s>=0)=_
  unfold Wn
  split
  ·rename_i hm
   rw [decide_eq_true hm]
   exact decide_eq_true (by omega)
  ·rename_i hm
   rw [decide_eq_false hm]
   rfl
 ·exact (decide_eq_false λhm=>by rw [JR hv hm] at hb;cases hb).symm
theorem pe:Sound Try.prog 53 Uf:=
 Sound.Dp Cf (Ah iA (Ah Tw At)) mixed Try.func53 (by kernel_rfl) (by kernel_rfl) λx h=>DF x.1 x.2.1 x.2.2.1 h
theorem wE {p:PP} (hv:Bh p=true):(Ad p).length<=3000:=(aK hv).ok.ec
theorem nQ {p:PP} (hp:Cj p) (hw:Cg p=true):Kd.fn ((p.1,p.2.1,p.2.2.1,()),())=some (Bg p.2.2.1 (upto p.1.toNat),true,()):=
 (if_pos hp).trans (congrArg some ((if_pos (Cr hw).1).trans (by rw [<-hw])))
end Go.Proofs.Ytjbdmibbbpdnnaa

namespace Go.Proofs.Ytjbdmibbbpdnnaa
open Go.RowKit
def Np (b:ByteArray) (t:List Int):ByteArray:=t.foldl (λa k=>a++b.extract k.toNat (k+1).toNat) ByteArray.empty
def Au (p:PP) (t:List Int):PP:=(p.1,Np p.2.1 t,t.map λk=>p.2.2.1.getD k.toNat [],())
noncomputable abbrev Rg:Spec:=Dp (.pair Cu (.pair tL .unit)) Cu false true (λx=>Cj x.1/\Bl x.1 x.2.1=true) (λx=>Au x.1 x.2.1)
noncomputable abbrev Mc:Spec:=Dp (.pair Cu (.pair tL .unit)) Cu false true (λx=>Cj x.1/\Bl x.1 x.2.1=true) (λx=>Au x.1 x.2.1)
noncomputable abbrev Io:MSpec:=ai [some 3,none] [(false, .Ee tI),(false, .Ee .str),(false, .Ee fY),(false, .Ee tL)] false [some 3] [.Ee tI, .Ee .str,xLL]
 (λx=>Cj (x.1,x.2.1,x.2.2.1,())/\Bl (x.1,x.2.1,x.2.2.1,()) x.2.2.2.1=true) (λx=>(((Au (x.1,x.2.1,x.2.2.1,()) x.2.2.2.1).1,(Au (x.1,x.2.1,x.2.2.1,()) x.2.2.2.1).2.1,(Au (x.1,x.2.1,x.2.2.1,()) x.2.2.2.1).2.2.1,()),()))
abbrev HP:Type:=Option XP×List Int×Option XP×Unit
noncomputable def Mn (p:PP) (t:List Int):Bool:=Cg p&&Bl p t
noncomputable def Jj (p:PP) (t:List Int):HP:=(some (Hy p),t,some (Hy (Au p t)),())
noncomputable abbrev Jt:Spec:=Dp (.pair Cu (.pair tL .unit)) (.pair (.optr iF) (.pair .bool .unit)) true false (λx=>Cj x.1/\short x.2.1) (λx=>if Mn x.1 x.2.1=true then (some (Jj x.1 x.2.1),true,()) else (none,false,()))
noncomputable abbrev Lp:Spec:=Dp (.pair Cu (.pair tL (.pair tL .unit))) (.pair (.optr iF) (.pair tI (.pair .bool .unit))) true false (λx=>Cj x.1/\short x.2.1/\short x.2.2.1)
 (λx=>if Mn x.1 x.2.1=true then (some (Jj x.1 x.2.1),(Pe x.1 x.2.2.1).1,(Pe x.1 x.2.2.1).2.1,()) else (none,0,false,()))
noncomputable abbrev cR:Spec:=Dp (.pair Cu (.pair tL .unit)) (.pair Pu (.pair Pu (.pair .bool .unit))) true false (λx=>Cj x.1/\short x.2.1)
 (λx=>(if Mn x.1 x.2.1=true then (Bg x.1.2.2.1 (upto x.1.1.toNat),Bg (Au x.1 x.2.1).2.2.1 (upto x.1.1.toNat),true,()) else ((Ga x.1).1,(Ga x.1).1,false,())))
abbrev kP:Type:=Int×Int×ByteArray×List (List Int)×Int×ByteArray×Int×ByteArray×List (List Int)×List (List Int)×PUnit
theorem zu (p:Int×ByteArray×List (List Int)×Unit) (t:List Int) (P:(Int×ByteArray×List (List Int)×Unit)->Prop):(0=0/\0=([]:List Int).length/\0=0/\0=([]:List Int).length/\Cb (λ(v3:kP) (k4:kP->Prop)=>Br (decide (v3.1<(↑t.length:Int))) (∃(y5:Int),idx t v3.1=some y5/\((0:Int)<=y5/\y5<=IntKind.i64.wrap (y5+(1:Int))/\IntKind.i64.wrap (y5+(1:Int))<=(↑v3.2.2.1.size:Int))/\v3.2.2.2.2.2.2.2.1.size+(v3.2.2.1.extract y5.toNat (IntKind.i64.wrap (y5+(1:Int))).toNat).size<=4294967296/\ ∃(y6:List Int),idx v3.2.2.2.1 y5=some y6/\ ∃(y7:List Int),Kc.fn (y6,())=some y7/\0=0/\v3.2.2.2.2.2.2.2.2.2.1.length=v3.2.2.2.2.2.2.2.2.2.1.length/\v3.2.2.2.2.2.2.2.2.2.1.length+ [y7].length<=Bm/\0=0/\v3.2.2.2.2.2.2.2.2.1.length=v3.2.2.2.2.2.2.2.2.1.length/\0=0/\(v3.2.2.2.2.2.2.2.2.2.1++ [y7]).length=(v3.2.2.2.2.2.2.2.2.2.1++ [y7]).length/\k4 (IntKind.i64.wrap (v3.1+(1:Int)),v3.2.1,v3.2.2.1,v3.2.2.2.1,v3.2.2.2.2.1,v3.2.2.2.2.2.1,v3.2.2.2.2.2.2.1,v3.2.2.2.2.2.2.2.1++v3.2.2.1.extract y5.toNat (IntKind.i64.wrap (y5+(1:Int))).toNat,v3.2.2.2.2.2.2.2.2.1,v3.2.2.2.2.2.2.2.2.2.1++ [y7],())) (P (v3.2.2.2.2.2.2.1,v3.2.2.2.2.2.2.2.1,List.take v3.2.2.2.2.2.2.2.2.2.1.length (List.drop 0 v3.2.2.2.2.2.2.2.2.2.1),()))) ((0:Int),p.1,p.2.1,p.2.2.1,Int.ofNat (nat_lit 0), {data:= #[]},p.1, {data:= #[]},[],[],PUnit.unit))=fnW Di (look [(123,Kc)]) Rg Try.f102 (p,t,()) P:=by kernel_rfl
abbrev eM:Type:=Int×Int×ByteArray×List (List Int)×Int×ByteArray×Int×ByteArray×List (List Int)×List (List Int)×PUnit
theorem tJ (p:Int×ByteArray×List (List Int)×Unit) (t:List Int) (P:(Int×ByteArray×List (List Int)×Unit)->Prop):(0=0/\0=([]:List Int).length/\0=0/\0=([]:List Int).length/\Cb (λ(v3:eM) (k4:eM->Prop)=>Br (decide (v3.1<(↑t.length:Int))) (∃(y5:Int),idx t v3.1=some y5/\((0:Int)<=y5/\y5<=IntKind.i64.wrap (y5+(1:Int))/\IntKind.i64.wrap (y5+(1:Int))<=(↑v3.2.2.1.size:Int))/\v3.2.2.2.2.2.2.2.1.size+(v3.2.2.1.extract y5.toNat (IntKind.i64.wrap (y5+(1:Int))).toNat).size<=4294967296/\ ∃(y6:List Int),idx v3.2.2.2.1 y5=some y6/\ ∃(y7:List Int),ir.fn (y6,())=some y7/\0=0/\v3.2.2.2.2.2.2.2.2.2.1.length=v3.2.2.2.2.2.2.2.2.2.1.length/\v3.2.2.2.2.2.2.2.2.2.1.length+ [y7].length<=Bm/\0=0/\v3.2.2.2.2.2.2.2.2.1.length=v3.2.2.2.2.2.2.2.2.1.length/\0=0/\(v3.2.2.2.2.2.2.2.2.2.1++ [y7]).length=(v3.2.2.2.2.2.2.2.2.2.1++ [y7]).length/\k4 (IntKind.i64.wrap (v3.1+(1:Int)),v3.2.1,v3.2.2.1,v3.2.2.2.1,v3.2.2.2.2.1,v3.2.2.2.2.2.1,v3.2.2.2.2.2.2.1,v3.2.2.2.2.2.2.2.1++v3.2.2.1.extract y5.toNat (IntKind.i64.wrap (y5+(1:Int))).toNat,v3.2.2.2.2.2.2.2.2.1,v3.2.2.2.2.2.2.2.2.2.1++ [y7],())) (P (v3.2.2.2.2.2.2.1,v3.2.2.2.2.2.2.2.1,List.take v3.2.2.2.2.2.2.2.2.2.1.length (List.drop 0 v3.2.2.2.2.2.2.2.2.2.1),()))) ((0:Int),p.1,p.2.1,p.2.2.1,Int.ofNat (nat_lit 0), {data:= #[]},p.1, {data:= #[]},[],[],PUnit.unit))=fnW Di (look [(145,ir)]) Mc Try.f107 (p,t,()) P:=by kernel_rfl
abbrev iD:Type:=Option ((Int×ByteArray×List (List Int)×PUnit)×List (List Int)×List Int×(ByteArray->Option Int)×List Int×List Int×List (List Int)×PUnit)×Bool×PUnit
theorem kS (p:Int×ByteArray×List (List Int)×Unit) (t:List Int) (P:(Option (Option XP×List Int×Option XP×Unit)×Bool×Unit)->Prop):(∃(y3:iD),Kp.fn ((p.1,p.2.1,p.2.2.1,()),())=some y3/\Br (!y3.2.1) (P (none,false,())) (∃(y4:Bool),Es.fn ((p.1,p.2.1,p.2.2.1,()),t,())=some y4/\Br (!y4) (P (none,false,())) (∃(y5:Int×ByteArray×List (List Int)×PUnit),Mc.fn ((p.1,p.2.1,p.2.2.1,()),t,())=some y5/\ ∃(y6:iD),Kp.fn (y5,())=some y6/\P (some (y3.1,t,y6.1,()),true,()))))=fnW Di (look [(80,Kp),(106,Es),(107,Mc)]) Jt Try.f57 (p,t,()) P:=by kernel_rfl
theorem o8 (p:Int×ByteArray×List (List Int)×Unit) (t s:List Int) (P:(Option (Option XP×List Int×Option XP×Unit)×Int×Bool×Unit)->Prop):(∃(y4:Option (Option ((Int×ByteArray×List (List Int)×PUnit)×List (List Int)×List Int×(ByteArray->Option Int)×List Int×List Int×List (List Int)×PUnit)×List Int×Option ((Int×ByteArray×List (List Int)×PUnit)×List (List Int)×List Int×(ByteArray->Option Int)×List Int×List Int×List (List Int)×PUnit)×PUnit)×Bool×PUnit),Jt.fn ((p.1,p.2.1,p.2.2.1,()),t,())=some y4/\Br (!y4.2.1) (P (none,(0:Int),false,())) (∃(y5:Option ((Int×ByteArray×List (List Int)×PUnit)×List (List Int)×List Int×(ByteArray->Option Int)×List Int×List Int×List (List Int)×PUnit)×List Int×Option ((Int×ByteArray×List (List Int)×PUnit)×List (List Int)×List Int×(ByteArray->Option Int)×List Int×List Int×List (List Int)×PUnit)×PUnit),y4.1=some y5/\ ∃(y6:Int×Bool×PUnit),Xm.fn (y5.1,s,())=some y6/\P (y4.1,y6.1,y6.2.1,())))=fnW Di (look [(57,Jt),(98,Xm)]) Lp Try.f55 (p,t,s,()) P:=by kernel_rfl
abbrev BB:Type:=(List (List Int)×List Int×List Int×Bool×PUnit)×Bool×PUnit
theorem UO (p:Int×ByteArray×List (List Int)×Unit) (t:List Int) (P:(SS×SS×Bool×Unit)->Prop):(∃(y3:BB),Kd.fn ((p.1,p.2.1,p.2.2.1,()),())=some y3/\Br (!y3.2.1) ((P ((y3.1.1,y3.1.2.1,y3.1.2.2.1,y3.1.2.2.2.1,()),(y3.1.1,y3.1.2.1,y3.1.2.2.1,y3.1.2.2.2.1,()),false,())/\P ((y3.1.1,y3.1.2.1,y3.1.2.2.1,y3.1.2.2.2.1,()),(y3.1.1,y3.1.2.1,y3.1.2.2.1,y3.1.2.2.2.1,()),false,()))/\P ((y3.1.1,y3.1.2.1,y3.1.2.2.1,y3.1.2.2.2.1,()),(y3.1.1,y3.1.2.1,y3.1.2.2.1,y3.1.2.2.2.1,()),false,())) (∃(y4:Bool),Es.fn ((p.1,p.2.1,p.2.2.1,()),t,())=some y4/\Br (!y4) ((P ((y3.1.1,y3.1.2.1,y3.1.2.2.1,y3.1.2.2.2.1,()),(y3.1.1,y3.1.2.1,y3.1.2.2.1,y3.1.2.2.2.1,()),false,())/\P ((y3.1.1,y3.1.2.1,y3.1.2.2.1,y3.1.2.2.2.1,()),(y3.1.1,y3.1.2.1,y3.1.2.2.1,y3.1.2.2.2.1,()),false,()))/\P ((y3.1.1,y3.1.2.1,y3.1.2.2.1,y3.1.2.2.2.1,()),(y3.1.1,y3.1.2.1,y3.1.2.2.1,y3.1.2.2.2.1,()),false,())) (∃(y5:Int×ByteArray×List (List Int)×PUnit),Rg.fn ((p.1,p.2.1,p.2.2.1,()),t,())=some y5/\ ∃(y6:BB),Kd.fn (y5,())=some y6/\(P ((y3.1.1,y3.1.2.1,y3.1.2.2.1,y3.1.2.2.2.1,()),(y6.1.1,y6.1.2.1,y6.1.2.2.1,y6.1.2.2.2.1,()),true,())/\P ((y3.1.1,y3.1.2.1,y3.1.2.2.1,y3.1.2.2.2.1,()),(y6.1.1,y6.1.2.1,y6.1.2.2.1,y6.1.2.2.2.1,()),true,()))/\P ((y3.1.1,y3.1.2.1,y3.1.2.2.1,y3.1.2.2.2.1,()),(y6.1.1,y6.1.2.1,y6.1.2.2.1,y6.1.2.2.2.1,()),true,()))))=fnW Di (look [(75,Kd),(101,Es),(102,Rg)]) cR Try.f52 (p,t,()) P:=by kernel_rfl
theorem xt (b:ByteArray) (i:Nat):b[i]?=b.data[i]?:=by
 by_cases h:i<b.size
 ·rw [getElem?_pos b i h,getElem?_pos b.data i h];rfl
 ·rw [getElem?_neg b i h,getElem?_neg b.data i h]
theorem RG (a b:ByteArray) (k j:Nat) (hk:k<b.size):(a++b.extract k (k+1))[j]?=if j<a.size then a[j]? else if j=a.size then b[k]? else none:=by
 rw [xt,ByteArray.data_append,ByteArray.data_extract,Array.getElem?_append]
 by_cases h:j<a.size
 ·rw [if_pos h,if_pos (show j<a.data.size from h),xt]
 ·rw [if_neg h,if_neg (show ¬j<a.data.size from h)]
  have er:k<b.data.size:=hk
  by_cases e:j=a.size
  ·rw [if_pos e,xt]
   have:j-a.data.size=0:=by have:a.data.size=a.size:=rfl
                            omega
   rw [this,Array.getElem?_extract,if_pos (by omega),Nat.add_zero]
  ·rw [if_neg e,Array.getElem?_extract,if_neg]
   have:a.data.size=a.size:=rfl
   omega
theorem tf {b:ByteArray} : ∀(t:List Int) (a:ByteArray),(∀k∈t,0<=k/\k<b.size)->
  (t.foldl (λ(a:ByteArray) (k:Int)=>a++b.extract k.toNat (k+1).toNat) a).size=a.size+t.length/\
  ∀j,(t.foldl (λ(a:ByteArray) (k:Int)=>a++b.extract k.toNat (k+1).toNat) a)[j]?=if j<a.size then a[j]? else (t[j-a.size]?).bind λk=>b[k.toNat]?
 | [],a,_=>by
  refine ⟨rfl,λj=>?_⟩
  by_cases h:j<a.size
  ·rw [if_pos h];rfl
  ·rw [if_neg h]
   simp only [List.foldl_nil,List.getElem?_nil,Option.bind_none]
   exact getElem?_neg a j h
 |k::t,a,h=>by
  obtain ⟨h1,h2⟩:=h k (by simp)
  obtain ⟨kn,rfl⟩:=Int.eq_ofNat_of_zero_le h1
  have hkb:kn<b.size:=by omega
  have On:(a++b.extract kn (kn+1)).size=a.size+1:=by rw [ByteArray.size_append,ByteArray.size_extract];omega
  obtain ⟨g1,g2⟩:=tf t (a++b.extract kn (kn+1)) λk' er=>h k' (List.mem_cons_of_mem _ er)
  simp only [List.foldl_cons]
  rw [show ((kn:Nat):Int).toNat=kn from Int.toNat_natCast kn,show (((kn:Nat):Int)+1).toNat=kn+1 by omega]
  refine ⟨by rw [g1,On,List.length_cons];omega,λj=>?_⟩
  rw [g2 j,On,RG a b kn j hkb]
  by_cases e1:j<a.size
  ·rw [if_pos (by omega),if_pos e1,if_pos e1]
  ·rw [if_neg e1]
   by_cases e2:j=a.size
   ·subst e2
    rw [if_pos (by omega),if_pos rfl,if_neg (by omega),Nat.sub_self]
    simp
   ·rw [if_neg (by omega),if_neg e1,show j-a.size=(j-(a.size+1))+1 by omega,List.getElem?_cons_succ]
theorem Zg {b:ByteArray} (t:List Int) (h: ∀k∈t,0<=k/\k<b.size):(Np b t).size=t.length:=by
 have:=(tf t ByteArray.empty h).1
 rw [ByteArray.size_empty,Nat.zero_add] at this
 exact this
theorem wG {b:ByteArray} (t:List Int) (h: ∀k∈t,0<=k/\k<b.size) (j:Nat):(Np b t)[j]?=(t[j]?).bind λk=>b[k.toNat]?:=by
 have:=(tf t ByteArray.empty h).2 j
 rw [ByteArray.size_empty,if_neg (Nat.not_lt_zero _),Nat.sub_zero] at this
 exact this
theorem jO (b:ByteArray) {t:List Int} {j:Nat} (hl:j<t.length):Np b (t.take (j+1))=Np b (t.take j)++b.extract (t[j]).toNat (t[j]+1).toNat:=by
 unfold Np
 rw [List.take_add_one,List.getElem?_eq_getElem hl,Option.toList_some,List.foldl_append]
 rfl
structure GA (p:PP) (t:List Int):Prop where
 valid:Bh p=true
 pos:0<t.length
 ec:t.length<=p.2.2.1.length
 g8:p.2.2.1.length<=8
 size:p.2.1.size=p.2.2.1.length
 Oq: ∀ {j:Nat} (h:j<t.length),∃k:Nat,t[j]=(k:Int)/\k<p.2.2.1.length
 inc: ∀ {i j:Nat} (hi:i<t.length) (hj:j<t.length),i<j->t[i]<t[j]
theorem JF {n:Int} {xs:List Int} (h:PL n xs xs.length): ∀(j i:Nat) (hi:i<xs.length) (hj:j<xs.length),i<j->xs[i]<xs[j]
 |0,_,_,_,eo=>absurd eo (Nat.not_lt_zero _)
 |j+1,i,hi,hj,eo=>by
  have h1:=(h (j+1) hj hj).2.2 (by omega)
  simp only [Nat.add_sub_cancel] at h1
  by_cases e:i=j
  ·subst e;exact h1
  ·have:=JF h j i hi (by omega) (by omega)
   omega
theorem Vt {p:PP} {t:List Int} (h:Bl p t=true):GA p t:=by
 obtain ⟨hv,hp⟩:=Du.1 h
 obtain ⟨h1,h2⟩:=Du.1 hp
 have hV:=valid hv
 obtain ⟨_,_,On⟩:=Du.1 hv
 have MI: ∀ {j:Nat} (h:j<t.length),∃k:Nat,t[j]=(k:Int)/\k<p.2.2.1.length:= λ {j} hj=>by
  have:=h2 j hj hj
  obtain ⟨k,hk⟩:=Int.eq_ofNat_of_zero_le this.1
  exact ⟨k,hk,by omega⟩
 refine ⟨hv,h1,?_,hV.ec.2,On,MI,λhi hj eo=>JF h2 _ _ hi hj eo⟩
 have h5:=yL h2 (t.length-1) (by omega)
 obtain ⟨k,e,hk⟩:=MI (show t.length-1<t.length by omega)
 omega
theorem GA.TI {p:PP} {t:List Int} (h:GA p t): ∀k∈t,0<=k/\k<p.2.1.size:= λk hk=>by
 obtain ⟨j,hj,rfl⟩:=List.mem_iff_getElem.1 hk
 obtain ⟨kn,e,iN⟩:=h.Oq hj
 rw [h.size,e]
 omega
theorem nT {p:PP} {t:List Int} (h:Bl p t=true):Bh (Au p t)=true:=by
 have hs:=Vt h
 have hV:=valid hs.valid
 obtain ⟨hg,XZ,_⟩:=Du.1 hs.valid
 obtain ⟨g1,g2,g3⟩:=Du.1 hg
 obtain ⟨n1,n2⟩:=Du.1 XZ
 have On:=Zg t hs.TI
 refine Du.2 ⟨Du.2 ⟨g1,?_,λq hq=>?_⟩,Du.2 ⟨⟨?_,?_⟩,λj hj=>?_⟩,?_⟩
 ·show (t.map _).length<=8
  rw [List.length_map]
  have:=hs.ec
  have:=hs.g8
  omega
 ·obtain ⟨k,hk,rfl⟩:=List.mem_map.1 hq
  obtain ⟨j,hj,rfl⟩:=List.mem_iff_getElem.1 hk
  obtain ⟨kn,e,iN⟩:=hs.Oq hj
  rw [e,Int.toNat_natCast,Cz iN]
  exact g3 _ (List.getElem_mem iN)
 ·show 1<=(Np p.2.1 t).size
  rw [On];exact hs.pos
 ·show (Np p.2.1 t).size<=8
  rw [On];have:=hs.ec;have:=hs.g8;omega
 ·have hj:j<t.length:=by rw [<-On];exact hj
  obtain ⟨kn,e,iN⟩:=hs.Oq hj
  obtain ⟨c,c1,c2,c3,c4⟩:=n2 kn (by rw [hs.size];exact iN)
  refine ⟨c,?_,c2,c3,λi hi=>?_⟩
  ·show (Np p.2.1 t)[j]?=some c
   rw [wG t hs.TI,List.getElem?_eq_getElem hj,e,Option.bind_some,Int.toNat_natCast,c1]
  ·show (Np p.2.1 t)[i]?≠some c
   have ek:i<t.length:=by omega
   obtain ⟨k2,e2,XN⟩:=hs.Oq ek
   have:=hs.inc ek hj hi
   rw [wG t hs.TI,List.getElem?_eq_getElem ek,e2,Option.bind_some,Int.toNat_natCast]
   exact c4 k2 (by omega)
 ·show (Np p.2.1 t).size=(t.map _).length
  rw [On,List.length_map]
theorem nS {p:PP} {t:List Int} (hp:Cj p) (h:Bl p t=true):Cj (Au p t):=by
 have hs:=Vt h
 have h1:=hs.ec
 have h2:=hs.g8
 refine ⟨?_,?_,λq hq=>?_⟩
 ·show (Np p.2.1 t).size<=4294967296
  rw [Zg t hs.TI];omega
 ·show (t.map _).length<=4294967296
  rw [List.length_map];omega
 ·obtain ⟨k,hk,rfl⟩:=List.mem_map.1 hq
  obtain ⟨j,hj,rfl⟩:=List.mem_iff_getElem.1 hk
  obtain ⟨kn,e,iN⟩:=hs.Oq hj
  rw [e,Int.toNat_natCast,Cz iN]
  exact hp.2.2 _ (List.getElem_mem iN)
theorem BA {p:PP} {t:List Int} (h:Bl p t=true) {x:List Int} (hx:Gn p.1.toNat ((Au p t).2.2.1.map some) x):Gn p.1.toNat (p.2.2.1.map some) x:=by
 refine Xs.mono (λg hg=>?_) hx
 have hg:=Zc.1 hg
 obtain ⟨k,hk,rfl⟩:=List.mem_map.1 hg
 obtain ⟨j,hj,rfl⟩:=List.mem_iff_getElem.1 hk
 obtain ⟨kn,e,iN⟩:=(Vt h).Oq hj
 rw [e,Int.toNat_natCast,Cz iN]
 exact Zc.2 (List.getElem_mem iN)
theorem Um {p:PP} {t:List Int} (hw:Cg p=true) (h:Bl p t=true):Cg (Au p t)=true:=by
 have xf:=nT h
 have hr:=cI xf
 refine Bool.and_eq_true_iff.2 ⟨xf,Classical.byContradiction λhn=>?_⟩
 have hn:(Fm (Au p t).2.2.1 (upto (Au p t).1.toNat)).2.2=false:=by simpa using hn
 obtain ⟨h1,z,h2,h3⟩:=hr.big hn
 have h5:=cy (l1:=z::(Fm (Au p t).2.2.1 (upto (Au p t).1.toNat)).1) (l2:=Ad p) (List.nodup_cons.2 ⟨h3,hr.nodup⟩) λx hx=>by
  rcases List.mem_cons.1 hx with rfl|hx
  ·exact (AW hw).all rfl _ (BA h h2)
  ·exact (AW hw).all rfl _ (BA h (hr.gen x hx))
 have h6:=wE (Cr hw).1
 simp only [List.length_cons] at h5
 omega
theorem map_take {α β:Type} (f:α->β) {xs:List α} {j:Nat} (h:j<xs.length):(xs.take (j+1)).map f=(xs.take j).map f++ [f xs[j]]:=by
 rw [List.take_add_one,List.getElem?_eq_getElem h,List.map_append];rfl
theorem yI (p:PP) (t:List Int) (h:Cj p/\Bl p t=true):fnW Di (look [(123,Kc)]) Rg Try.f102 (p,t,()) (λ(z:PP)=>z=Au p t):=by
 obtain ⟨hp,Lc⟩:=h
 have hs:=Vt Lc
 refine Eq.mp (zu p t _) ⟨rfl,rfl,rfl,rfl,?_⟩
 refine Aq t.length (λv=>v.1) (λj v=>v=((j:Int),p.1,p.2.1,p.2.2.1,0,ByteArray.empty,p.1,Np p.2.1 (t.take j),[],(t.take j).map λk=>p.2.2.1.getD k.toNat [],())) rfl rfl ?_
 rintro j v K hj hi hR hK
 subst hR
 dsimp only
 have hlen:=hs.ec
 have hg8:=hs.g8
 refine Br.dec (λhl=>?_) λhl=>?_
 ·have hl:j<t.length:=by omega
  obtain ⟨kn,hk,iN⟩:=hs.Oq hl
  have hkb:kn<p.2.1.size:=by rw [hs.size];exact iN
  have hw:IntKind.i64.wrap ((kn:Int)+1)=(kn:Int)+1:=Bk (by have:=hs.g8;omega) (by have:=hs.g8;omega)
  have On:=Zg (b:=p.2.1) (t.take j) λk er=>hs.TI k (List.mem_of_mem_take er)
  have hex:(p.2.1.extract kn (kn+1)).size=1:=by rw [ByteArray.size_extract];omega
  refine ⟨_,Ax hl,?_⟩
  rw [hk,hw]
  refine ⟨⟨by omega,by omega,by omega⟩,by rw [show ((kn:Int)+1).toNat=kn+1 by omega,Int.toNat_natCast,hex,On];have:=List.length_take_le j t;omega,_,Ax iN,_,if_pos (hp.2.2 _ (List.getElem_mem iN)),rfl,rfl,?_,rfl,rfl,rfl,rfl,?_⟩
  ·show ((t.take j).map _).length+1<=4294967296
   rw [List.length_map];have:=List.length_take_le j t;have:=hs.g8;omega
  ·rw [Ap (by omega),show ((kn:Int)+1).toNat=kn+1 by omega,Int.toNat_natCast]
   refine hK hl _ rfl ?_
   rw [jO _ hl,map_take _ hl,hk,Int.toNat_natCast,show ((kn:Int)+1).toNat=kn+1 by omega,Cz iN]
 ·have:j=t.length:=by omega
  subst this
  rw [List.take_length,Bj]
  rfl
theorem nL:Sound Try.prog 102 Rg:=
 Sound.Dp Cf (Ah cV At) mixed Try.func102 (by kernel_rfl) (by kernel_rfl) λx h=>yI x.1 x.2.1 h
theorem sx (p:PP) (t:List Int) (h:Cj p/\Bl p t=true):fnW Di (look [(145,ir)]) Mc Try.f107 (p,t,()) (λ(z:PP)=>z=Au p t):=by
 obtain ⟨hp,Lc⟩:=h
 have hs:=Vt Lc
 refine Eq.mp (tJ p t _) ⟨rfl,rfl,rfl,rfl,?_⟩
 refine Aq t.length (λv=>v.1) (λj v=>v=((j:Int),p.1,p.2.1,p.2.2.1,0,ByteArray.empty,p.1,Np p.2.1 (t.take j),[],(t.take j).map λk=>p.2.2.1.getD k.toNat [],())) rfl rfl ?_
 rintro j v K hj hi hR hK
 subst hR
 dsimp only
 have hlen:=hs.ec
 have hg8:=hs.g8
 refine Br.dec (λhl=>?_) λhl=>?_
 ·have hl:j<t.length:=by omega
  obtain ⟨kn,hk,iN⟩:=hs.Oq hl
  have hkb:kn<p.2.1.size:=by rw [hs.size];exact iN
  have hw:IntKind.i64.wrap ((kn:Int)+1)=(kn:Int)+1:=Bk (by have:=hs.g8;omega) (by have:=hs.g8;omega)
  have On:=Zg (b:=p.2.1) (t.take j) λk er=>hs.TI k (List.mem_of_mem_take er)
  have hex:(p.2.1.extract kn (kn+1)).size=1:=by rw [ByteArray.size_extract];omega
  refine ⟨_,Ax hl,?_⟩
  rw [hk,hw]
  refine ⟨⟨by omega,by omega,by omega⟩,by rw [show ((kn:Int)+1).toNat=kn+1 by omega,Int.toNat_natCast,hex,On];have:=List.length_take_le j t;omega,_,Ax iN,_,if_pos (hp.2.2 _ (List.getElem_mem iN)),rfl,rfl,?_,rfl,rfl,rfl,rfl,?_⟩
  ·show ((t.take j).map _).length+1<=4294967296
   rw [List.length_map];have:=List.length_take_le j t;have:=hs.g8;omega
  ·rw [Ap (by omega),show ((kn:Int)+1).toNat=kn+1 by omega,Int.toNat_natCast]
   refine hK hl _ rfl ?_
   rw [jO _ hl,map_take _ hl,hk,Int.toNat_natCast,show ((kn:Int)+1).toNat=kn+1 by omega,Cz iN]
 ·have:j=t.length:=by omega
  subst this
  rw [List.take_length,Bj]
  rfl
theorem jL:Sound Try.prog 107 Mc:=
 Sound.Dp Cf (Ah sQ At) mixed Try.func107 (by kernel_rfl) (by kernel_rfl) λx h=>sx x.1 x.2.1 h
theorem Ln {p:PP} {t:List Int} :Mn p t=true↔Cg p=true/\Bl p t=true:=by unfold Mn;rw [Bool.and_eq_true]
theorem w7 (p:PP) (t:List Int) (h:Cj p/\short t):fnW Di (look [(80,Kp),(106,Es),(107,Mc)]) Jt Try.f57 (p,t,()) (λ(z:Option (Option XP×List Int×Option XP×Unit)×Bool×Unit)=>z=(if Mn p t=true then (some (Jj p t),true,()) else (none,false,()))):=by
 obtain ⟨hp,ht⟩:=h
 by_cases hw:Cg p=true
 ·have he:Kp.fn ((p.1,p.2.1,p.2.2.1,()),())=some (some (Hy p),true,()):=(if_pos hp).trans (congrArg some (if_pos hw))
  refine Eq.mp (kS p t _) ⟨_,he,λhb=>by simp at hb,λ_=>⟨_,if_pos ⟨hp,ht⟩,Br.of (λhm=>?_) λhm=>?_⟩⟩
  ·have hm: ¬Bl p t=true:=Cy hm
   rw [if_neg λh=>hm (Ln.1 h).2]
  have hm:Bl p t=true:=by simpa using hm
  have xg:=Um hw hm
  have Zj:Kp.fn (Au p t,())=some (some (Hy (Au p t)),true,()):=(if_pos (nS hp hm)).trans (congrArg some (if_pos xg))
  rw [if_pos (Ln.2 ⟨hw,hm⟩)]
  exact ⟨_,if_pos ⟨hp,hm⟩,_,Zj,rfl⟩
 ·have he:Kp.fn ((p.1,p.2.1,p.2.2.1,()),())=some (none,false,()):=(if_pos hp).trans (congrArg some (if_neg hw))
  rw [if_neg λh=>hw (Ln.1 h).1]
  exact Eq.mp (kS p t _) ⟨_,he,λ_=>rfl,λhb=>by simp at hb⟩
theorem lj:Sound Try.prog 57 Jt:=
 Sound.Dp Cf (Ah pd (Ah cW (Ah jL At))) mixed Try.func57 (by kernel_rfl) (by kernel_rfl) λx h=>w7 x.1 x.2.1 h
theorem yG (p:PP) (t s:List Int) (h:Cj p/\short t/\short s):fnW Di (look [(57,Jt),(98,Xm)]) Lp Try.f55 (p,t,s,()) (λ(z:Option (Option XP×List Int×Option XP×Unit)×Int×Bool×Unit)=>z=(if Mn p t=true then (some (Jj p t),(Pe p s).1,(Pe p s).2.1,()) else (none,0,false,()))):=by
 obtain ⟨hp,ht,hs⟩:=h
 by_cases hw:Mn p t=true
 ·have he:Jt.fn ((p.1,p.2.1,p.2.2.1,()),t,())=some (some (Jj p t),true,()):=(if_pos ⟨hp,ht⟩).trans (congrArg some (if_pos hw))
  rw [if_pos hw]
  refine Eq.mp (o8 p t s _) ⟨_,he,λhb=>by simp at hb,λ_=>⟨_,rfl,_,if_pos ⟨⟨Hy p,rfl,(Ln.1 hw).1,rfl⟩,hs⟩,?_⟩⟩
  rfl
 ·have he:Jt.fn ((p.1,p.2.1,p.2.2.1,()),t,())=some (none,false,()):=(if_pos ⟨hp,ht⟩).trans (congrArg some (if_neg hw))
  rw [if_neg hw]
  exact Eq.mp (o8 p t s _) ⟨_,he,λ_=>rfl,λhb=>by simp at hb⟩
theorem nJ:Sound Try.prog 55 Lp:=
 Sound.Dp Cf (Ah lj (Ah nF At)) mixed Try.func55 (by kernel_rfl) (by kernel_rfl) λx h=>yG x.1 x.2.1 x.2.2.1 h
theorem QQ {p:PP} {s:List Int} :(Pe p s).2.1=decide (s∈Ad p):=by
 unfold Pe
 split
 ·rename_i h;rw [decide_eq_true h]
 ·rename_i h;rw [decide_eq_false h]
theorem QP {p:PP} {s:List Int} (h:s∈Ad p):0<=(Pe p s).1/\(Pe p s).1<(Ad p).length/\(Ad p).getD (Pe p s).1.toNat []=s:=by
 unfold Pe
 rw [if_pos h]
 have h1:=List.idxOf_lt_length_of_mem h
 refine ⟨Int.natCast_nonneg _,by show ((List.idxOf s (Ad p):Nat):Int)<_;omega,?_⟩
 show (Ad p).getD ((List.idxOf s (Ad p):Nat):Int).toNat []=s
 rw [Int.toNat_natCast,Cz h1]
 exact List.getElem_idxOf h1
theorem TS (p:PP) (t:List Int) (h:Cj p/\short t):fnW Di (look [(75,Kd),(101,Es),(102,Rg)]) cR Try.f52 (p,t,()) (λ(z:SS×SS×Bool×Unit)=>z=(if Mn p t=true then (Bg p.2.2.1 (upto p.1.toNat),Bg (Au p t).2.2.1 (upto p.1.toNat),true,()) else ((Ga p).1,(Ga p).1,false,()))):=by
 obtain ⟨hp,ht⟩:=h
 refine Eq.mp (UO p t _) ⟨_,if_pos hp,?_⟩
 have hz: ∀(x:SS),((x.1,x.2.1,x.2.2.1,x.2.2.2.1,()),(x.1,x.2.1,x.2.2.1,x.2.2.2.1,()),false,())=(x,x,false,()):= λx=>rfl
 dsimp only
 by_cases hw:Cg p=true
 ·have hv:=(Cr hw).1
  have e1:Ga (p.1,p.2.1,p.2.2.1,())=(Bg p.2.2.1 (upto p.1.toNat),true,()):=(if_pos hv).trans (by rw [<-hw])
  rw [e1]
  refine ⟨λhb=>by simp at hb,λ_=>⟨_,if_pos ⟨hp,ht⟩,Br.of (λhm=>?_) λhm=>?_⟩⟩
  ·have hm: ¬Bl p t=true:=Cy hm
   rw [if_neg λh=>hm (Ln.1 h).2]
   exact ⟨⟨rfl,rfl⟩,rfl⟩
  have hm:Bl p t=true:=by simpa using hm
  rw [if_pos (Ln.2 ⟨hw,hm⟩)]
  have Zj:Kd.fn (Au p t,())=some (Bg (Au p t).2.2.1 (upto p.1.toNat),true,()):=nQ (p:=Au p t) (nS hp hm) (Um hw hm)
  exact ⟨_,if_pos ⟨hp,hm⟩,_,Zj,⟨rfl,rfl⟩,rfl⟩
 ·have hwf:(Ga (p.1,p.2.1,p.2.2.1,())).2.1=false:=by
   show (Ga p).2.1=false
   unfold Ga
   split
   ·exact Bool.not_eq_true _|>.mp hw
   ·rfl
  rw [hwf,if_neg λh=>hw (Ln.1 h).1]
  exact ⟨λ_=>⟨⟨rfl,rfl⟩,rfl⟩,λhb=>by simp at hb⟩
theorem z9:Sound Try.prog 52 cR:=
 Sound.Dp Cf (Ah nN (Ah cX (Ah nL At))) mixed Try.func52 (by kernel_rfl) (by kernel_rfl) λx h=>TS x.1 x.2.1 h
end Go.Proofs.Ytjbdmibbbpdnnaa

namespace Go.Proofs.Ytjbdmibbbpdnnaa
open Go.RowKit
def qh (g:List (List Int)) (L:List (List Int)) (x:List Int):List Int:=(Af g.length).map λl=>((L.idxOf (Aa x (Ag g l)):Nat):Int)
theorem Uc {g:List (List Int)} {k:Int} {x:List Int} {d:Int} : ∀(ls:List Int) (s:EX) (row:List Int),∃A,(Vy g k x d ls s row).1.1=s.1++A
 | [],s,row=>⟨[],by simp [Vy]⟩
 |l::ls,s,row=>by
  simp only [Vy]
  split
  ·exact Uc ls s _
  ·obtain ⟨A,h⟩:=Uc (g:=g) (k:=k) (x:=x) (d:=d) ls (s.1++ [Aa x (Ag g l)],s.2.1++ [d+1],s.2.2.1++ [k],s.2.2.2++ [l]) (row++ [(s.1.length:Int)])
   exact ⟨_::A,by rw [h,List.append_assoc];rfl⟩
theorem yd {L A:List (List Int)} {y:List Int} (h:y∈L):(L++A).idxOf y=L.idxOf y:=by rw [List.idxOf_append,if_pos h]
theorem CI {L A:List (List Int)} {y:List Int} (h:y∉L):(L++y::A).idxOf y=L.length:=by
 rw [List.idxOf_append,if_neg h,List.idxOf_cons_self];simp
theorem j0 {g:List (List Int)} {k:Int} {x:List Int} {d:Int} : ∀(ls:List Int) (s:EX) (row:List Int) (A:List (List Int)),
  (Vy g k x d ls s row).2=row++ls.map λl=>((((Vy g k x d ls s row).1.1++A).idxOf (Aa x (Ag g l)):Nat):Int)
 | [],s,row,A=>by simp [Vy]
 |l::ls,s,row,A=>by
  simp only [Vy]
  split
  ·rename_i hm
   obtain ⟨B,hB⟩:=Uc (g:=g) (k:=k) (x:=x) (d:=d) ls s (row++ [(s.1.idxOf (Aa x (Ag g l)):Int)])
   rw [j0 ls s _ A,List.append_assoc,List.map_cons,hB,List.append_assoc,yd hm]
   rfl
  ·rename_i hm
   obtain ⟨B,hB⟩:=Uc (g:=g) (k:=k) (x:=x) (d:=d) ls (s.1++ [Aa x (Ag g l)],s.2.1++ [d+1],s.2.2.1++ [k],s.2.2.2++ [l]) (row++ [(s.1.length:Int)])
   rw [j0 ls _ _ A,List.append_assoc,List.map_cons,hB]
   dsimp only
   rw [List.append_assoc,List.append_assoc,List.singleton_append,List.cons_append,CI hm]
   try rfl
theorem pO {g:List (List Int)} {ls:List Int} : ∀(f k:Nat) (s:EX) (N:List (List Int)),∃A,(Xe g ls f k s N).1.1=s.1++A
 |0,k,s,N=>⟨[],by simp [Xe]⟩
 |f+1,k,s,N=>by
  simp only [Xe]
  split
  ·obtain ⟨A,hA⟩:=Uc (g:=g) (k:=(k:Int)) (x:=s.1.getD k []) (d:=s.2.1.getD k 0) ls s []
   obtain ⟨B,hB⟩:=pO (g:=g) (ls:=ls) f (k+1) (Vy g (k:Int) (s.1.getD k []) (s.2.1.getD k 0) ls s []).1 (N++ [(Vy g (k:Int) (s.1.getD k []) (s.2.1.getD k 0) ls s []).2])
   exact ⟨A++B,by rw [hB,hA,List.append_assoc]⟩
  ·exact ⟨[],by simp⟩
theorem pP {g:List (List Int)} : ∀(f k:Nat) (s:EX) (N:List (List Int)),(Xe g (Af g.length) f k s N).1.1.length<=f+k->
  (Xe g (Af g.length) f k s N).2=N++((Xe g (Af g.length) f k s N).1.1.drop k).map (qh g (Xe g (Af g.length) f k s N).1.1)
 |0,k,s,N,h=>by
  simp only [Xe] at h⊢
  rw [List.drop_of_length_le (by omega)]
  simp
 |f+1,k,s,N,h=>by
  simp only [Xe] at h⊢
  split
  ·rename_i hk
   rw [if_pos hk] at h
   obtain ⟨A,hA⟩:=Uc (g:=g) (k:=(k:Int)) (x:=s.1.getD k []) (d:=s.2.1.getD k 0) (Af g.length) s []
   obtain ⟨B,hB⟩:=pO (g:=g) (ls:=Af g.length) f (k+1) (Vy g (k:Int) (s.1.getD k []) (s.2.1.getD k 0) (Af g.length) s []).1 (N++ [(Vy g (k:Int) (s.1.getD k []) (s.2.1.getD k 0) (Af g.length) s []).2])
   have Qq:=j0 (g:=g) (k:=(k:Int)) (x:=s.1.getD k []) (d:=s.2.1.getD k 0) (Af g.length) s [] B
   rw [<-hB,List.nil_append] at Qq
   rw [pP f (k+1) _ _ (by omega),List.append_assoc]
   congr 1
   generalize hR:Xe g (Af g.length) f (k+1) _ _=R at*
   have hkR:k<R.1.1.length:=by rw [hB,hA,List.length_append,List.length_append];omega
   rw [List.drop_eq_getElem_cons hkR,List.map_cons,List.singleton_append]
   congr 1
   have e:R.1.1[k]=s.1.getD k []:=by
    rw [<-Cz (d:= []) hkR,hB,hA,List.append_assoc,Ez hk]
   rw [Qq,e]
   rfl
  ·rename_i hk
   rw [List.drop_of_length_le (by show s.1.length<=k;omega)]
   simp
theorem BR {p:PP} (hw:Cg p=true):(Hy p).2.2.2.2.2.2.1=(Ad p).map (qh p.2.2.1 (Ad p)):=by
 have h1:=(lv hw).1
 have h2:=wE (Cr hw).1
 have h3:=pP (g:=p.2.2.1) 3001 0 ([upto p.1.toNat],[0],[0],[0]) [] (by
  show (Hy p).2.1.length<=3001+0
  rw [h1];omega)
 have h4:(Xe p.2.2.1 (Af p.2.2.1.length) 3001 0 ([upto p.1.toNat],[0],[0],[0]) []).1.1=Ad p:=h1
 rw [h4,List.nil_append,List.drop_zero] at h3
 exact h3
noncomputable def Jo (p:PP) (i:Nat):List Int:=qh p.2.2.1 (Ad p) ((Ad p).getD i [])
theorem Ul {p:PP} (hw:Cg p=true):lM p.2.2.1 (Af p.2.2.1.length) (Ad p):=by
 obtain ⟨hv,hb⟩:=Cr hw
 have hV:=valid hv
 have hn:=hV.n
 exact oL hV (aK hv) (m8 hv (by rw [Pw];omega) (λy hy=>by have:=Ik.1 hy;omega) hb)
theorem EJ {p:PP} (hw:Cg p=true):lP p.2.2.1 (Af p.2.2.1.length) (Ad p) (Ai p):=by
 obtain ⟨hv,hb⟩:=Cr hw
 have hn:=(valid hv).n
 exact m8 hv (by rw [Pw];omega) (λy hy=>by have:=Ik.1 hy;omega) hb
theorem IN {p:PP} (hw:Cg p=true) {i:Nat} (hi:i<(Ad p).length) {l:Int} (hl:l∈Af p.2.2.1.length):
  (Ad p).idxOf (Aa ((Ad p).getD i []) (Ag p.2.2.1 l))<(Ad p).length/\
  (Ad p).getD ((Ad p).idxOf (Aa ((Ad p).getD i []) (Ag p.2.2.1 l))) []=Aa ((Ad p).getD i []) (Ag p.2.2.1 l):=by
 have hm:=(Ul hw).next _ (Vb hi) l hl
 have h1:=List.idxOf_lt_length_of_mem hm
 exact ⟨h1,by rw [Cz h1];exact List.getElem_idxOf h1⟩
theorem sk {p:PP} (hw:Cg p=true):RC (Jo p) (Ad p).length:= λi hi t ht=>by
 obtain ⟨l,hl,rfl⟩:=List.mem_map.1 ht
 have:=(IN hw hi hl).1
 omega
end Go.Proofs.Ytjbdmibbbpdnnaa

namespace Go.Proofs.Ytjbdmibbbpdnnaa
open Go.RowKit
def Wd (N:Nat->List Int) (ls d:List Int):Nat->Int->List Int->List Int×Int
 |0,i,w=>(w,i)
 |f+1,i,w=>if 0<Bw d i then Wd N ls d f ((N i.toNat).getD (Eb (λy=>decide (Bw d y<Bw d i)) (N i.toNat) 0).toNat 0) (w++ [ls.getD (Eb (λy=>decide (Bw d y<Bw d i)) (N i.toNat) 0).toNat 0]) else (w,i)
noncomputable def Qu (p:PP) (d:List Int) (i:Int):List Int×Int×Bool×Unit:=
 if Bw d i>200 then ([],0,false,()) else ((Wd (Jo p) (Af p.2.2.1.length) d (Bw d i).toNat i []).1,(Wd (Jo p) (Af p.2.2.1.length) d (Bw d i).toNat i []).2,true,())
structure FU (p:PP) (d:List Int):Prop where
 len:d.length=(Ad p).length
 nn: ∀i,i<d.length->0<=d.getD i 0
 dn: ∀i,i<d.length->0<d.getD i 0-> ∃t∈Jo p i,d.getD t.toNat 0<d.getD i 0
theorem GM {e:XP} (h:qT e):e.2.2.1=Ai e.1:=(congrArg (λz:XP=>z.2.2.1) h.2).trans (lv h.1).2
theorem MB {e:XP} (h:qT e):e.2.2.2.2.2.2.1=(Ad e.1).map (qh e.1.2.2.1 (Ad e.1)):=(congrArg (λz:XP=>z.2.2.2.2.2.2.1) h.2).trans (BR h.1)
theorem WI {e:XP} (h:qT e) {i:Nat} (hi:i<(Ad e.1).length):idx e.2.2.2.2.2.2.1 (i:Int)=some (Jo e.1 i):=by
 rw [MB h,Ax (by rw [List.length_map];exact hi),List.getElem_map]
 unfold Jo
 rw [Cz hi]
theorem mY (p:PP) (i:Nat):(Jo p i).length=(Af p.2.2.1.length).length:=by unfold Jo qh;rw [List.length_map]
theorem kv {p:PP} (hV:Valid p):(Af p.2.2.1.length).length<=16:=by rw [Km];have:=hV.ec;omega
theorem WK {xs:List Int} {k:Nat} (h:k<xs.length):xs[0+((k:Nat):Int).toNat]?=some (xs.getD k 0):=by
 rw [Nat.zero_add,Int.toNat_natCast,List.getElem?_eq_getElem h,Cz h]
theorem dB {α:Type} {P:α->Bool} : ∀(l:List α) (i:Nat),l.any P=true-> ∃k,∃h:k<l.length,Eb P l (i:Int)=((i+k:Nat):Int)/\P l[k]=true/\ ∀j (h:j<k),P (l[j]'(by omega))=false
 | [],i,h=>by simp at h
 |y::r,i,h=>by
  simp only [Eb]
  by_cases hy:P y=true
  ·rw [if_pos hy]
   exact ⟨0,by simp,rfl,hy,λj hj=>absurd hj (Nat.not_lt_zero _)⟩
  ·rw [if_neg hy]
   have hr:r.any P=true:=by
    rw [List.any_cons,Bool.or_eq_true] at h
    exact h.resolve_left hy
   obtain ⟨k,hk,h1,h2,h3⟩:=dB r (i+1) hr
   refine ⟨k+1,by simpa using hk,?_,h2,λj hj=>?_⟩
   ·rw [show ((i:Int)+1)=((i+1:Nat):Int) by push_cast;rfl,h1]
    congr 1
    omega
   ·cases j with
    |zero=>exact Bool.not_eq_true _|>.mp hy
    |succ j=>exact h3 j (by omega)
theorem MA {p:PP} (hw:Cg p=true) {d:List Int} (h:FU p d) {i:Nat} (hi:i<d.length) (hp:0<d.getD i 0):
  ∃k,∃(h1:k<(Af p.2.2.1.length).length) (h2:k<(Jo p i).length),Eb (λy=>decide (Bw d y<Bw d (i:Int))) (Jo p i) 0=(k:Int)/\
   ∃t:Nat,(Jo p i)[k]=(t:Int)/\t<d.length/\d.getD t 0<d.getD i 0:=by
 obtain ⟨t,ht,TB⟩:=h.dn i hi hp
 have GS:(Jo p i).any (λy=>decide (Bw d y<Bw d (i:Int)))=true:=List.any_eq_true.2 ⟨t,ht,decide_eq_true TB⟩
 obtain ⟨k,hk,h1,h2,_⟩:=dB (Jo p i) 0 GS
 have hl:=h.len
 obtain ⟨r1,r2⟩:=sk hw i (by omega) _ (List.getElem_mem hk)
 obtain ⟨tn,htn⟩:=Int.eq_ofNat_of_zero_le r1
 refine ⟨k,by rw [<-mY];exact hk,hk,by rw [Nat.zero_add] at h1;exact h1,tn,htn,by omega,?_⟩
 have h2:=of_decide_eq_true h2
 unfold Bw at h2
 rw [htn,Int.toNat_natCast,Int.toNat_natCast] at h2
 exact h2
end Go.Proofs.Ytjbdmibbbpdnnaa

namespace Go.Proofs.Ytjbdmibbbpdnnaa
open Go.RowKit
theorem Jv.congr {g:List (List Int)} {ls:List Int} {L:List (List Int)} {S S':List Int->Prop} {d:List Int->Int} (h:Jv g ls L S d) (e: ∀x∈L,S x↔S' x):Jv g ls L S' d:=
 ⟨h.nn,λx hx=>(h.zero x hx).trans (e x hx),h.step,h.down⟩
theorem LY {p:PP} (hw:Cg p=true) {S:List Int->Prop} {d:List Int} (hl:d.length=(Ad p).length) (h:Jv p.2.2.1 (Af p.2.2.1.length) (Ad p) S (λx=>d.getD ((Ad p).idxOf x) 0)):FU p d:=by
 have tN:=(AW hw).nodup
 refine ⟨hl,λi hi=>?_,λi hi h0=>?_⟩
 ·have:=h.nn _ (Vb (show i<(Ad p).length by omega))
  rwa [Nl tN (by omega)] at this
 ·have ek:i<(Ad p).length:=by omega
  obtain ⟨l,h1,h2⟩:=h.down _ (Vb ek) (by rw [Nl tN ek];exact h0)
  rw [Nl tN ek] at h2
  refine ⟨_,List.mem_map.2 ⟨l,h1,rfl⟩,?_⟩
  rw [Int.toNat_natCast,h2]
  omega
def jM (g:List (List Int)) (dep:List Int->Int) (ls:List Int):Nat->List Int->List Int->List Int×List Int
 |0,x,w=>(w,x)
 |n+1,x,w=>match ls.find? (λl=>decide (dep (Aa x (Ag g l))=n)) with
  |some l=>jM g dep ls n (Aa x (Ag g l)) (w++ [l])
  |none=>jM g dep ls n x w
theorem zK {α:Type} {P:α->Bool} : ∀(l:List α) (k:Nat) (h:k<l.length),P l[k]=true->(∀j (hj:j<k),P (l[j]'(by omega))=false)->l.find? P=some l[k]
 | [],k,h,_,_=>by simp at h
 |y::r,0,_,h1,_=>by rw [List.find?_cons_of_pos (show P y=true from h1)];rfl
 |y::r,k+1,h,h1,h2=>by
  rw [List.find?_cons_of_neg (by have:=h2 0 (by omega);simp at this;simp [this])]
  exact zK r k (by simpa using h) h1 λj hj=>h2 (j+1) (by omega)
theorem xI {p:PP} (hw:Cg p=true) {S:List Int->Prop} {d:List Int} (RV:FU p d) (hd:Jv p.2.2.1 (Af p.2.2.1.length) (Ad p) S (λx=>d.getD ((Ad p).idxOf x) 0))
  {see:List Int->List Int} {dep:List Int->Int} (hs: ∀x∈Ad p,∀l∈Af p.2.2.1.length,see (Aa x (Ag p.2.2.1 l))=Aa (see x) (Ag p.2.2.1 l))
  (he: ∀x∈Ad p,d.getD ((Ad p).idxOf x) 0=dep (see x)):
  ∀(n i:Nat) (w:List Int),i<(Ad p).length->d.getD i 0=n->
   (Wd (Jo p) (Af p.2.2.1.length) d n (i:Int) w).1=(jM p.2.2.1 dep (Af p.2.2.1.length) n (see ((Ad p).getD i [])) w).1/\
   (Wd (Jo p) (Af p.2.2.1.length) d n (i:Int) w).1.length=w.length+n/\
   ∃j:Nat,(Wd (Jo p) (Af p.2.2.1.length) d n (i:Int) w).2=(j:Int)/\j<(Ad p).length/\d.getD j 0=0/\see ((Ad p).getD j [])=(jM p.2.2.1 dep (Af p.2.2.1.length) n (see ((Ad p).getD i [])) w).2
 |0,i,w,hi,e=>⟨rfl,rfl,i,rfl,hi,e,rfl⟩
 |n+1,i,w,hi,e=>by
  have tN:=(AW hw).nodup
  have hl:=RV.len
  have oF:0<d.getD i 0:=by omega
  have hg:Bw d (i:Int)=d.getD i 0:=by unfold Bw;rw [Int.toNat_natCast]
  obtain ⟨t0,NA,TB⟩:=RV.dn i (by omega) oF
  have GS:(Jo p i).any (λy=>decide (Bw d y<Bw d (i:Int)))=true:=List.any_eq_true.2 ⟨t0,NA,decide_eq_true TB⟩
  obtain ⟨k,hk,k1,k2,k3⟩:=dB (Jo p i) 0 GS
  have k1:Eb (λy=>decide (Bw d y<Bw d (i:Int))) (Jo p i) 0=(k:Int):=by rw [Nat.zero_add] at k1;exact k1
  have Kz:k<(Af p.2.2.1.length).length:=by rw [<-mY p i];exact hk
  have hx:=Vb (L:=Ad p) hi
  have MI: ∀j (hj:j<(Af p.2.2.1.length).length),∃h2:j<(Jo p i).length,(Jo p i)[j]=(((Ad p).idxOf (Aa ((Ad p).getD i []) (Ag p.2.2.1 (Af p.2.2.1.length)[j])):Nat):Int):= λj hj=>
   ⟨by rw [mY];exact hj,by simp only [Jo,qh,List.getElem_map]⟩
  have l8: ∀j (hj:j<(Af p.2.2.1.length).length) (h2:j<(Jo p i).length),decide (Bw d (Jo p i)[j]<Bw d (i:Int))=decide (dep (Aa (see ((Ad p).getD i [])) (Ag p.2.2.1 (Af p.2.2.1.length)[j]))=n):= λj hj h2=>by
   obtain ⟨_,h3⟩:=MI j hj
   have xV:=List.getElem_mem hj
   have h4:=hd.CV (Ul hw) hx xV
   rw [Nl tN hi] at h4
   have h5:=he _ ((Ul hw).next _ hx _ xV)
   rw [hs _ hx _ xV] at h5
   rw [h3,hg,<-h5]
   unfold Bw
   rw [Int.toNat_natCast,Bool.eq_iff_iff,decide_eq_true_iff,decide_eq_true_iff]
   omega
  have zU:(Af p.2.2.1.length).find? (λl=>decide (dep (Aa (see ((Ad p).getD i [])) (Ag p.2.2.1 l))=n))=some (Af p.2.2.1.length)[k]:=by
   refine zK _ k Kz ?_ λj hj=>?_
   ·rw [<-l8 k Kz hk];exact k2
   ·rw [<-l8 j (by omega) (by omega)];exact k3 j hj
  obtain ⟨_,iN⟩:=MI k Kz
  have xV:=List.getElem_mem Kz
  obtain ⟨n1,n2⟩:=IN hw hi xV
  have dQ:Bw d (i:Int)>0:=by rw [hg];exact oF
  simp only [Wd,jM]
  rw [if_pos dQ,Int.toNat_natCast,k1,Int.toNat_natCast,Cz hk,iN,Cz Kz,zU]
  dsimp only
  have hdk:d.getD ((Ad p).idxOf (Aa ((Ad p).getD i []) (Ag p.2.2.1 (Af p.2.2.1.length)[k]))) 0=n:=by
   have h6:=of_decide_eq_true ((l8 k Kz hk).symm.trans k2)
   rw [he _ ((Ul hw).next _ hx _ xV),hs _ hx _ xV]
   exact h6
  obtain ⟨r1,r2,r3⟩:=xI hw RV hd hs he n _ (w++ [(Af p.2.2.1.length)[k]]) n1 hdk
  rw [n2,hs _ hx _ xV] at r1 r3
  refine ⟨r1,?_,r3⟩
  rw [r2,List.length_append,List.length_singleton]
  omega
end Go.Proofs.Ytjbdmibbbpdnnaa
