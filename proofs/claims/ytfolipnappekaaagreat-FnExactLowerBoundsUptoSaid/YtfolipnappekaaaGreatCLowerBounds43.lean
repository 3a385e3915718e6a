/-
  Part 44 of the proof that the statement FnExactLowerBounds holds.
-/
import Derived.Test.YtfolipnappekaaaGreatCLowerBounds42
import Derived.Shelf.RegionOpenPlain
import Derived.WalkKit
import Derived.Lib.Walk
namespace Go.Proofs.YtfolipnappekaaaGreat
open Go.RowKit
def ap (p:List Int) (i:Nat):Nat:=(Io p (i:Int)).toNat
def Pm (n:Nat) (p:List Int):Prop:=p.length=n/\Yh p
theorem Pm.n1 {n:Nat} {p:List Int} (h:Pm n p):1<=n:=h.1▸h.2.pos
theorem Pm.n2 {n:Nat} {p:List Int} (h:Pm n p):n<=20:=h.1▸h.2.len
theorem Pm.Ue {n:Nat} {p:List Int} (h:Pm n p) {i:Nat} (hi:i<n):Io p (i:Int)=(ap p i:Int)/\ap p i<n:=by
 have mV:i<p.length:=by rw [h.1];exact hi
 have:=h.2.row _ (List.getElem_mem mV)
 unfold ap
 rw [Hu mV]
 have h1:=h.1
 omega
theorem Pm.lt {n:Nat} {p:List Int} (h:Pm n p) {i:Nat} (hi:i<n):ap p i<n:=(h.Ue hi).2
theorem Pm.ext {n:Nat} {p q:List Int} (h:Pm n p) (k:Pm n q) (e: ∀i,i<n->ap p i=ap q i):p=q:=by
 refine List.ext_getElem (by rw [h.1,k.1]) λi h1 h2=>?_
 have hi:i<n:=by rw [<-h.1];exact h1
 have a:=(h.Ue hi).1
 have b:=(k.Ue hi).1
 rw [Hu h1] at a
 rw [Hu h2] at b
 rw [a,b,e i hi]
theorem Pm.inj {n:Nat} {p:List Int} (h:Pm n p) {i j:Nat} (hi:i<n) (hj:j<n) (e:ap p i=ap p j):i=j:=
 h.2.inj i j (by rw [h.1];exact hi) (by rw [h.1];exact hj) e
theorem Pm.OI {n:Nat} {p:List Int} (h:Pm n p) {k:Nat} (hk:k<n): ∃i,i<n/\ap p i=k:=by
 obtain ⟨i,h1,h2⟩:=h.2.OI k (by rw [h.1];exact hk)
 exact ⟨i,by rw [<-h.1];exact h1,h2⟩
theorem Pm.of {n:Nat} {p:List Int} (hl:p.length=n) (h1:1<=n) (h2:n<=20) (f:Nat->Nat) (hf: ∀i,i<n->p[i]?=some (f i:Int)/\f i<n) (hi: ∀i j,i<n->j<n->f i=f j->i=j):Pm n p:=by
 refine ⟨hl,by omega,by omega,λy hy=>?_,?_⟩
 ·obtain ⟨i,hi,rfl⟩:=List.mem_iff_getElem.1 hy
  obtain ⟨h3,h4⟩:=hf i (by omega)
  rw [List.getElem?_eq_getElem hi] at h3
  rw [Option.some.inj h3]
  omega
 ·refine List.pairwise_iff_getElem.2 λi j h3 h4 h5 h6=>?_
  have a:=(hf i (by omega)).1
  have b:=(hf j (by omega)).1
  rw [List.getElem?_eq_getElem h3] at a
  rw [List.getElem?_eq_getElem h4] at b
  rw [Option.some.inj a,Option.some.inj b] at h6
  have:=hi i j (by omega) (by omega) (by omega)
  omega
theorem wZ {n:Nat} {p q:List Int} (hp:Pm n p) (hq:Pm n q) {i:Nat} (hi:i<n):(Aa p q)[i]?=some (ap q (ap p i):Int):=by
 have h1:i<p.length:=by rw [hp.1];exact hi
 unfold Aa
 rw [List.getElem?_map,List.getElem?_eq_getElem h1]
 have a:=(hp.Ue hi).1
 rw [Hu h1] at a
 simp only [Option.map_some,a]
 rw [(hq.Ue (hp.Ue hi).2).1]
theorem Pm.comp {n:Nat} {p q:List Int} (hp:Pm n p) (hq:Pm n q):Pm n (Aa p q):=
 Pm.of (by rw [Jv,hp.1]) hp.n1 hp.n2 (λi=>ap q (ap p i)) (λi hi=>⟨wZ hp hq hi,hq.lt (hp.lt hi)⟩) λi j hi hj e=>hp.inj hi hj (hq.inj (hp.lt hi) (hp.lt hj) e)
theorem LW {p:List Int} {i k:Nat} (h:p[i]?=some (k:Int)):ap p i=k:=by
 unfold ap Io
 rw [Int.toNat_natCast,List.getD_eq_getElem?_getD,h]
 simp
theorem He {n:Nat} {p q:List Int} (hp:Pm n p) (hq:Pm n q) {i:Nat} (hi:i<n):ap (Aa p q) i=ap q (ap p i):=LW (wZ hp hq hi)
theorem pW {n i:Nat} (hi:i<n):(upto n)[i]?=some (i:Int):=by simp [upto,hi]
theorem eZ {n i:Nat} (hi:i<n):ap (upto n) i=i:=LW (pW hi)
theorem Pm.id {n:Nat} (h1:1<=n) (h2:n<=20):Pm n (upto n):=Pm.of (by simp [upto]) h1 h2 (λi=>i) (λi hi=>⟨pW hi,hi⟩) λ_ _ _ _ e=>e
theorem FX {n:Nat} {p:List Int} (hp:Pm n p) {i:Nat} (hi:i<n):(Af p)[ap p i]?=some (i:Int):=NL hp.2 (by rw [hp.1];exact hi)
theorem e8 {n:Nat} {p:List Int} (hp:Pm n p) {i:Nat} (hi:i<n):ap (Af p) (ap p i)=i:=LW (FX hp hi)
theorem tJ {n:Nat} {p:List Int} (hp:Pm n p) {k:Nat} (hk:k<n):ap p (ap (Af p) k)=k:=by
 obtain ⟨i,hi,rfl⟩:=hp.OI hk
 rw [e8 hp hi]
theorem Pm.inv {n:Nat} {p:List Int} (hp:Pm n p):Pm n (Af p):=by
 refine Pm.of (by rw [iO,hp.1]) hp.n1 hp.n2 (λk=>ap (Af p) k) (λk hk=>?_) λi j hi hj e=>?_
 ·obtain ⟨i,hi,rfl⟩:=hp.OI hk
  rw [e8 hp hi]
  exact ⟨FX hp hi,hi⟩
 ·rw [<-tJ hp hi,<-tJ hp hj,e]
theorem Fy {n:Nat} {p q r:List Int} (hp:Pm n p) (hq:Pm n q) (hr:Pm n r):Aa (Aa p q) r=Aa p (Aa q r):=
 ((hp.comp hq).comp hr).ext (hp.comp (hq.comp hr)) λi hi=>by rw [He (hp.comp hq) hr hi,He hp hq hi,He hp (hq.comp hr) hi,He hq hr (hp.lt hi)]
theorem comp_id {n:Nat} {p:List Int} (hp:Pm n p):Aa p (upto n)=p:=
 (hp.comp (Pm.id hp.n1 hp.n2)).ext hp λi hi=>by rw [He hp (Pm.id hp.n1 hp.n2) hi,eZ (hp.lt hi)]
theorem id_comp {n:Nat} {p:List Int} (hp:Pm n p):Aa (upto n) p=p:=
 ((Pm.id hp.n1 hp.n2).comp hp).ext hp λi hi=>by rw [He (Pm.id hp.n1 hp.n2) hp hi,eZ hi]
theorem im {n:Nat} {p:List Int} (hp:Pm n p):Aa p (Af p)=upto n:=
 (hp.comp hp.inv).ext (Pm.id hp.n1 hp.n2) λi hi=>by rw [He hp hp.inv hi,e8 hp hi,eZ hi]
theorem Zp {n:Nat} {p:List Int} (hp:Pm n p):Aa (Af p) p=upto n:=
 (hp.inv.comp hp).ext (Pm.id hp.n1 hp.n2) λi hi=>by rw [He hp.inv hp hi,tJ hp hi,eZ hi]
theorem oq {n:Nat} {p q:List Int} (hp:Pm n p) (hq:Pm n q) (h:Aa p q=upto n):Af p=q:=by
 rw [<-comp_id hp.inv,<-h,<-Fy hp.inv hp hq,Zp hp,id_comp hq]
theorem inv_mul {n:Nat} {p q:List Int} (hp:Pm n p) (hq:Pm n q):Af (Aa p q)=Aa (Af q) (Af p):=
 oq (hp.comp hq) (hq.inv.comp hp.inv) (by
  rw [Fy hp hq (hq.inv.comp hp.inv),<-Fy hq hq.inv hp.inv,im hq,id_comp hp.inv,im hp])
theorem inv_inv {n:Nat} {p:List Int} (hp:Pm n p):Af (Af p)=p:=oq hp.inv hp (Zp hp)
theorem NM {n:Nat} (h1:1<=n) (h2:n<=20):Af (upto n)=upto n:=oq (Pm.id h1 h2) (Pm.id h1 h2) (comp_id (Pm.id h1 h2))
inductive Xa (n:Nat) (S:List Int->Prop):List Int->Prop where
 |id:Xa n S (upto n)
 |mul {p g:List Int} :Xa n S p->S g->Xa n S (Aa p g)
 |inv {p g:List Int} :Xa n S p->S g->Xa n S (Aa p (Af g))
def wD (n:Nat) (S:List Int->Prop):Prop:=(1<=n/\n<=20)/\ ∀g,S g->Pm n g
theorem Xa.pm {n:Nat} {S:List Int->Prop} (hS:wD n S) {p:List Int} (h:Xa n S p):Pm n p:=by
 induction h with
 |id=>exact Pm.id hS.1.1 hS.1.2
 |mul _ hg ih=>exact ih.comp (hS.2 _ hg)
 |inv _ hg ih=>exact ih.comp (hS.2 _ hg).inv
theorem Xa.comp {n:Nat} {S:List Int->Prop} (hS:wD n S) {p q:List Int} (hp:Xa n S p) (hq:Xa n S q):Xa n S (Aa p q):=by
 induction hq with
 |id=>rw [comp_id (hp.pm hS)];exact hp
 |mul hq hg ih=>rw [<-Fy (hp.pm hS) (hq.pm hS) (hS.2 _ hg)];exact .mul ih hg
 |inv hq hg ih=>rw [<-Fy (hp.pm hS) (hq.pm hS) (hS.2 _ hg).inv];exact .inv ih hg
theorem Xa.one {n:Nat} {S:List Int->Prop} (hS:wD n S) {g:List Int} (hg:S g):Xa n S g:=by
 have:=Xa.mul (n:=n) (S:=S) .id hg
 rwa [id_comp (hS.2 g hg)] at this
theorem Xa.ZY {n:Nat} {S:List Int->Prop} (hS:wD n S) {g:List Int} (hg:S g):Xa n S (Af g):=by
 have:=Xa.inv (n:=n) (S:=S) .id hg
 rwa [id_comp (hS.2 g hg).inv] at this
theorem Xa.mY {n:Nat} {S:List Int->Prop} (hS:wD n S) {p:List Int} (hp:Xa n S p):Xa n S (Af p):=by
 induction hp with
 |id=>rw [NM hS.1.1 hS.1.2];exact .id
 |mul hq hg ih=>rw [inv_mul (hq.pm hS) (hS.2 _ hg)];exact (Xa.ZY hS hg).comp hS ih
 |inv hq hg ih=>rw [inv_mul (hq.pm hS) (hS.2 _ hg).inv,inv_inv (hS.2 _ hg)];exact (Xa.one hS hg).comp hS ih
theorem Xa.trans {n:Nat} {S S':List Int->Prop} (XQ:wD n S') (h: ∀g,S g->Xa n S' g) {p:List Int} (hp:Xa n S p):Xa n S' p:=by
 induction hp with
 |id=>exact .id
 |mul _ hg ih=>exact ih.comp XQ (h _ hg)
 |inv _ hg ih=>exact ih.comp XQ ((h _ hg).mY XQ)
abbrev PO:=Option (List Int)
abbrev Row:=List PO
abbrev Ax:=List Row
def Om (row:Row):List Int:=(upto row.length).filter λy=>(row.getD y.toNat none).isSome
def Ee (T:Ax):Nat->Nat->List Int->Bool
 |0,_,_=>true
 |k+1,i,p=>match (T.getD i []).getD (Io p (i:Int)).toNat none with
  |none=>false
  |some t=>Ee T k (i+1) (Aa p (Af t))
def Hj (row:Row):Nat:=row.countP (·.isNone)
def Ug (x:Int) (s:Row×List Int) (o:PO):Row×List Int:=
 match s.1.getD (Io (o.getD []) x).toNat none with
 |some _=>s
 |none=>(s.1.set (Io (o.getD []) x).toNat (some (Aa ((s.1.getD x.toNat none).getD []) (o.getD []))),s.2++ [Io (o.getD []) x])
def Tv (x:Int) (gs:List PO) (s:Row×List Int):Row×List Int:=gs.foldl (Ug x) s
def Tj (gs:List PO):Nat->List Int->Row->Row
 |0,_,row=>row
 |_+1,[],row=>row
 |f+1,x::q,row=>Tj gs f (Tv x gs (row,q)).2 (Tv x gs (row,q)).1
def Sf (gs:List PO) (row:Row):Row:=Tj gs 100 (Om row) row
def Nm (row:Row) (y:Int) (g:PO):List Int:=
 Aa (Aa ((row.getD y.toNat none).getD []) (g.getD [])) (Af ((row.getD (Io (g.getD []) y).toNat none).getD []))
def bO (row:Row) (gs:List PO):List (List Int):=(Om row).flatMap λy=>gs.map λg=>Nm row y g
def Du:Nat->Nat->List Int->Ax×Ax->Ax×Ax
 |0,_,_,s=>s
 |k+1,l,p,s=>
  if Ee s.2 (k+1) l p=true then s else
   (bO (Sf (s.1.getD l []++ [some p]) (s.2.getD l [])) (s.1.getD l []++ [some p])).foldl (λs q=>Du k (l+1) q s)
    (s.1.set l (s.1.getD l []++ [some p]),s.2.set l (Sf (s.1.getD l []++ [some p]) (s.2.getD l [])))
def Fx (l:Nat) (p:List Int):Prop:= ∀i,i<l->ap p i=i
def Gn (n:Nat) (gs:List PO):List Int->Prop:=Xa n λg=>some g∈gs
structure RP (n l:Nat) (gs:List PO) (row:Row) (H:List Int->Prop):Prop where
 pg: ∀o∈gs,∃g,o=some g/\Pm n g/\Fx l g
 rl:row.length=n
 r0:row.getD l none=some (upto n)
 rt: ∀y t,row.getD y none=some t->Pm n t/\Fx l t/\ap t l=y/\Gn n gs t
 cl: ∀y t g,row.getD y none=some t->some g∈gs->row.getD (ap g y) none≠none
 sg: ∀y t g t',row.getD y none=some t->some g∈gs->row.getD (ap g y) none=some t'->H (Aa (Aa t g) (Af t'))
def eM (n:Nat):Nat->Nat->Ax×Ax->Prop
 |0,l,s=>s.1.getD l []= []
 |k+1,l,s=>eM n k (l+1) s/\RP n l (s.1.getD l []) (s.2.getD l []) (λq=>Ee s.2 k (l+1) q=true)/\ ∀g,some g∈s.1.getD (l+1) []->Gn n (s.1.getD l []) g
theorem TU {l1 l2:List Nat} (hn:l1.Nodup) (hs: ∀x∈l1,x∈l2) (hl:l2.length<=l1.length): ∀x∈l2,x∈l1:=by
 induction l1 generalizing l2 with
 |nil=>
  intro x hx
  have:l2= []:=List.eq_nil_of_length_eq_zero (by simpa using hl)
  rw [this] at hx;cases hx
 |cons a l ih=>
  intro x hx
  obtain ⟨h1,h2⟩:=List.nodup_cons.1 hn
  have ha:=hs a (by simp)
  by_cases e:x=a
  ·subst e;simp
  ·refine List.mem_cons_of_mem _ (ih (l2:=l2.erase a) h2 (λy hy=>?_) ?_ x ((List.mem_erase_of_ne e).2 hx))
   ·have hya:y≠a:= λe'=>h1 (by rw [<-e'];exact hy)
    exact (List.mem_erase_of_ne hya).2 (hs y (by simp [hy]))
   ·rw [List.length_erase_of_mem ha]
    simp only [List.length_cons] at hl
    omega
theorem BZ {n:Nat} {g:List Int} (hg:Pm n g) (D:Nat->Bool) (h: ∀y,y<n->D y=true->D (ap g y)=true) {y:Nat} (hy:y<n) (hD:D y=true): ∃x,x<n/\D x=true/\ap g x=y:=by
 have:=TU (l1:=((List.range n).filter D).map (ap g)) (l2:=(List.range n).filter D) ?_ ?_ (by simp) y (List.mem_filter.2 ⟨List.mem_range.2 hy,hD⟩)
 ·obtain ⟨x,hx,e⟩:=List.mem_map.1 this
  obtain ⟨h1,h2⟩:=List.mem_filter.1 hx
  exact ⟨x,List.mem_range.1 h1,h2,e⟩
 ·refine List.pairwise_map.2 (List.Pairwise.imp_of_mem ?_ (List.nodup_range.filter D))
  intro a b ha hb Fa e
  exact Fa (hg.inj (List.mem_range.1 (List.mem_filter.1 ha).1) (List.mem_range.1 (List.mem_filter.1 hb).1) e)
 ·intro x hx
  obtain ⟨z,hz,rfl⟩:=List.mem_map.1 hx
  obtain ⟨h1,h2⟩:=List.mem_filter.1 hz
  exact List.mem_filter.2 ⟨List.mem_range.2 (hg.lt (List.mem_range.1 h1)),h z (List.mem_range.1 h1) h2⟩
theorem iH {row:Row} {y:Nat} {t:List Int} (h:row.getD y none=some t):y<row.length:=by
 rw [List.getD_eq_getElem?_getD] at h
 refine Classical.byContradiction λhn=>?_
 rw [List.getElem?_eq_none (by omega)] at h
 cases h
theorem RP.pms {n l:Nat} {gs:List PO} {row:Row} {H:List Int->Prop} (h:RP n l gs row H):wD n λg=>some g∈gs:=by
 refine ⟨?_,λg hg=>?_⟩
 ·have:=(h.rt l _ h.r0).1
  exact ⟨this.n1,this.n2⟩
 ·obtain ⟨g',e,h1,_⟩:=h.pg _ hg
  cases e;exact h1
theorem Fx.inv {n l:Nat} {p:List Int} (hp:Pm n p) (h:Fx l p) (hl:l<=n):Fx l (Af p):= λi hi=>by
 have:=e8 hp (i:=i) (by omega)
 rwa [h i hi] at this
theorem Fx.comp {n l:Nat} {p q:List Int} (hp:Pm n p) (hq:Pm n q) (h1:Fx l p) (h2:Fx l q) (hl:l<=n):Fx l (Aa p q):= λi hi=>by
 rw [He hp hq (by omega),h1 i hi,h2 i hi]
theorem Fx.all {n:Nat} {p:List Int} (hp:Pm n p) (h:Fx n p):p=upto n:=hp.ext (Pm.id hp.n1 hp.n2) λi hi=>by rw [h i hi,eZ hi]
theorem Fx.div {n l:Nat} {p t:List Int} (hp:Pm n p) (ht:Pm n t) (h1:Fx l p) (h2:Fx l t) (hl:l<n) (e:ap t l=ap p l):Fx (l+1) (Aa p (Af t)):= λi hi=>by
 rw [He hp ht.inv (by omega)]
 by_cases hil:i<l
 ·rw [h1 i hil];exact h2.inv ht (by omega) i hil
 ·have:i=l:=by omega
  subst this
  rw [<-e,e8 ht hl]
theorem Np {n:Nat} (h1:1<=n) (h2:n<=20): ∀(k l:Nat) (s:Ax×Ax),l+k=n->eM n k l s-> ∀p,Pm n p->Fx l p->(Ee s.2 k l p=true↔Gn n (s.1.getD l []) p)
 |0,l,s,hk,hc,p,hp,hf=>by
  have hl:l=n:=by omega
  subst hl
  rw [hf.all hp]
  exact ⟨λ_=> .id,λ_=>rfl⟩
 |k+1,l,s,hk,hc,p,hp,hf=>by
  obtain ⟨c1,c2,c3⟩:=hc
  have hS:=c2.pms
  have ih:=Np h1 h2 k (l+1) s (by omega) c1
  have hS1:wD n λg=>some g∈s.1.getD (l+1) []:=⟨⟨h1,h2⟩,λg hg=>(c3 g hg).pm hS⟩
  have fo:l<n:=by omega
  constructor
  ·intro h
   simp only [Ee] at h
   rw [show (Io p (l:Int)).toNat=ap p l from rfl] at h
   split at h
   ·cases h
   ·rename_i t ht
    obtain ⟨t1,t2,t3,t4⟩:=c2.rt _ _ ht
    have zC:=Fx.div hp t1 hf t2 fo t3
    have hg:=((ih _ (hp.comp t1.inv) zC).1 h).trans hS c3
    have:=Xa.comp hS hg t4
    rwa [Fy hp t1.inv t1,Zp t1,comp_id hp] at this
  ·intro h
   have key: ∀q,Gn n (s.1.getD l []) q-> ∃t,(s.2.getD l []).getD (ap q l) none=some t/\Gn n (s.1.getD (l+1) []) (Aa q (Af t)):=by
    intro q hq
    induction hq with
    |id=>
     refine ⟨upto n,by rw [eZ fo];exact c2.r0,?_⟩
     rw [NM h1 h2,comp_id (Pm.id h1 h2)]
     exact .id
    | @mul q g hq hg ihq=>
     obtain ⟨t,e1,e2⟩:=ihq
     have VW:=Xa.pm hS hq
     have Ng:=hS.2 _ hg
     obtain ⟨t1,t2,t3,t4⟩:=c2.rt _ _ e1
     cases e3:(s.2.getD l []).getD (ap g (ap q l)) none with
     |none=>exact absurd e3 (c2.cl _ _ _ e1 hg)
     |some t'=>
      obtain ⟨u1,u2,u3,u4⟩:=c2.rt _ _ e3
      have hsg:=c2.sg _ _ _ _ e1 hg e3
      have hfg:Fx (l+1) (Aa (Aa t g) (Af t')):=Fx.div (t1.comp Ng) u1 (Fx.comp t1 Ng t2 (by obtain ⟨g',e,_,h⟩:=c2.pg _ hg;cases e;exact h) (by omega)) u2 fo (by rw [u3,He t1 Ng fo,t3])
      have zD:=(ih _ ((t1.comp Ng).comp u1.inv) hfg).1 hsg
      refine ⟨t',by rw [He VW Ng fo];exact e3,?_⟩
      have:=Xa.comp hS1 e2 zD
      rwa [show Aa (Aa q (Af t)) (Aa (Aa t g) (Af t'))=Aa (Aa q g) (Af t') by
       rw [Fy VW t1.inv ((t1.comp Ng).comp u1.inv),Fy t1 Ng u1.inv,<-Fy t1.inv t1 (Ng.comp u1.inv),Zp t1,id_comp (Ng.comp u1.inv),Fy VW Ng u1.inv]] at this
    | @inv q g hq hg ihq=>
     obtain ⟨t,e1,e2⟩:=ihq
     have VW:=Xa.pm hS hq
     have Ng:=hS.2 _ hg
     obtain ⟨t1,t2,t3,t4⟩:=c2.rt _ _ e1
     have hy:ap q l<n:=VW.lt fo
     obtain ⟨x,hx,hD,he⟩:=BZ Ng (λy=>((s.2.getD l []).getD y none).isSome) (λy hy hd=>by
      obtain ⟨t0,ht0⟩:=Option.isSome_iff_exists.1 hd
      exact Option.ne_none_iff_isSome.1 (c2.cl _ _ _ ht0 hg)) hy (by rw [e1];rfl)
     obtain ⟨t',e3⟩:=Option.isSome_iff_exists.1 hD
     obtain ⟨u1,u2,u3,u4⟩:=c2.rt _ _ e3
     have hsg:=c2.sg _ _ _ _ e3 hg (by rw [he];exact e1)
     have hfg:Fx (l+1) (Aa (Aa t' g) (Af t)):=Fx.div (u1.comp Ng) t1 (Fx.comp u1 Ng u2 (by obtain ⟨g',e,_,h⟩:=c2.pg _ hg;cases e;exact h) (by omega)) t2 fo (by rw [t3,He u1 Ng fo,u3,he])
     have zD:=Xa.mY hS1 ((ih _ ((u1.comp Ng).comp t1.inv) hfg).1 hsg)
     have hax:ap (Af g) (ap q l)=x:=by rw [<-he,e8 Ng hx]
     refine ⟨t',by rw [He VW Ng.inv fo,hax];exact e3,?_⟩
     have:=Xa.comp hS1 e2 zD
     rwa [show Aa (Aa q (Af t)) (Af (Aa (Aa t' g) (Af t)))=Aa (Aa q (Af g)) (Af t') by
      rw [inv_mul (u1.comp Ng) t1.inv,inv_inv t1,inv_mul u1 Ng,Fy VW t1.inv (t1.comp (Ng.inv.comp u1.inv)),<-Fy t1.inv t1 (Ng.inv.comp u1.inv),Zp t1,id_comp (Ng.inv.comp u1.inv),Fy VW Ng.inv u1.inv]] at this
   obtain ⟨t,e1,e2⟩:=key p h
   obtain ⟨t1,t2,t3,t4⟩:=c2.rt _ _ e1
   simp only [Ee]
   rw [show (Io p (l:Int)).toNat=ap p l from rfl,e1]
   exact (ih _ (hp.comp t1.inv) (Fx.div hp t1 hf t2 fo t3)).2 e2
end Go.Proofs.YtfolipnappekaaaGreat

namespace Go.Proofs.YtfolipnappekaaaGreat
open Go.RowKit
theorem Gq {α:Type} (xs:List α) (i j:Nat) (x d:α):(xs.set i x).getD j d=if i=j/\i<xs.length then x else xs.getD j d:=by
 rw [List.getD_eq_getElem?_getD,List.getElem?_set,List.getD_eq_getElem?_getD]
 by_cases e:i=j
 ·subst e
  by_cases h:i<xs.length
  ·rw [if_pos rfl,if_pos h,if_pos ⟨rfl,h⟩];rfl
  ·rw [if_pos rfl,if_neg h,if_neg (λhh=>h hh.2),List.getElem?_eq_none (by omega)]
 ·rw [if_neg e,if_neg (λhh=>e hh.1)]
theorem Xa.mono {n:Nat} {S S':List Int->Prop} (h: ∀g,S g->S' g) {p:List Int} (hp:Xa n S p):Xa n S' p:=by
 induction hp with
 |id=>exact .id
 |mul _ hg ih=>exact .mul ih (h _ hg)
 |inv _ hg ih=>exact .inv ih (h _ hg)
structure Og (n l:Nat) (gs:List PO) (row:Row):Prop where
 rl:row.length=n
 r0:row.getD l none=some (upto n)
 rt: ∀y t,row.getD y none=some t->Pm n t/\Fx l t/\ap t l=y/\Gn n gs t
def PG (n l:Nat) (gs:List PO):Prop:= ∀o∈gs,∃g,o=some g/\Pm n g/\Fx l g
structure Ext (n l:Nat) (gs:List PO) (row:Row) (q:List Int) (s':Row×List Int):Prop where
 ok:Og n l gs s'.1
 mono: ∀y t,row.getD y none=some t->s'.1.getD y none=some t
 phi:s'.2.length+Hj s'.1=q.length+Hj row
 qe: ∀y∈q,y∈s'.2
 new: ∀y∈s'.2,y∈q\/ ∃yn:Nat,y=yn/\s'.1.getD yn none≠none
 src: ∀y:Nat,s'.1.getD y none≠none->row.getD y none≠none\/(y:Int)∈s'.2
theorem Ext.refl {n l:Nat} {gs:List PO} {row:Row} {q:List Int} (h:Og n l gs row):Ext n l gs row q (row,q):=⟨h,λ_ _ h=>h,rfl,λ_ h=>h,λ_ h=> .inl h,λ_ h=> .inl h⟩
theorem aS {a b:Row} (h: ∀y t,a.getD y none=some t->b.getD y none=some t) {y:Nat} (hy:a.getD y none≠none):b.getD y none≠none:=by
 cases e:a.getD y none with
 |none=>exact absurd e hy
 |some t=>rw [h y t e];simp
theorem Ext.trans {n l:Nat} {gs:List PO} {row:Row} {q:List Int} {s1 s2:Row×List Int} (h:Ext n l gs row q s1) (k:Ext n l gs s1.1 s1.2 s2):Ext n l gs row q s2:=by
 refine ⟨k.ok,λy t e=>k.mono y t (h.mono y t e),k.phi.trans h.phi,λy hy=>k.qe y (h.qe y hy),λy hy=>?_,λy hy=>?_⟩
 ·rcases k.new y hy with h1|h1
  ·rcases h.new y h1 with h2|⟨yn,h2,h3⟩
   ·exact .inl h2
   ·exact .inr ⟨yn,h2,aS k.mono h3⟩
  ·exact .inr h1
 ·rcases k.src y hy with h1|h1
  ·exact (h.src y h1).imp id λh2=>k.qe _ h2
  ·exact .inr h1
theorem kx {row:Row} {i:Nat} {t:List Int} (h:row.getD i none=none) (hi:i<row.length):Hj (row.set i (some t))+1=Hj row:=by
 unfold Hj
 have e:row[i]=none:=by
  rw [List.getD_eq_getElem?_getD,List.getElem?_eq_getElem hi] at h
  exact h
 have h1:=List.countP_set (p:= λo:PO=>o.isNone) (l:=row) (i:=i) (a:=some t) hi
 have HQ:0<row.countP (·.isNone):=List.countP_pos_iff.2 ⟨row[i],List.getElem_mem hi,by rw [e];rfl⟩
 rw [h1,e]
 simp
 omega
theorem TS {n l:Nat} {gs:List PO} (fo:l<n) (hg:PG n l gs) {row:Row} {q:List Int} (h:Og n l gs row) {x:Nat} {t:List Int} (hx:row.getD x none=some t) {g:List Int} (ho:some g∈gs):
  Ext n l gs row q (Ug (x:Int) (row,q) (some g))/\(Ug (x:Int) (row,q) (some g)).1.getD (ap g x) none≠none:=by
 obtain ⟨g',e,Ng,VL⟩:=hg _ ho
 cases e
 obtain ⟨t1,t2,t3,t4⟩:=h.rt _ _ hx
 have RM:x<n:=by rw [<-h.rl];exact iH hx
 obtain ⟨a1,a2⟩:=Ng.Ue RM
 unfold Ug
 simp only [Option.getD_some,a1,Int.toNat_natCast]
 cases e:row.getD (ap g x) none with
 |some u=>exact ⟨Ext.refl h,by simp only;rw [e];simp⟩
 |none=>
  simp only [hx,Option.getD_some]
  have hl:ap g x<row.length:=by rw [h.rl];exact a2
  have hS:wD n λg=>some g∈gs:=⟨⟨t1.n1,t1.n2⟩,λg Mp=>by obtain ⟨g',e,h1,_⟩:=hg _ Mp;cases e;exact h1⟩
  have Ad: ∀y,(row.set (ap g x) (some (Aa t g))).getD y none=if ap g x=y/\ap g x<row.length then some (Aa t g) else row.getD y none:= λy=>Gq _ _ _ _ _
  have Fa: ∀y u,row.getD y none=some u->ap g x≠y:= λy u hu e'=>by rw [<-e',e] at hu;cases hu
  refine ⟨⟨⟨by simp [h.rl],?_,λy u hu=>?_⟩,λy u hu=>?_,?_,λy hy=>List.mem_append_left _ hy,λy hy=>?_,λy hy=>?_⟩,?_⟩
  ·rw [Ad,if_neg (λhh=>Fa l _ h.r0 hh.1)];exact h.r0
  ·rw [Ad] at hu
   split at hu
   ·rename_i hc
    cases hu
    exact ⟨t1.comp Ng,Fx.comp t1 Ng t2 VL (by omega),by rw [He t1 Ng fo,t3];exact hc.1, .mul t4 ho⟩
   ·exact h.rt y u hu
  ·show (row.set (ap g x) (some (Aa t g))).getD y none=some u
   rw [Ad,if_neg (λhh=>Fa y u hu hh.1)];exact hu
  ·have:=kx (t:=Aa t g) e hl
   simp only [List.length_append,List.length_cons,List.length_nil]
   omega
  ·rcases List.mem_append.1 hy with hy|hy
   ·exact .inl hy
   ·simp only [List.mem_singleton] at hy
    exact .inr ⟨ap g x,hy,by show (row.set (ap g x) (some (Aa t g))).getD (ap g x) none≠none;rw [Ad,if_pos ⟨rfl,hl⟩];simp⟩
  ·have hy:(row.set (ap g x) (some (Aa t g))).getD y none≠none:=hy
   rw [Ad] at hy
   split at hy
   ·rename_i hc
    exact .inr (by show (y:Int)∈q++ [(ap g x:Int)];rw [<-hc.1];simp)
   ·exact .inl hy
  ·show (row.set (ap g x) (some (Aa t g))).getD (ap g x) none≠none
   rw [Ad,if_pos ⟨rfl,hl⟩];simp
theorem OW {n l:Nat} {gs:List PO} (fo:l<n) (hg:PG n l gs): ∀(UU:List PO) {row:Row} {q:List Int},(∀o∈UU,o∈gs)->Og n l gs row-> ∀ {x:Nat} {t:List Int},row.getD x none=some t->
  Ext n l gs row q (Tv (x:Int) UU (row,q))/\ ∀g,some g∈UU->(Tv (x:Int) UU (row,q)).1.getD (ap g x) none≠none
 | [],row,q,_,h,x,t,hx=>⟨Ext.refl h,λg hg=>by cases hg⟩
 |o::UU,row,q,hs,h,x,t,hx=>by
  obtain ⟨g,rfl,_,_⟩:=hg o (hs o (by simp))
  obtain ⟨e1,e2⟩:=TS (q:=q) fo hg h hx (hs (some g) (by simp))
  obtain ⟨f1,f2⟩:=OW fo hg UU (q:=(Ug (x:Int) (row,q) (some g)).2) (λo ho=>hs o (by simp [ho])) e1.ok (e1.mono x t hx)
  have hb:Tv (x:Int) (some g::UU) (row,q)=Tv (x:Int) UU ((Ug (x:Int) (row,q) (some g)).1,(Ug (x:Int) (row,q) (some g)).2):=rfl
  rw [hb]
  refine ⟨e1.trans f1,λg' Mp=>?_⟩
  rcases List.mem_cons.1 Mp with e|Mp
  ·cases e;exact aS f1.mono e2
  ·exact f2 g' Mp
def GQ (gs:List PO) (q:List Int) (row:Row):Prop:=
 (∀y∈q,∃yn:Nat,y=yn/\row.getD yn none≠none)/\ ∀y:Nat,row.getD y none≠none->(y:Int)∈q\/ ∀g,some g∈gs->row.getD (ap g y) none≠none
theorem CP {n l:Nat} {gs:List PO} (fo:l<n) (hg:PG n l gs) {x:Int} {q:List Int} {row:Row} (h:Og n l gs row) (hq:GQ gs (x::q) row):
  Ext n l gs row q (Tv x gs (row,q))/\GQ gs (Tv x gs (row,q)).2 (Tv x gs (row,q)).1/\ ∃(xn:Nat) (t:List Int),x=xn/\row.getD xn none=some t:=by
 obtain ⟨xn,rfl,hx⟩:=hq.1 x (by simp)
 cases e:row.getD xn none with
 |none=>exact absurd e hx
 |some t=>
  obtain ⟨e1,e2⟩:=OW fo hg gs (q:=q) (λo ho=>ho) h e
  refine ⟨e1,⟨λy hy=>?_,λy hy=>?_⟩,xn,t,rfl,e⟩
  ·rcases e1.new y hy with h1|h1
   ·obtain ⟨yn,h2,h3⟩:=hq.1 y (by simp [h1])
    exact ⟨yn,h2,aS e1.mono h3⟩
   ·exact h1
  ·rcases e1.src y hy with h1|h1
   ·rcases hq.2 y h1 with h2|h2
    ·rcases List.mem_cons.1 h2 with h2|h2
     ·have:y=xn:=by omega
      subst this
      exact .inr λg Mp=>e2 g Mp
     ·exact .inl (e1.qe _ h2)
    ·exact .inr λg Mp=>aS e1.mono (h2 g Mp)
   ·exact .inl h1
theorem PE {n l:Nat} {gs:List PO} (fo:l<n) (hg:PG n l gs): ∀(f:Nat) (q:List Int) (row:Row),q.length+Hj row<=f->Og n l gs row->GQ gs q row->
  Og n l gs (Tj gs f q row)/\(∀y t,row.getD y none=some t->(Tj gs f q row).getD y none=some t)/\ ∀y t g,(Tj gs f q row).getD y none=some t->some g∈gs->(Tj gs f q row).getD (ap g y) none≠none
 |0,q,row,hf,h,hq=>by
  have:q= []:=List.eq_nil_of_length_eq_zero (by omega)
  subst this
  exact ⟨h,λ_ _ h=>h,λy t g e Mp=>by
   rcases hq.2 y (by rw [show row.getD y none=some t from e];simp) with h1|h1
   ·cases h1
   ·exact h1 g Mp⟩
 |f+1,[],row,hf,h,hq=>⟨h,λ_ _ h=>h,λy t g e Mp=>by
   rcases hq.2 y (by rw [show row.getD y none=some t from e];simp) with h1|h1
   ·cases h1
   ·exact h1 g Mp⟩
 |f+1,x::q,row,hf,h,hq=>by
  obtain ⟨e1,e2,_⟩:=CP fo hg h hq
  obtain ⟨r1,r2,r3⟩:=PE fo hg f _ _ (by have:=e1.phi;simp only [List.length_cons] at hf;omega) e1.ok e2
  exact ⟨r1,λy t e=>r2 y t (e1.mono y t e),r3⟩
theorem Uo {row:Row} {y:Int} :y∈Om row↔ ∃yn:Nat,y=yn/\row.getD yn none≠none:=by
 unfold Om
 rw [List.mem_filter,Sx]
 constructor
 ·rintro ⟨h1,h2⟩
  exact ⟨y.toNat,by omega,Option.ne_none_iff_isSome.2 h2⟩
 ·rintro ⟨yn,rfl,h⟩
  obtain ⟨t,ht⟩:=Option.ne_none_iff_exists'.1 h
  exact ⟨by have:=iH ht;omega,by simpa using Option.ne_none_iff_isSome.1 h⟩
theorem uM (row:Row):(Om row).length<=row.length:=by
 unfold Om
 refine Nat.le_trans (List.length_filter_le _ _) (by simp [upto])
theorem dh (row:Row):Hj row<=row.length:=List.countP_le_length
theorem yo {n l:Nat} {gs:List PO} (fo:l<n) (h2:n<=20) (hg:PG n l gs) {row:Row} (h:Og n l gs row):
  Og n l gs (Sf gs row)/\(∀y t,row.getD y none=some t->(Sf gs row).getD y none=some t)/\ ∀y t g,(Sf gs row).getD y none=some t->some g∈gs->(Sf gs row).getD (ap g y) none≠none:=
 PE fo hg 100 _ _ (by have:=uM row;have:=dh row;have:=h.rl;omega) h ⟨λy hy=>Uo.1 hy,λy hy=> .inl (Uo.2 ⟨y,rfl,hy⟩)⟩
theorem wT {n l:Nat} {gs:List PO} (fo:l<n) (hg:PG n l gs): ∀(f:Nat) (q:List Int) (row:Row),q.length+Hj row<=f->Og n l gs row->GQ gs q row->Tj gs f q row=Tj gs (q.length+Hj row) q row
 |0,q,row,hf,_,_=>by
  have:q.length+Hj row=0:=by omega
  rw [this]
 |f+1,[],row,hf,_,_=>by
  cases h:([]:List Int).length+Hj row with
  |zero=>rfl
  |succ m=>rfl
 |f+1,x::q,row,hf,h,hq=>by
  obtain ⟨e1,e2,_⟩:=CP fo hg h hq
  have SQ:=e1.phi
  have:(x::q).length+Hj row=(q.length+Hj row)+1:=by simp only [List.length_cons];omega
  rw [this]
  simp only [Tj]
  rw [wT fo hg f _ _ (by simp only [List.length_cons] at hf;omega) e1.ok e2,SQ]
def qk (row:Row):Nat:=row.countP (·.isSome)
theorem jT: ∀(a b:Row),a.length=b.length->(∀y t,a.getD y none=some t->b.getD y none=some t)->qk a<=qk b/\(qk a=qk b->a=b)
 | [],[],_,_=>⟨Nat.le_refl _,λ_=>rfl⟩
 | [],_::_,h,_=>by simp at h
 |_::_,[],h,_=>by simp at h
 |x::a,y::b,h,hm=>by
  obtain ⟨h1,h2⟩:=jT a b (by simpa using h) λi t e=>by simpa using hm (i+1) t (by simpa using e)
  unfold qk at h1 h2⊢
  cases x with
  |none=>
   cases y with
   |none=>simp only [List.countP_cons];exact ⟨by simpa using h1,λe=>by rw [h2 (by simpa using e)]⟩
   |some u=>
    simp only [List.countP_cons,Option.isSome_none,Option.isSome_some]
    simp only [if_true,Bool.false_eq_true,if_false]
    exact ⟨by omega,λe=>by omega⟩
  |some t=>
   have:=hm 0 t (by simp)
   simp only [List.getD_cons_zero] at this
   subst this
   simp only [List.countP_cons]
   exact ⟨by simpa using h1,λe=>by rw [h2 (by simpa using e)]⟩
def dm (T:Ax):Nat->Nat->Nat
 |0,_=>0
 |k+1,l=>qk (T.getD l [])+dm T k (l+1)
def GBf:Nat->Nat->Ax×Ax->Prop
 |0,_,_=>True
 |k+1,l,s=>GBf k (l+1) s/\(s.1.getD l []).length<=dm s.2 (k+1) l
structure Pf (l0:Nat) (s s':Ax×Ax):Prop where
 HW:s'.1.length=s.1.length
 oA:s'.2.length=s.2.length
 low: ∀i,i<l0->s'.1.getD i []=s.1.getD i []/\s'.2.getD i []=s.2.getD i []
 sm: ∀i o,o∈s.1.getD i []->o∈s'.1.getD i []
 pT: ∀i y t,(s.2.getD i []).getD y none=some t->(s'.2.getD i []).getD y none=some t
 PD: ∀i,(s'.2.getD i []).length=(s.2.getD i []).length
theorem Pf.refl (l0:Nat) (s:Ax×Ax):Pf l0 s s:=⟨rfl,rfl,λ_ _=>⟨rfl,rfl⟩,λ_ _ h=>h,λ_ _ _ h=>h,λ_=>rfl⟩
theorem Pf.trans {l0 l1:Nat} {a b c:Ax×Ax} (h:Pf l0 a b) (k:Pf l1 b c) (hl:l0<=l1):Pf l0 a c:=
 ⟨k.HW.trans h.HW,k.oA.trans h.oA,λi hi=>⟨(k.low i (by omega)).1.trans (h.low i hi).1,(k.low i (by omega)).2.trans (h.low i hi).2⟩,λi o ho=>k.sm i o (h.sm i o ho),λi y t e=>k.pT i y t (h.pT i y t e),λi=>(k.PD i).trans (h.PD i)⟩
theorem Pf.Ep {l0 l1:Nat} {a b:Ax×Ax} (h:Pf l1 a b) (hl:l0<=l1):Pf l0 a b:=(Pf.refl l0 a).trans h hl
theorem Xk {T T':Ax} : ∀(k l:Nat) (p:List Int),(∀i,l<=i->i<l+k->T'.getD i []=T.getD i [])->Ee T' k l p=Ee T k l p
 |0,_,_,_=>rfl
 |k+1,l,p,h=>by
  simp only [Ee]
  rw [h l (Nat.le_refl _) (by omega)]
  split
  ·rfl
  ·exact Xk k (l+1) _ λi h1 h2=>h i (by omega) (by omega)
theorem Nx {n:Nat} {s s':Ax×Ax} : ∀(k l:Nat),(∀i,l<=i->s'.1.getD i []=s.1.getD i []/\s'.2.getD i []=s.2.getD i [])->eM n k l s->eM n k l s'
 |0,l,h,hc=>by simp only [eM] at hc⊢;rw [(h l (Nat.le_refl _)).1];exact hc
 |k+1,l,h,hc=>by
  simp only [eM] at hc⊢
  obtain ⟨c1,c2,c3⟩:=hc
  refine ⟨Nx k (l+1) (λi hi=>h i (by omega)) c1,?_,?_⟩
  ·rw [(h l (Nat.le_refl _)).1,(h l (Nat.le_refl _)).2]
   have e:(λq=>Ee s'.2 k (l+1) q=true)= λq=>Ee s.2 k (l+1) q=true:=funext λq=>by rw [Xk k (l+1) q λi h1 h2=>(h i (by omega)).2]
   rw [e];exact c2
  ·rw [(h (l+1) (by omega)).1,(h l (Nat.le_refl _)).1];exact c3
theorem sU {T T':Ax} : ∀(k l:Nat),(∀i,l<=i->T'.getD i []=T.getD i [])->dm T' k l=dm T k l
 |0,_,_=>rfl
 |k+1,l,h=>by simp only [dm];rw [h l (Nat.le_refl _),sU k (l+1) λi hi=>h i (by omega)]
theorem Vx {s s':Ax×Ax} : ∀(k l:Nat),(∀i,l<=i->s'.1.getD i []=s.1.getD i []/\s'.2.getD i []=s.2.getD i [])->GBf k l s->GBf k l s'
 |0,_,_,_=>trivial
 |k+1,l,h,hg=>⟨Vx k (l+1) (λi hi=>h i (by omega)) hg.1,by
  rw [(h l (Nat.le_refl _)).1,sU (k+1) l λi hi=>(h i hi).2];exact hg.2⟩
theorem oT {T T':Ax} (hl: ∀i,(T'.getD i []).length=(T.getD i []).length) (hm: ∀i y t,(T.getD i []).getD y none=some t->(T'.getD i []).getD y none=some t):
  ∀(k l:Nat),dm T k l<=dm T' k l/\(dm T k l=dm T' k l-> ∀i,l<=i->i<l+k->T'.getD i []=T.getD i [])
 |0,l=>⟨Nat.le_refl _,λ_ i h1 h2=>by omega⟩
 |k+1,l=>by
  obtain ⟨h1,h2⟩:=oT hl hm k (l+1)
  obtain ⟨h3,h4⟩:=jT (T.getD l []) (T'.getD l []) (hl l).symm (hm l)
  simp only [dm]
  refine ⟨by omega,λe i g1 g2=>?_⟩
  by_cases hi:i=l
  ·subst hi;exact (h4 (by omega)).symm
  ·exact h2 (by omega) i (by omega) (by omega)
def V (n k l:Nat) (s:Ax×Ax):Prop:=s.1.length=n/\s.2.length=n/\eM n k l s/\GBf k l s
structure LI (n k l:Nat) (s:Ax×Ax) (p:List Int) (s':Ax×Ax):Prop where
 v:V n k l s'
 grow:Pf l s s'
 ZN:Gn n (s'.1.getD l []) p
 gens: ∀o∈s'.1.getD l [],o∈s.1.getD l []\/o=some p
theorem RP.row {n l:Nat} {gs:List PO} {row:Row} {H:List Int->Prop} (h:RP n l gs row H):Og n l gs row:=⟨h.rl,h.r0,h.rt⟩
theorem dG {row:Row} {y:Nat} {t g t':List Int} (h1:row.getD y none=some t) (h2:row.getD (ap g y) none=some t'):Nm row (y:Int) (some g)=Aa (Aa t g) (Af t'):=by
 unfold Nm
 rw [Int.toNat_natCast,h1,Option.getD_some,Option.getD_some,show (Io g (y:Int)).toNat=ap g y from rfl,h2,Option.getD_some]
theorem kr {n l:Nat} {gs:List PO} {row:Row} (hg:PG n l gs) (_h:Og n l gs row) (hc: ∀y t g,row.getD y none=some t->some g∈gs->row.getD (ap g y) none≠none) {q:List Int} :
  q∈bO row gs↔ ∃(y:Nat) (t g t':List Int),row.getD y none=some t/\some g∈gs/\row.getD (ap g y) none=some t'/\q=Aa (Aa t g) (Af t'):=by
 unfold bO
 rw [List.mem_flatMap]
 constructor
 ·rintro ⟨y,hy,hq⟩
  obtain ⟨o,ho,rfl⟩:=List.mem_map.1 hq
  obtain ⟨yn,rfl,hyn⟩:=Uo.1 hy
  obtain ⟨t,ht⟩:=Option.ne_none_iff_exists'.1 hyn
  obtain ⟨g,rfl,Ng,_⟩:=hg o ho
  obtain ⟨t',sy⟩:=Option.ne_none_iff_exists'.1 (hc yn t g ht ho)
  exact ⟨yn,t,g,t',ht,ho,sy,dG ht sy⟩
 ·rintro ⟨y,t,g,t',h1,h2,h3,rfl⟩
  obtain ⟨g',e,Ng,_⟩:=hg _ h2
  cases e
  exact ⟨(y:Int),Uo.2 ⟨y,rfl,by rw [h1];simp⟩,List.mem_map.2 ⟨some g,h2,dG h1 h3⟩⟩
theorem tG {n:Nat} (h1:1<=n) (h2:n<=20): ∀(k l:Nat) (p:List Int) (s:Ax×Ax),l+k=n->V n k l s->Pm n p->Fx l p->LI n k l s p (Du k l p s)
 |0,l,p,s,hk,hv,hp,hf=>by
  have hl:l=n:=by omega
  subst hl
  exact ⟨hv,Pf.refl _ _,by rw [hf.all hp];exact .id,λo ho=> .inl ho⟩
 |k+1,l,p,s,hk,hv,hp,hf=>by
  have fo:l<n:=by omega
  obtain ⟨v1,v2,hc,su⟩:=hv
  have fj:=hc
  obtain ⟨c1,c2,c3⟩:=hc
  unfold Du
  by_cases hh:Ee s.2 (k+1) l p=true
  ·rw [if_pos hh]
   exact ⟨⟨v1,v2,fj,su⟩,Pf.refl _ _,(Np h1 h2 (k+1) l s hk fj p hp hf).1 hh,λo ho=> .inl ho⟩
  rw [if_neg hh]
  generalize iL:s.1.getD l []++ [some p]=gs
  have Tl:some p∈gs:=by rw [<-iL];simp
  have Kh: ∀o∈s.1.getD l [],o∈gs:= λo ho=>by rw [<-iL];exact List.mem_append_left _ ho
  have hg:PG n l gs:= λo ho=>by
   rw [<-iL] at ho
   rcases List.mem_append.1 ho with ho|ho
   ·exact c2.pg o ho
   ·rw [List.mem_singleton] at ho;exact ⟨p,ho,hp,hf⟩
  have Ad9:Og n l gs (s.2.getD l []):=⟨c2.rl,c2.r0,λy t e=>⟨(c2.rt y t e).1,(c2.rt y t e).2.1,(c2.rt y t e).2.2.1,(c2.rt y t e).2.2.2.mono λg hg=>Kh _ hg⟩⟩
  obtain ⟨r1,r2,r3⟩:=yo fo h2 hg Ad9
  generalize hR:Sf gs (s.2.getD l [])=R at r1 r2 r3
  have hS:wD n λg=>some g∈gs:=⟨⟨h1,h2⟩,λg Mp=>by obtain ⟨g',e,h,_⟩:=hg _ Mp;cases e;exact h⟩
  have p9: ∀i,((s.1.set l gs).getD i []=if i=l then gs else s.1.getD i [])/\(s.2.set l R).getD i []=if i=l then R else s.2.getD i []:= λi=>by
   rw [Gq,Gq]
   by_cases e:l=i
   ·subst e;rw [if_pos ⟨rfl,by omega⟩,if_pos rfl,if_pos ⟨rfl,by omega⟩,if_pos rfl];exact ⟨rfl,rfl⟩
   ·rw [if_neg (λhh=>e hh.1),if_neg (Ne.symm e),if_neg (λhh=>e hh.1),if_neg (Ne.symm e)];exact ⟨rfl,rfl⟩
  have sA: ∀i,l+1<=i->(s.1.set l gs).getD i []=s.1.getD i []/\(s.2.set l R).getD i []=s.2.getD i []:= λi hi=>by
   rw [(p9 i).1,(p9 i).2,if_neg (by omega),if_neg (by omega)];exact ⟨rfl,rfl⟩
  have gZ:V n k (l+1) (s.1.set l gs,s.2.set l R):=⟨by simpa using v1,by simpa using v2,Nx k (l+1) sA c1,Vx k (l+1) sA su.1⟩
  have gy:Pf l s (s.1.set l gs,s.2.set l R):=by
   refine ⟨by simp,by simp,λi hi=>?_,λi o ho=>?_,λi y t e=>?_,λi=>?_⟩
   ·rw [(p9 i).1,(p9 i).2,if_neg (by omega),if_neg (by omega)];exact ⟨rfl,rfl⟩
   ·rw [(p9 i).1]
    split
    ·rename_i hi;subst hi;exact Kh o ho
    ·exact ho
   ·rw [(p9 i).2]
    split
    ·rename_i hi;subst hi;exact r2 y t e
    ·exact e
   ·rw [(p9 i).2]
    split
    ·rename_i hi;subst hi;rw [r1.rl,c2.rl]
    ·rfl
  have hq: ∀q∈bO R gs,Pm n q/\Fx (l+1) q/\Gn n gs q:= λq hq=>by
   obtain ⟨y,t,g,t',e1,e2,e3,rfl⟩:=(kr hg r1 r3).1 hq
   obtain ⟨t1,t2,t3,t4⟩:=r1.rt _ _ e1
   obtain ⟨u1,u2,u3,u4⟩:=r1.rt _ _ e3
   obtain ⟨g',e,Ng,VL⟩:=hg _ e2
   cases e
   exact ⟨(t1.comp Ng).comp u1.inv,Fx.div (t1.comp Ng) u1 (Fx.comp t1 Ng t2 VL (by omega)) u2 fo (by rw [u3,He t1 Ng fo,t3]),Xa.comp hS (.mul t4 e2) (Xa.mY hS u4)⟩
  have fold: ∀(qs:List (List Int)) (s1:Ax×Ax),(∀q∈qs,Pm n q/\Fx (l+1) q)->V n k (l+1) s1->
    V n k (l+1) (qs.foldl (λs q=>Du k (l+1) q s) s1)/\Pf (l+1) s1 (qs.foldl (λs q=>Du k (l+1) q s) s1)/\
     (∀q∈qs,Gn n ((qs.foldl (λs q=>Du k (l+1) q s) s1).1.getD (l+1) []) q)/\ ∀o∈(qs.foldl (λs q=>Du k (l+1) q s) s1).1.getD (l+1) [],o∈s1.1.getD (l+1) []\/ ∃q∈qs,o=some q:=by
   intro qs
   induction qs with
   |nil=>exact λs1 _ hv=>⟨hv,Pf.refl _ _,(λq hq=>by cases hq),λo ho=>Or.inl ho⟩
   |cons q qs ih=>
    intro s1 HR hv
    have ha:=tG h1 h2 k (l+1) q s1 (by omega) hv (HR q (by simp)).1 (HR q (by simp)).2
    obtain ⟨g1,g2,g3,g4⟩:=ih (Du k (l+1) q s1) (λq' gz=>HR q' (by simp [gz])) ha.v
    simp only [List.foldl_cons]
    refine ⟨g1,ha.grow.trans g2 (Nat.le_refl _),λq' gz=>?_,λo ho=>?_⟩
    ·rcases List.mem_cons.1 gz with rfl|gz
     ·exact ha.ZN.mono λg hg=>g2.sm _ _ hg
     ·exact g3 q' gz
    ·rcases g4 o ho with h|⟨q',gz,h⟩
     ·rcases ha.gens o h with h|h
      ·exact .inl h
      ·exact .inr ⟨q,by simp,h⟩
     ·exact .inr ⟨q',by simp [gz],h⟩
  obtain ⟨f1,f2,f3,f4⟩:=fold (bO R gs) (s.1.set l gs,s.2.set l R) (λq h=>⟨(hq q h).1,(hq q h).2.1⟩) gZ
  generalize (bO R gs).foldl (λs q=>Du k (l+1) q s) (s.1.set l gs,s.2.set l R)=s' at f1 f2 f3 f4
  obtain ⟨w1,w2,w3,w4⟩:=f1
  have el1:s'.1.getD l []=gs:=by rw [(f2.low l (by omega)).1,(p9 l).1,if_pos rfl]
  have el2:s'.2.getD l []=R:=by rw [(f2.low l (by omega)).2,(p9 l).2,if_pos rfl]
  have o6:=gy.trans f2 (by omega)
  have YL:RP n l gs R (λq=>Ee s'.2 k (l+1) q=true):=⟨hg,r1.rl,r1.r0,r1.rt,r3,λy t g t' e1 e2 e3=>by
   have hm:=(kr hg r1 r3).2 ⟨y,t,g,t',e1,e2,e3,rfl⟩
   exact (Np h1 h2 k (l+1) s' (by omega) w3 _ (hq _ hm).1 (hq _ hm).2.1).2 (f3 _ hm)⟩
  have xt:eM n (k+1) l s':=⟨w3,by rw [el1,el2];exact YL,λg Mp=>by
   rw [el1]
   rcases f4 _ Mp with h|⟨q,gz,h⟩
   ·rw [(sA (l+1) (Nat.le_refl _)).1] at h
    exact (c3 g h).mono λg hg=>Kh _ hg
   ·cases h;exact (hq _ gz).2.2⟩
  have cT:Gn n (s'.1.getD l []) p:=by rw [el1];exact Xa.one hS Tl
  refine ⟨⟨w1,w2,xt,w4,?_⟩,o6,cT,λo ho=>?_⟩
  ·have hold:=su.2
   obtain ⟨p1,p2⟩:=oT o6.PD o6.pT (k+1) l
   have Fa:dm s.2 (k+1) l≠dm s'.2 (k+1) l:= λe=>by
    have:=Xk (k+1) l p (p2 e)
    rw [(Np h1 h2 (k+1) l s' hk xt p hp hf).2 cT] at this
    exact hh this.symm
   rw [el1,<-iL,List.length_append,List.length_singleton]
   omega
  ·rw [el1,<-iL] at ho
   rcases List.mem_append.1 ho with ho|ho
   ·exact .inl ho
   ·rw [List.mem_singleton] at ho;exact .inr ho
end Go.Proofs.YtfolipnappekaaaGreat

namespace Go.Proofs.YtfolipnappekaaaGreat
open Go.RowKit
theorem OU {n l:Nat} {gs:List PO} {R:Row} (fo:l<n) (hg:PG n l gs) (r1:Og n l gs R) (r3: ∀y t g,R.getD y none=some t->some g∈gs->R.getD (ap g y) none≠none): ∀q∈bO R gs,Pm n q/\Fx (l+1) q:=by
 intro q hq
 obtain ⟨y,t,g,t',e1,e2,e3,rfl⟩:=(kr hg r1 r3).1 hq
 obtain ⟨t1,t2,t3,t4⟩:=r1.rt _ _ e1
 obtain ⟨u1,u2,u3,u4⟩:=r1.rt _ _ e3
 obtain ⟨g',e,Ng,VL⟩:=hg _ e2
 cases e
 exact ⟨(t1.comp Ng).comp u1.inv,Fx.div (t1.comp Ng) u1 (Fx.comp t1 Ng t2 VL (by omega)) u2 fo (by rw [u3,He t1 Ng fo,t3])⟩
theorem V.lower {n k l:Nat} {s:Ax×Ax} (h:V n (k+1) l s) (gs:List PO) (R:Row):V n k (l+1) (s.1.set l gs,s.2.set l R):=by
 obtain ⟨v1,v2,hc,su⟩:=h
 have sA: ∀i,l+1<=i->(s.1.set l gs).getD i []=s.1.getD i []/\(s.2.set l R).getD i []=s.2.getD i []:= λi hi=>by
  rw [Gq,Gq,if_neg (by omega),if_neg (by omega)];exact ⟨rfl,rfl⟩
 exact ⟨by simpa using v1,by simpa using v2,Nx k (l+1) sA hc.1,Vx k (l+1) sA su.1⟩
theorem FD {n k l:Nat} (h1:1<=n) (h2:n<=20) (hk:l+k=n): ∀(qs:List (List Int)) (s1:Ax×Ax),(∀q∈qs,Pm n q/\Fx l q)->V n k l s1->
  V n k l (qs.foldl (λs q=>Du k l q s) s1)/\Pf l s1 (qs.foldl (λs q=>Du k l q s) s1)
 | [],s1,_,hv=>⟨hv,Pf.refl _ _⟩
 |q::qs,s1,HR,hv=>by
  have ha:=tG h1 h2 k l q s1 hk hv (HR q (by simp)).1 (HR q (by simp)).2
  obtain ⟨g1,g2⟩:=FD h1 h2 hk qs (Du k l q s1) (λq' gz=>HR q' (by simp [gz])) ha.v
  exact ⟨g1,ha.grow.trans g2 (Nat.le_refl _)⟩
theorem OV {n:Nat} {s:Ax×Ax} : ∀(k l:Nat),eM n k l s->dm s.2 k l<=n*k
 |0,_,_=>by simp [dm]
 |k+1,l,hc=>by
  have h1:=OV k (l+1) hc.1
  have h2:qk (s.2.getD l [])<=n:=by
   have:=hc.2.1.rl
   have h3:qk (s.2.getD l [])<=(s.2.getD l []).length:=List.countP_le_length
   omega
  simp only [dm]
  rw [Nat.mul_succ]
  omega
theorem FH {n k l:Nat} {s:Ax×Ax} (h2:n<=20) (hk:l+(k+1)=n) (h:V n (k+1) l s):(s.1.getD l []).length<=400:=by
 have h3:=h.2.2.2.2
 have h4:=OV (k+1) l h.2.2.1
 have h5:n*(k+1)<=20*20:=Nat.mul_le_mul h2 (by omega)
 omega
theorem V.lvl {n k l:Nat} {s:Ax×Ax} (h:V n (k+1) l s):RP n l (s.1.getD l []) (s.2.getD l []) (λq=>Ee s.2 k (l+1) q=true):=h.2.2.1.2.1
theorem V.pg {n k l:Nat} {s:Ax×Ax} (h:V n (k+1) l s) {p:List Int} (hp:Pm n p) (hf:Fx l p):PG n l (s.1.getD l []++ [some p]):= λo ho=>by
 rcases List.mem_append.1 ho with ho|ho
 ·exact h.lvl.pg o ho
 ·rw [List.mem_singleton] at ho;exact ⟨p,ho,hp,hf⟩
theorem V.Aje {n k l:Nat} {s:Ax×Ax} (h:V n (k+1) l s) (p:List Int):Og n l (s.1.getD l []++ [some p]) (s.2.getD l []):=
 ⟨h.lvl.rl,h.lvl.r0,λy t e=>⟨(h.lvl.rt y t e).1,(h.lvl.rt y t e).2.1,(h.lvl.rt y t e).2.2.1,(h.lvl.rt y t e).2.2.2.mono λ_ hg=>List.mem_append_left _ hg⟩⟩
theorem r9 {α:Type} (xs:List (List α)) (i:Nat) (h:i<xs.length):xs.set i (xs.getD i [])=xs:=by
 refine List.ext_getElem (by simp) λj h1 h2=>?_
 rw [List.getElem_set]
 split
 ·rename_i e;subst e;rw [List.getD_eq_getElem?_getD,List.getElem?_eq_getElem h];rfl
 ·rfl
theorem Ym {α:Type} (xs:List (List α)) (i:Nat) (h:i<xs.length) (r:List α):(xs.set i r).getD i []=r:=by
 rw [Gq,if_pos ⟨rfl,h⟩]
end Go.Proofs.YtfolipnappekaaaGreat

namespace Go.Proofs.YtfolipnappekaaaGreat
open Go.RowKit
noncomputable abbrev Rn:MSpec:=Wx [none] [(false, .Dh TW)] false [none] [.row tI 2] (λx=>List.length x.1<=20) (λx=>((Om x.1,()),()))
noncomputable abbrev Fg:Spec:=Cu (.pair tL (.pair tL .unit)) tO false true (λx=>(0<x.1.length/\x.1.length<=20)/\Hw x.2.1.length x.1) (λx=>some (Aa x.1 x.2.1))
noncomputable abbrev Hz:Spec:=Cu (.pair tL (.pair tL .unit)) tL false false (λx=>x.1.length<=20/\Hw x.2.1.length x.1) (λx=>Aa x.1 x.2.1)
noncomputable abbrev dE:Spec:=Cu (.pair tI .unit) tL false true (λx=>0<=x.1/\x.1<=20) (λx=>upto x.1.toNat)
noncomputable abbrev Kc:Spec:=Cu (.pair tI .unit) tO false true (λx=>1<=x.1/\x.1<=20) (λx=>some (upto x.1.toNat))
abbrev qf:TypeId:=22
structure Pd (N L:Nat) (n:Int) (G T:Ax) (l:Int) (p:List Int):Prop where
 n1:1<=N
 n2:N<=20
 en:n=N
 el:l=L
 le:L<=N
 v:V N (N-L) L (G,T)
 pm:Pm N p
 fx:Fx L p
noncomputable abbrev jg:Spec:=Cu (.pair (.ptr jz) (.pair tI (.pair tL .unit))) .bool false true (λx=> ∃N L,Pd N L x.1.1 x.1.2.1 x.1.2.2.1 x.2.1 x.2.2.1) (λx=>Ee x.1.2.2.1 (x.1.1-x.2.1).toNat x.2.1.toNat x.2.2.1)
noncomputable abbrev WG:MSpec:= {ptr:=some (141,3),Fk:= [none,none],ins:= [(false, .Dh tI),(false, .Aj tO qf true),(false, .Aj tO qf true),(false, .Dh tI),(false, .Dh tO)],Dn:=false,Ek:= [],outs:= [.Dh tI, .Aj tO qf false, .Aj tO qf false],fn:= λ_=>none,keeps:= [(1,1),(2,2)],Ch:= λx=>x.2.2.2.1.toNat}
noncomputable abbrev Pw (m:Nat):MSpec:=hY WG (λx=>(∃N L q,x.2.2.2.2.1=some q/\Pd N L x.1 x.2.1 x.2.2.1 x.2.2.2.1 q)/\(x.1-x.2.2.2.1).toNat<m)
 (λx=>((x.1,(Du (x.1-x.2.2.2.1).toNat x.2.2.2.1.toNat (x.2.2.2.2.1.getD []) (x.2.1,x.2.2.1)).1,(Du (x.1-x.2.2.2.1).toNat x.2.2.2.1.toNat (x.2.2.2.2.1.getD []) (x.2.1,x.2.2.1)).2,()),()))
theorem zi (n:Int) (P:List Int->Prop):(((0:Int)<=n/\n<(↑Bh:Int)+(1:Int))/\n=n/\0=0/\(List.replicate n.toNat (Int.ofNat (nat_lit 0))).length=(List.replicate n.toNat (Int.ofNat (nat_lit 0))).length/\Bk (λ(v2:Int×List Int×PUnit) (k3:Int×List Int×PUnit->Prop)=>Br (decide (v2.1<(↑(List.replicate n.toNat (Int.ofNat (nat_lit 0))).length:Int))) (((0:Int)<=v2.1/\v2.1<(↑v2.2.1.length:Int))/\0+v2.1.toNat<v2.2.1.length/\0=0/\v2.2.1.length=(v2.2.1.set (0+v2.1.toNat) v2.1).length/\k3 (IntKind.i64.wrap (v2.1+(1:Int)),v2.2.1.set (0+v2.1.toNat) v2.1,())) (P (List.take v2.2.1.length (List.drop 0 v2.2.1)))) ((0:Int),List.replicate n.toNat (Int.ofNat (nat_lit 0)),PUnit.unit))=fnW Ck (look []) dE Tryz.f105 (n,()) P:=by kernel_rfl
theorem KO (row:List (Option (List Int))) (P:(List Int×Unit)×Unit->Prop):(0=0/\0=([]:List Int).length/\Bk (λ(v2:Int×List Int×PUnit) (k3:Int×List Int×PUnit->Prop)=>Br (decide (v2.1<(↑row.length:Int))) (∃(y4:Option (List Int)),idx row v2.1=some y4/\Br (!y4.isNone) (0=0/\v2.2.1.length=v2.2.1.length/\v2.2.1.length+(List.take 1 (List.drop 0 [v2.1])).length<=Bh/\0=0/\(v2.2.1++List.take 1 (List.drop 0 [v2.1])).length=(v2.2.1++List.take 1 (List.drop 0 [v2.1])).length/\k3 (IntKind.i64.wrap (v2.1+(1:Int)),v2.2.1++List.take 1 (List.drop 0 [v2.1]),())) (0=0/\v2.2.1.length=v2.2.1.length/\k3 (IntKind.i64.wrap (v2.1+(1:Int)),v2.2.1,()))) (P ((List.take v2.2.1.length (List.drop 0 v2.2.1),()),()))) ((0:Int),[],PUnit.unit))=fnMW Wz (look []) Rn Tryz.f147 (row,()) P:=by kernel_rfl
theorem Aes (c:Int×List (List (Option (List Int)))×List (List (Option (List Int)))×Unit) (l:Int) (p:List Int) (P:Bool->Prop):(Bk (λ(v4:List Int×Int×PUnit) (k5:List Int×Int×PUnit->Prop)=>Br (decide (v4.2.1<c.1)) (∃(y6:List (Option (List Int))),idx c.2.2.1 v4.2.1=some y6/\ ∃(y7:Int),idx v4.1 v4.2.1=some y7/\ ∃(y8:Option (List Int)),idx y6 y7=some y8/\Br y8.isNone (P false) (∃(y9:List Int),Cn.fn (y8.getD [],())=some y9/\ ∃(Th:List Int),Hz.fn (v4.1,y9,())=some Th/\k5 (Th,IntKind.i64.wrap (v4.2.1+(1:Int)),()))) (P true)) (p,l,PUnit.unit))=fnW Wz (look [(56,Cn),(121,Hz)]) jg Tryz.f99 (c,l,p,()) P:=by kernel_rfl
theorem Sound.loose {P:Program} {f:FuncId} {arg res:Ty} {pre:arg.den->Prop} {val:arg.den->res.den} (h:Sound P f (Go.Proofs.YtfolipnappekaaaGreat.Cu arg res false true pre val)):Sound P f (Go.Proofs.YtfolipnappekaaaGreat.Cu arg res false false pre val):=
 ⟨h.enter,λw S vs x y h1 h2 h3=>Calls.mono (h.calls w S vs x y h1 h2 h3) λe' w' hr=>by
  obtain ⟨v,g1,g2,g3⟩:=hr
  exact ⟨v,g1,g2,Be.Ep (S:= λb=>S b\/(true=true/\b<w.heap.size)) g3 λk _ hk=>hk.elim .inl λhh=>absurd (show false=true from hh.1) (by simp)⟩⟩
theorem pq:Sound Tryz.prog 121 Hz:=Sound.loose Xy
theorem pt:Sound Tryz.prog 121 Fg:=Sound.toO Xy λx h=>⟨⟨h.1.2,h.2⟩,λe=>by
 have:=Jv x.1 x.2.1
 rw [e] at this
 have:=h.1.1
 simp only [List.length_nil] at*
 omega⟩
theorem yr (n:Int) (h:0<=n/\n<=20):fnW Ck (look []) dE Tryz.f105 (n,()) (λ(z:List Int)=>z=upto n.toNat):=by
 refine Eq.mp (zi n _) ⟨⟨by omega,by show n<(4294967296:Int)+1;omega⟩,rfl,rfl,rfl,?_⟩
 refine Ag n.toNat (λv=>v.1) (λj v=>v.2.1.length=n.toNat/\v.2.1.take j=upto j) rfl ⟨by simp,by simp [upto]⟩ ?_
 rintro j ⟨i,ys,⟨⟩⟩ K hj hi ⟨h1,h2⟩ hK
 dsimp only at hi h1 h2⊢
 subst hi
 rw [List.length_replicate]
 simp only [Int.toNat_natCast,Nat.zero_add]
 refine Br.dec (λhl=>⟨⟨by omega,by omega⟩,by omega,trivial,by rw [List.length_set],?_⟩) λhl=>?_
 ·rw [Ah (by omega)]
  refine hK (by omega) _ rfl ⟨by rw [List.length_set];exact h1,?_⟩
  rw [List.take_add_one,List.take_set_of_le (by omega),h2,List.getElem?_set_self (by omega),eK]
  rfl
 ·have:j=ys.length:=by omega
  subst this
  rw [List.take_length] at h2
  rw [List.drop_zero,List.take_length,h2,h1]
theorem mA:Sound Tryz.prog 105 dE:=
 Sound.Cu Bj Ai mixed Tryz.func105 (by kernel_rfl) (by kernel_rfl) λx h=>yr x.1 h
theorem GP {n:Int} (h:1<=n/\n<=20):(0<=n/\n<=20)/\upto n.toNat≠ []:=⟨by omega,λe=>by
 have:=congrArg List.length e
 simp [upto] at this
 omega⟩
theorem mz:Sound Tryz.prog 105 Kc:=Sound.toO mA λ_ h=>GP h
theorem ym {row:Row} {j:Nat} :(upto (j+1)).filter (λy=>(row.getD y.toNat none).isSome)=(upto j).filter (λy=>(row.getD y.toNat none).isSome)++if (row.getD j none).isSome=true then [(j:Int)] else []:=by
 rw [eK,List.filter_append]
 congr 1
 simp only [List.filter_cons,List.filter_nil,Int.toNat_natCast]
theorem IQ (row:List (Option (List Int))) (h:List.length row<=20):fnMW Wz (look []) Rn Tryz.f147 (row,()) (λ(z:(List Int×Unit)×Unit)=>z=((Om row,()),())):=by
 refine Eq.mp (KO row _) ⟨rfl,rfl,?_⟩
 refine Ag row.length (λv=>v.1) (λj v=>v.2.1=(upto j).filter (λy=>(row.getD y.toNat none).isSome)) rfl rfl ?_
 rintro j ⟨i,ys,⟨⟩⟩ K hj hi h1 hK
 dsimp only at hi h1⊢
 subst hi
 refine Br.dec (λhl=>?_) λhl=>?_
 ·have hl:j<row.length:=by omega
  have hlen:ys.length<=j:=by rw [h1];refine Nat.le_trans (List.length_filter_le _ _) (by simp [upto])
  have hg:row.getD j none=row[j]:=by rw [List.getD_eq_getElem?_getD,List.getElem?_eq_getElem hl];rfl
  refine ⟨_,Ap hl,Br.of (λhb=>⟨rfl,rfl,?_,rfl,rfl,?_⟩) λhb=>⟨rfl,rfl,?_⟩⟩
  ·show ys.length+1<=4294967296
   omega
  ·rw [Ah (by omega)]
   refine hK hl _ rfl ?_
   show ys++ [(j:Int)]=_
   rw [ym,hg,h1,if_pos (by cases e:row[j] with
    |none=>rw [e] at hb;simp at hb
    |some t=>rfl)]
  ·rw [Ah (by omega)]
   refine hK hl _ rfl ?_
   show ys=_
   rw [ym,hg,h1,if_neg (by cases e:row[j] with
    |none=>simp
    |some t=>rw [e] at hb;simp at hb),List.append_nil]
 ·have:j=row.length:=by omega
  subst this
  rw [List.drop_zero,List.take_length,h1]
  rfl
theorem rm:Au Tryz.prog 147 Rn:=
 Au.Wx pQ Ai mixed Tryz.func147 (by kernel_rfl) (by kernel_rfl) λx h=>IQ x.1 h
theorem nL {n:Nat} {s:Ax×Ax} : ∀(k l:Nat),eM n k l s-> ∀i,l<=i->i<l+k->RP n i (s.1.getD i []) (s.2.getD i []) (λq=>Ee s.2 (l+k-i-1) (i+1) q=true)
 |0,_,_,i,h1,h2=>by omega
 |k+1,l,hc,i,h1,h2=>by
  obtain ⟨c1,c2,_⟩:=hc
  by_cases e:i=l
  ·subst e
   rw [show i+(k+1)-i-1=k by omega]
   exact c2
  ·have:=nL k (l+1) c1 i (by omega) (by omega)
   rwa [show l+1+k-i-1=l+(k+1)-i-1 by omega] at this
theorem UT {α:Type} {xs:List (List α)} {i:Nat} (h:i<xs.length):xs.getD i []=xs[i]:=by
 rw [List.getD_eq_getElem?_getD,List.getElem?_eq_getElem h];rfl
theorem xl {α:Type} {xs:List (Option α)} {i:Nat} (h:i<xs.length):xs.getD i none=xs[i]:=by
 rw [List.getD_eq_getElem?_getD,List.getElem?_eq_getElem h];rfl
theorem Pm.row {n:Nat} {p:List Int} (h:Pm n p):Hw n p:=by
 have:=h.2.row
 rwa [h.1] at this
theorem Ae4 (c:Int×List (List (Option (List Int)))×List (List (Option (List Int)))×Unit) (l:Int) (p:List Int) (h: ∃N L,Pd N L c.1 c.2.1 c.2.2.1 l p):
  fnW Wz (look [(56,Cn),(121,Hz)]) jg Tryz.f99 (c,l,p,()) (λ(z:Bool)=>z=Ee c.2.2.1 (c.1-l).toNat l.toNat p):=by
 obtain ⟨n,G,T,⟨⟩⟩:=c
 obtain ⟨N,L,h⟩:=h
 obtain ⟨n1,n2,en,el,hle,v,pm,fx⟩:=h
 dsimp only at en el v⊢
 subst en el
 refine Eq.mp (Aes ((N:Int),G,T,()) (L:Int) p _) ?_
 obtain ⟨v1,v2,v3,v4⟩:=v
 dsimp only at v1 v2
 refine ⟨λv=> ∃i:Nat,L<=i/\i<=N/\v.2.1=i/\Pm N v.1/\Fx i v.1/\Ee T (N-i) i v.1=Ee T (N-L) L p,λv=>N-v.2.1.toNat,⟨L,Nat.le_refl _,hle,rfl,pm,fx,rfl⟩,?_⟩
 rintro ⟨p',i',⟨⟩⟩ ⟨i,h1,h2,h3,h4,h5,h6⟩
 dsimp only at h3 h4 h5 h6⊢
 subst h3
 rw [show (((N:Int)-(L:Int)).toNat)=N-L by omega,show ((L:Int)).toNat=L by omega,<-h6]
 refine Br.dec (λhl=>?_) λhl=>?_
 ·have hl:i<N:=by omega
  have Gh:=nL (N-L) L v3 i h1 (by omega)
  obtain ⟨a1,a2⟩:=h4.Ue hl
  have hT:i<T.length:=by omega
  have hlen:T[i].length=N:=by have:=Gh.rl;dsimp only at this;rwa [UT hT] at this
  refine ⟨_,Ap hT,_,Ap (by rw [h4.1];exact hl),?_⟩
  have e1:p'[i]'(by rw [h4.1];exact hl)=(ap p' i:Int):=by rw [<-a1,Hu]
  rw [e1]
  refine ⟨_,Ap (by omega),?_⟩
  have e2:N-i=(N-i-1)+1:=by omega
  have e3:(T.getD i []).getD (Io p' (i:Int)).toNat none=T[i][ap p' i]'(by omega):=by
   rw [UT hT];exact xl (by show ap p' i<_;omega)
  rw [e2]
  simp only [Ee,e3]
  refine Br.of (λhb=>?_) λhb=>?_
  ·cases e:T[i][ap p' i]'(by omega) with
   |none=>rfl
   |some t=>rw [e] at hb;simp at hb
  ·cases e:T[i][ap p' i]'(by omega) with
   |none=>rw [e] at hb;simp at hb
   |some t=>
    have ht:(T.getD i []).getD (ap p' i) none=some t:=by rw [<-e];exact e3
    obtain ⟨t1,t2,t3,t4⟩:=Gh.rt _ _ ht
    simp only [Option.getD_some]
    refine ⟨_,if_pos ⟨by show t.length<=20;rw [t1.1];exact n2,t1.2.row⟩,_,if_pos ⟨by show p'.length<=20;rw [h4.1];exact n2,by show Hw (Af t).length p';rw [iO,t1.1];exact h4.row⟩,⟨i+1,by omega,by omega,Ah (by omega),h4.comp t1.inv,Fx.div h4 t1 h5 t2 hl t3,?_⟩,?_⟩
    ·rw [show N-(i+1)=N-i-1 by omega]
    ·show N-(IntKind.i64.wrap ((i:Int)+1)).toNat<N-((i:Int)).toNat
     rw [Ah (by omega)]
     omega
 ·rw [show N-i=0 by omega]
  rfl
theorem tq:Sound Tryz.prog 99 jg:=
 Sound.Cu pQ (Ae Pz (Ae pq Ai)) mixed Tryz.func99 (by kernel_rfl) (by kernel_rfl) λx h=>Ae4 x.1 x.2.1 x.2.2.1 h
end Go.Proofs.YtfolipnappekaaaGreat

namespace Go.Proofs.YtfolipnappekaaaGreat
open Go.RowKit
abbrev vU:Type:=Nat×Nat×Int×List (List (Option (List Int)))×Nat×List (List (Option (List Int)))×Nat×List Int×Int×PUnit
abbrev PV:Type:=Nat×Int×List (List (Option (List Int)))×Nat×List (List (Option (List Int)))×Nat×List Int×Int×PUnit
abbrev PW:Type:=Nat×List (List (Option (List Int)))×Nat×List (List (Option (List Int)))×Nat×List Int×Int×PUnit
abbrev Gu (G:List (List (Option (List Int)))) (l:Int) (p:Option (List Int)) (T:List (List (Option (List Int)))) (y7:Bool) (n:Int):Prop:=0=0/\(G.getD (0+l.toNat) []).length=(G.getD (0+l.toNat) []).length/\(G.getD (0+l.toNat) []).length+(List.take 1 (List.drop 0 [p])).length<=Bh/\((0:Int)<=l/\l<(↑G.length:Int))/\0=0/\(G.getD (0+l.toNat) []++List.take 1 (List.drop 0 [p])).length=(G.getD (0+l.toNat) []++List.take 1 (List.drop 0 [p])).length/\0+l.toNat=0+l.toNat/\ [(0,G.length),(0,G.length),(0,G.length),(0,T.length)]= [(0,G.length),(0,G.length),(0,G.length),(0,T.length)]/\(l,p,l,p,y7,l,l,0+l.toNat,p,List.take 1 (List.drop 0 [p]),0+l.toNat,G.set (0+l.toNat) (G.getD (0+l.toNat) []++List.take 1 (List.drop 0 [p])),min G.length (0+l.toNat),T,T.length,n,())=(l,p,l,p,y7,l,l,0+l.toNat,p,List.take 1 (List.drop 0 [p]),0+l.toNat,G.set (0+l.toNat) (G.getD (0+l.toNat) []++List.take 1 (List.drop 0 [p])),min G.length (0+l.toNat),T,T.length,n,PUnit.unit)
theorem Aeo {m:Nat} (n:Int) (G T:List (List (Option (List Int)))) (l:Int) (p:Option (List Int)) (P:(Int×List (List (Option (List Int)))×List (List (Option (List Int)))×Unit)×Unit->Prop):(∃(y7:Bool),jg.fn ((n,List.take G.length (List.drop 0 G),List.take T.length (List.drop 0 T),()),l,p.getD [],())=some y7/\Br y7 ((0=0/\G.length=G.length)/\(0=0/\T.length=T.length)/\(Pw (m+1)).Ch (n,G,T,l,p,())<=G.length/\(Pw (m+1)).Ch (n,G,T,l,p,())<=T.length/\P ((n,G,T,()),())) (((0:Int)<=l/\l<(↑G.length:Int))/\0=0/\(G.getD (0+l.toNat) []).length=(G.getD (0+l.toNat) []).length/\(G.getD (0+l.toNat) []).length+(List.take 1 (List.drop 0 [p])).length<=Bh/\((0:Int)<=l/\l<(↑G.length:Int))/\0=0/\(G.getD (0+l.toNat) []++List.take 1 (List.drop 0 [p])).length=(G.getD (0+l.toNat) []++List.take 1 (List.drop 0 [p])).length/\0+l.toNat=0+l.toNat/\(((0:Int)<=l/\l<(↑T.length:Int))/\ ∃(y8:(List Int×PUnit)×PUnit),Rn.fn (T.getD (0+l.toNat) [],())=some y8/\0=0/\(List.take y8.1.1.length (List.drop 0 y8.1.1)).length=(List.take y8.1.1.length (List.drop 0 y8.1.1)).length/\0=0/\G.length=(G.set (0+l.toNat) (G.getD (0+l.toNat) []++List.take 1 (List.drop 0 [p]))).length/\0=0/\T.length=T.length/\Bk (λ(v9:PW) (k10:PW->Prop)=>Br (decide ((↑v9.2.2.2.2.2.1.length:Int)>(0:Int))) (((0:Int)<=l/\l<(↑v9.2.1.length:Int))/\0=0/\(List.take v9.2.2.2.2.2.1.length (List.drop 0 v9.2.2.2.2.2.1)).length=(List.take v9.2.2.2.2.2.1.length (List.drop 0 v9.2.2.2.2.2.1)).length/\0=0/\v9.2.1.length=v9.2.1.length/\0=0/\v9.2.2.2.1.length=v9.2.2.2.1.length/\Bk (λ(v11:vU) (k12:vU->Prop)=>Br (decide (v11.2.2.1<(↑(v9.2.1.getD (0+l.toNat) []).length:Int))) (((0:Int)<=v11.2.2.1/\v11.2.2.1<(↑(v11.2.2.2.1.getD v11.2.1 []).length:Int))/\((0:Int)<=(0:Int)/\(0:Int)<(↑v11.2.2.2.2.2.2.2.1.length:Int))/\ ∃(qg:Int),v11.2.2.2.2.2.2.2.1[0+Int.toNat (0:Int)]?=some qg/\ ∃(bx:Int),idx (((v11.2.2.2.1.getD v11.2.1 []).getD v11.2.2.1.toNat (none:Option (List Int))).getD []) qg=some bx/\((0:Int)<=bx/\bx<(↑(v11.2.2.2.2.2.1.getD v11.1 []).length:Int))/\Br ((v11.2.2.2.2.2.1.getD v11.1 []).getD bx.toNat (none:Option (List Int))).isNone (((0:Int)<=(0:Int)/\(0:Int)<(↑v11.2.2.2.2.2.2.2.1.length:Int))/\ ∃(qh:Int),v11.2.2.2.2.2.2.2.1[0+Int.toNat (0:Int)]?=some qh/\((0:Int)<=qh/\qh<(↑(v11.2.2.2.2.2.1.getD v11.1 []).length:Int))/\ ∃(wA:Option (List Int)),Fg.fn (((v11.2.2.2.2.2.1.getD v11.1 []).getD qh.toNat (none:Option (List Int))).getD [],((v11.2.2.2.1.getD v11.2.1 []).getD v11.2.2.1.toNat (none:Option (List Int))).getD [],())=some wA/\((0:Int)<=bx/\bx<(↑(v11.2.2.2.2.2.1.getD v11.1 []).length:Int))/\0=0/\v11.2.2.2.2.2.2.2.1.length=v11.2.2.2.2.2.2.2.1.length/\v11.2.2.2.2.2.2.2.1.length+(List.take 1 (List.drop 0 [bx])).length<=Bh/\0=0/\(List.take (v11.2.2.2.2.2.2.2.1++List.take 1 (List.drop 0 [bx])).length (List.drop 0 (v11.2.2.2.2.2.2.2.1++List.take 1 (List.drop 0 [bx])))).length=(List.take (v11.2.2.2.2.2.2.2.1++List.take 1 (List.drop 0 [bx])).length (List.drop 0 (v11.2.2.2.2.2.2.2.1++List.take 1 (List.drop 0 [bx])))).length/\0=0/\v11.2.2.2.1.length=v11.2.2.2.1.length/\0=0/\v11.2.2.2.2.2.1.length=(v11.2.2.2.2.2.1.set v11.1 ((v11.2.2.2.2.2.1.getD v11.1 []).set bx.toNat wA)).length/\k12 (v11.1,v11.2.1,IntKind.i64.wrap (v11.2.2.1+(1:Int)),v11.2.2.2.1,v11.2.2.2.2.1,v11.2.2.2.2.2.1.set v11.1 ((v11.2.2.2.2.2.1.getD v11.1 []).set bx.toNat wA),v11.2.2.2.2.2.2.1,List.take (v11.2.2.2.2.2.2.2.1++List.take 1 (List.drop 0 [bx])).length (List.drop 0 (v11.2.2.2.2.2.2.2.1++List.take 1 (List.drop 0 [bx]))),v11.2.2.2.2.2.2.2.2.1,())) (0=0/\(List.take v11.2.2.2.2.2.2.2.1.length (List.drop 0 v11.2.2.2.2.2.2.2.1)).length=(List.take v11.2.2.2.2.2.2.2.1.length (List.drop 0 v11.2.2.2.2.2.2.2.1)).length/\0=0/\v11.2.2.2.1.length=v11.2.2.2.1.length/\0=0/\v11.2.2.2.2.2.1.length=v11.2.2.2.2.2.1.length/\k12 (v11.1,v11.2.1,IntKind.i64.wrap (v11.2.2.1+(1:Int)),v11.2.2.2.1,v11.2.2.2.2.1,v11.2.2.2.2.2.1,v11.2.2.2.2.2.2.1,List.take v11.2.2.2.2.2.2.2.1.length (List.drop 0 v11.2.2.2.2.2.2.2.1),v11.2.2.2.2.2.2.2.2.1,()))) (((0:Int)<=(1:Int)/\(1:Int)<=(↑v11.2.2.2.2.2.2.2.1.length:Int)/\(↑v11.2.2.2.2.2.2.2.1.length:Int)<=(↑v11.2.2.2.2.2.2.2.1.length:Int))/\0=0/\(List.take ((↑v11.2.2.2.2.2.2.2.1.length:Int).toNat-Int.toNat (1:Int)) (List.drop (0+Int.toNat (1:Int)) v11.2.2.2.2.2.2.2.1)).length=(List.take ((↑v11.2.2.2.2.2.2.2.1.length:Int).toNat-Int.toNat (1:Int)) (List.drop (0+Int.toNat (1:Int)) v11.2.2.2.2.2.2.2.1)).length/\0=0/\v11.2.2.2.1.length=v11.2.2.2.1.length/\0=0/\v11.2.2.2.2.2.1.length=v11.2.2.2.2.2.1.length/\k10 (v11.1,v11.2.2.2.1,v11.2.2.2.2.1,v11.2.2.2.2.2.1,v11.2.2.2.2.2.2.1,List.take ((↑v11.2.2.2.2.2.2.2.1.length:Int).toNat-Int.toNat (1:Int)) (List.drop (0+Int.toNat (1:Int)) v11.2.2.2.2.2.2.2.1),v11.2.2.2.2.2.2.2.2.1,()))) (v9.1,0+l.toNat,(0:Int),v9.2.1,v9.2.2.1,v9.2.2.2.1,v9.2.2.2.2.1,List.take v9.2.2.2.2.2.1.length (List.drop 0 v9.2.2.2.2.2.1),v9.2.2.2.2.2.2.1,PUnit.unit)) (∃(m5:(List Int×PUnit)×PUnit),Rn.fn (v9.2.2.2.1.getD v9.1 [],())=some m5/\0=0/\m5.1.1.length=m5.1.1.length/\0=0/\v9.2.1.length=v9.2.1.length/\0=0/\v9.2.2.2.1.length=v9.2.2.2.1.length/\Bk (λ(Jb:PV) (k13:PV->Prop)=>Br (decide (Jb.2.1<(↑m5.1.1.length:Int))) (((0:Int)<=Jb.2.1/\Jb.2.1<(↑Jb.2.2.2.2.2.2.1.length:Int))/\ ∃(bx:Int),Jb.2.2.2.2.2.2.1[0+Jb.2.1.toNat]?=some bx/\((0:Int)<=l/\l<(↑Jb.2.2.1.length:Int))/\0=0/\Jb.2.2.2.2.2.2.1.length=Jb.2.2.2.2.2.2.1.length/\0=0/\Jb.2.2.1.length=Jb.2.2.1.length/\0=0/\Jb.2.2.2.2.1.length=Jb.2.2.2.2.1.length/\Bk (λ(Lj:vU) (k16:vU->Prop)=>Br (decide (Lj.2.2.1<(↑(Jb.2.2.1.getD (0+l.toNat) []).length:Int))) (((0:Int)<=Lj.2.2.1/\Lj.2.2.1<(↑(Lj.2.2.2.1.getD Lj.2.1 []).length:Int))/\((0:Int)<=bx/\bx<(↑(Lj.2.2.2.2.2.1.getD Lj.1 []).length:Int))/\ ∃(RO:Option (List Int)),Fg.fn (((Lj.2.2.2.2.2.1.getD Lj.1 []).getD bx.toNat (none:Option (List Int))).getD [],((Lj.2.2.2.1.getD Lj.2.1 []).getD Lj.2.2.1.toNat (none:Option (List Int))).getD [],())=some RO/\ ∃(KX:Int),idx (((Lj.2.2.2.1.getD Lj.2.1 []).getD Lj.2.2.1.toNat (none:Option (List Int))).getD []) bx=some KX/\((0:Int)<=KX/\KX<(↑(Lj.2.2.2.2.2.1.getD Lj.1 []).length:Int))/\ ∃(y19:List Int),Cn.fn (((Lj.2.2.2.2.2.1.getD Lj.1 []).getD KX.toNat (none:Option (List Int))).getD [],())=some y19/\ ∃(QW:Option (List Int)),Fg.fn (RO.getD [],y19,())=some QW/\0=0/\Lj.2.2.2.1.length=Lj.2.2.2.1.length/\0=0/\Lj.2.2.2.2.2.1.length=Lj.2.2.2.2.2.1.length/\ ∃(zG:(Int×List (List (Option (List Int)))×List (List (Option (List Int)))×PUnit)×PUnit),(Pw m).fn (Lj.2.2.2.2.2.2.2.2.1,Lj.2.2.2.1,Lj.2.2.2.2.2.1,IntKind.i64.wrap (l+(1:Int)),QW,())=some zG/\(Lj.1<(Pw m).Ch (Lj.2.2.2.2.2.2.2.2.1,Lj.2.2.2.1,Lj.2.2.2.2.2.1,IntKind.i64.wrap (l+(1:Int)),QW,())/\Lj.1<(List.length zG.1.2.2.1))/\(Lj.2.1<(Pw m).Ch (Lj.2.2.2.2.2.2.2.2.1,Lj.2.2.2.1,Lj.2.2.2.2.2.1,IntKind.i64.wrap (l+(1:Int)),QW,())/\Lj.2.1<(List.length zG.1.2.1))/\(Lj.1<(Pw m).Ch (Lj.2.2.2.2.2.2.2.2.1,Lj.2.2.2.1,Lj.2.2.2.2.2.1,IntKind.i64.wrap (l+(1:Int)),QW,())/\Lj.1<(List.length zG.1.2.2.1))/\(Lj.1<(Pw m).Ch (Lj.2.2.2.2.2.2.2.2.1,Lj.2.2.2.1,Lj.2.2.2.2.2.1,IntKind.i64.wrap (l+(1:Int)),QW,())/\Lj.1<(List.length zG.1.2.2.1))/\0=0/\Lj.2.2.2.2.2.2.2.1.length=Lj.2.2.2.2.2.2.2.1.length/\0=0/\zG.1.2.1.length=zG.1.2.1.length/\0=0/\zG.1.2.2.1.length=zG.1.2.2.1.length/\k16 (Lj.1,Lj.2.1,IntKind.i64.wrap (Lj.2.2.1+(1:Int)),zG.1.2.1,min Lj.2.2.2.2.1 ((Pw m).Ch (Lj.2.2.2.2.2.2.2.2.1,Lj.2.2.2.1,Lj.2.2.2.2.2.1,IntKind.i64.wrap (l+(1:Int)),QW,())),zG.1.2.2.1,min Lj.2.2.2.2.2.2.1 ((Pw m).Ch (Lj.2.2.2.2.2.2.2.2.1,Lj.2.2.2.1,Lj.2.2.2.2.2.1,IntKind.i64.wrap (l+(1:Int)),QW,())),Lj.2.2.2.2.2.2.2.1,zG.1.1,())) (0=0/\Lj.2.2.2.2.2.2.2.1.length=Lj.2.2.2.2.2.2.2.1.length/\0=0/\Lj.2.2.2.1.length=Lj.2.2.2.1.length/\0=0/\Lj.2.2.2.2.2.1.length=Lj.2.2.2.2.2.1.length/\k13 (Lj.1,IntKind.i64.wrap (Jb.2.1+(1:Int)),Lj.2.2.2.1,Lj.2.2.2.2.1,Lj.2.2.2.2.2.1,Lj.2.2.2.2.2.2.1,Lj.2.2.2.2.2.2.2.1,Lj.2.2.2.2.2.2.2.2.1,()))) (Jb.1,0+l.toNat,(0:Int),Jb.2.2.1,Jb.2.2.2.1,Jb.2.2.2.2.1,Jb.2.2.2.2.2.1,Jb.2.2.2.2.2.2.1,Jb.2.2.2.2.2.2.2.1,PUnit.unit)) ((0=0/\Jb.2.2.1.length=Jb.2.2.1.length)/\(0=0/\Jb.2.2.2.2.1.length=Jb.2.2.2.2.1.length)/\(Pw (m+1)).Ch (n,G,T,l,p,())<=Jb.2.2.2.1/\(Pw (m+1)).Ch (n,G,T,l,p,())<=Jb.2.2.2.2.2.1/\P ((Jb.2.2.2.2.2.2.2.1,Jb.2.2.1,Jb.2.2.2.2.1,()),()))) (v9.1,(0:Int),v9.2.1,v9.2.2.1,v9.2.2.2.1,v9.2.2.2.2.1,m5.1.1,v9.2.2.2.2.2.2.1,PUnit.unit))) (0+l.toNat,G.set (0+l.toNat) (G.getD (0+l.toNat) []++List.take 1 (List.drop 0 [p])),min G.length (0+l.toNat),T,T.length,List.take y8.1.1.length (List.drop 0 y8.1.1),n,PUnit.unit))/\(((((0:Int)<=l/\l<(↑G.length:Int))/\((Gu G l p T y7 n))/\(Gu G l p T y7 n))/\((0:Int)<=l/\l<(↑G.length:Int))/\(Gu G l p T y7 n))/\((0:Int)<=l/\l<(↑G.length:Int))/\(Gu G l p T y7 n))/\(((((0:Int)<=l/\l<(↑G.length:Int))/\((Gu G l p T y7 n))/\(Gu G l p T y7 n))/\((0:Int)<=l/\l<(↑G.length:Int))/\(Gu G l p T y7 n))/\(((0:Int)<=l/\l<(↑G.length:Int))/\(((Gu G l p T y7 n))/\(Gu G l p T y7 n))/\(((Gu G l p T y7 n))/\((Gu G l p T y7 n))/\(Gu G l p T y7 n))/\((Gu G l p T y7 n))/\((Gu G l p T y7 n))/\(Gu G l p T y7 n))/\(((0:Int)<=l/\l<(↑G.length:Int))/\(Gu G l p T y7 n))/\((0:Int)<=l/\l<(↑G.length:Int))/\((Gu G l p T y7 n))/\((Gu G l p T y7 n))/\(Gu G l p T y7 n))/\(((0:Int)<=l/\l<(↑G.length:Int))/\(Gu G l p T y7 n))/\(((0:Int)<=l/\l<(↑G.length:Int))/\(Gu G l p T y7 n))/\((0:Int)<=l/\l<(↑G.length:Int))/\((Gu G l p T y7 n))/\((Gu G l p T y7 n))/\(Gu G l p T y7 n)))=fnMW (PZ [Lw+7]) (look [(99,jg),(147,Rn),(121,Fg),(56,Cn),(130,Mn.m (Pw m))]) (Pw (m+1)) Tryz.f130 (n,G,T,l,p,()) P:=by kernel_rfl
theorem wJ {k l:Nat} {p:List Int} {s:Ax×Ax} (h:Ee s.2 k l p=true):Du k l p s=s:=by
 cases k with
 |zero=>rfl
 |succ k=>unfold Du;rw [if_pos h]
theorem wI (k l:Nat) (p:List Int) (s:Ax×Ax):Du (k+1) l p s=if Ee s.2 (k+1) l p=true then s else
   (bO (Sf (s.1.getD l []++ [some p]) (s.2.getD l [])) (s.1.getD l []++ [some p])).foldl (λs q=>Du k (l+1) q s)
    (s.1.set l (s.1.getD l []++ [some p]),s.2.set l (Sf (s.1.getD l []++ [some p]) (s.2.getD l []))):=rfl
theorem uj {n:Nat} {p:List Int} (h:Pm n p) {i:Nat} (hi:i<n):idx p (i:Int)=some (ap p i:Int):=by
 have mV:i<p.length:=by rw [h.1];exact hi
 rw [Ap mV,<-(h.Ue hi).1,Hu mV]
theorem zO {x:Int} {gs:List PO} {j:Nat} (hj:j<gs.length) (s:Row×List Int):Tv x (gs.take (j+1)) s=Ug x (Tv x (gs.take j) s) gs[j]:=by
 unfold Tv
 rw [List.take_add_one,List.getElem?_eq_getElem hj,Option.toList_some,List.foldl_append]
 rfl
theorem zP {gs:List PO} {f:Nat} {row:Row} :Tj gs f [] row=row:=by cases f<;>rfl
theorem Ql {n:Nat} {p:List Int} (h:Pm n p):0<p.length/\p.length<=20:=⟨by rw [h.1];exact h.n1,by rw [h.1];exact h.n2⟩
theorem kG {n:Nat} {p q:List Int} (h:Pm n p) (k:Pm n q):Hw q.length p:=by rw [k.1];exact h.row
theorem Ae0 {m:Nat} (n:Int) (G T:List (List (Option (List Int)))) (l:Int) (p:Option (List Int)) (h:(∃N L q,p=some q/\Pd N L n G T l q)/\(n-l).toNat<m+1):
  fnMW (PZ [Lw+7]) (look [(99,jg),(147,Rn),(121,Fg),(56,Cn),(130,Mn.m (Pw m))]) (Pw (m+1)) Tryz.f130 (n,G,T,l,p,()) (λ(z:(Int×List (List (Option (List Int)))×List (List (Option (List Int)))×Unit)×Unit)=>z=((n,(Du (n-l).toNat l.toNat (p.getD []) (G,T)).1,(Du (n-l).toNat l.toNat (p.getD []) (G,T)).2,()),())):=by
 obtain ⟨⟨N,L,q,rfl,h⟩,hm⟩:=h
 have h':=h
 obtain ⟨n1,n2,en,el,hle,v,pm,fx⟩:=h
 subst en el
 have hk:((N:Int)-(L:Int)).toNat=N-L:=by omega
 rw [hk,Int.toNat_natCast]
 refine Eq.mp (Aeo (N:Int) G T (L:Int) (some q) _) ⟨_,if_pos ⟨N,L,?a⟩,?b⟩
 case a=>
  simp only [List.drop_zero,List.take_length,Option.getD_some]
  exact h'
 obtain ⟨v1,v2,v3,v4⟩:=v
 dsimp only at v1 v2
 have hw:IntKind.i64.wrap ((L:Int)+1)=((L+1:Nat):Int):=Ah (by omega)
 simp only [Gu]
 simp only [List.drop_zero,List.take_length,Option.getD_some,hk,Int.toNat_natCast,Nat.zero_add,eq_self,true_and,and_true,List.take_succ_cons,List.take_zero,List.length_cons,List.length_nil,List.length_set,hw]
 refine Br.of (λhh=>⟨by show Int.toNat (L:Int)<=G.length;omega,by show Int.toNat (L:Int)<=T.length;omega,?_⟩) λhh=>?_
 ·rw [wJ (s:=(G,T)) hh]
 obtain ⟨k,hNk⟩: ∃k,N-L=k+1:=by
  cases e:N-L with
  |zero=>rw [e] at hh;simp [Ee] at hh
  |succ k=>exact ⟨k,rfl⟩
 have hLN:L<N:=by omega
 have hv:V N (k+1) L (G,T):=by rw [<-hNk];exact ⟨v1,v2,v3,v4⟩
 rw [hNk] at hh⊢
 have e1:(0:Int)<=(L:Int)/\(L:Int)<(G.length:Int):=by omega
 have e1':(0:Int)<=(L:Int)/\(L:Int)<(T.length:Int):=by omega
 have hgl:(G.getD L []).length<=400:=FH n2 (by omega) hv
 have e2:(G.getD L []).length+1<=Bh:=by show _<=4294967296;omega
 simp only [e1,e1',e2,and_self,true_and,and_true]
 generalize iL:G.getD L []++ [some q]=gs
 have Amt:gs.length<=401:=by rw [<-iL,List.length_append,List.length_singleton];omega
 have hg:PG N L gs:=by rw [<-iL];exact hv.pg pm fx
 have YW:Og N L gs (T.getD L []):=by rw [<-iL];exact hv.Aje q
 obtain ⟨r1,r2,r3⟩:=yo hLN n2 hg YW
 generalize hR:Sf gs (T.getD L [])=R at r1 r2 r3
 have og:Du (k+1) L q (G,T)=(bO R gs).foldl (λs q=>Du k (L+1) q s) (G.set L gs,T.set L R):=by
  rw [wI,if_neg (by rw [hh];simp)]
  dsimp only
  rw [iL,hR]
 rw [og]
 have hTl:L<T.length:=by omega
 have hGl:L<G.length:=by omega
 have XN:(G.set L gs).getD L []=gs:=Ym G L hGl gs
 have hT1: ∀row:Row,(T.set L row).getD L []=row:=Ym T L hTl
 refine ⟨_,if_pos (by show (T.getD L []).length<=20;rw [YW.rl];exact n2),?_⟩
 dsimp only
 have hn0:(Om (T.getD L [])).length+Hj (T.getD L [])<=40:=by have:=uM (T.getD L []);have:=dh (T.getD L []);have:=YW.rl;omega
 have hq0:GQ gs (Om (T.getD L [])) (T.getD L []):=⟨λy hy=>Uo.1 hy,λy hy=> .inl (Uo.2 ⟨y,rfl,hy⟩)⟩
 refine ⟨λv=> ∃(row:Row) (qu:List Int) (kg kt:Nat),v=(L,G.set L gs,kg,T.set L row,kt,qu,(N:Int),())/\L<=kg/\L<=kt/\qu.length+Hj row<=40/\Og N L gs row/\GQ gs qu row/\Tj gs (qu.length+Hj row) qu row=R,
  fun v=>v.2.2.2.2.2.1.length+Hj (v.2.2.2.1.getD v.1 []),⟨T.getD L [],Om (T.getD L []),min G.length L,T.length,?_,by omega,by omega,hn0,YW,hq0,?_⟩,?_⟩
 ·rw [r9 T L hTl]
 ·rw [<-wT hLN hg 100 _ _ (by omega) YW hq0];exact hR
 rintro v ⟨row,qu,kg,kt,rfl,YH,RG,hb,MZ,hqi,MI⟩
 dsimp only
 simp only [XN,hT1,List.length_set]
 refine Br.dec (λhl=>⟨e1.2,?_⟩) λhl=>?_
 ·cases qu with
  |nil=>simp at hl
  |cons x qu=>
  obtain ⟨p1,p2,xn,t,rfl,ht⟩:=CP hLN hg MZ hqi
  have RM:xn<N:=by rw [<-MZ.rl];exact iH ht
  refine Ag gs.length (λv=>v.2.2.1) (λj v=> ∃kg kt:Nat,v=(L,L,(j:Int),G.set L gs,kg,T.set L (Tv (xn:Int) (gs.take j) (row,qu)).1,kt,(xn:Int)::(Tv (xn:Int) (gs.take j) (row,qu)).2,(N:Int),())/\L<=kg/\L<=kt) rfl ⟨kg,kt,rfl,YH,RG⟩ ?_
  rintro j v K hj hi ⟨kg,kt,rfl,h1,h2⟩ hK
  dsimp only
  simp only [XN,hT1,Int.toNat_natCast]
  refine Br.dec (λhl=>?_) λhl=>?_
  ·have hl:j<gs.length:=by omega
   obtain ⟨x1,x2⟩:=OW hLN hg (gs.take j) (q:=qu) (λo ho=>List.mem_of_mem_take ho) MZ ht
   have Tx:=zO (x:=(xn:Int)) hl (row,qu)
   generalize Tv (xn:Int) (gs.take j) (row,qu)=s at x1 x2 Tx⊢
   obtain ⟨r,qq⟩:=s
   dsimp only at x1 x2⊢
   obtain ⟨g,jH,Ng,VL⟩:=hg gs[j] (List.getElem_mem hl)
   have htx:r.getD xn none=some t:=x1.mono _ _ ht
   obtain ⟨t1,t2,t3,t4⟩:=x1.ok.rt _ _ htx
   have VZ:r.length=N:=x1.ok.rl
   have hgj:gs.getD j none=some g:=by rw [xl hl];exact jH
   have hy:=Ng.lt RM
   have hga:=(Ng.Ue RM).1
   have SQ:qq.length+Hj r=qu.length+Hj row:=x1.phi
   simp only [List.length_cons] at hb
   simp only [hgj,Option.getD_some]
   refine ⟨⟨by omega,by omega⟩,⟨by omega,by simp only [List.length_cons];omega⟩,_,rfl,_,uj Ng RM,⟨by omega,by omega⟩,?_⟩
   rw [jH] at Tx
   unfold Ug at Tx
   dsimp only at Tx
   rw [Option.getD_some,hga,Int.toNat_natCast,Int.toNat_natCast,htx,Option.getD_some] at Tx
   rw [Int.toNat_natCast]
   refine Br.of (λhn=>?_) λhn=>?_
   ·have hn:r.getD (ap g xn) none=none:=by
     cases e:r.getD (ap g xn) none with
     |none=>rfl
     |some u=>rw [e] at hn;simp at hn
    rw [hn] at Tx
    refine ⟨⟨by omega,by simp only [List.length_cons];omega⟩,_,rfl,⟨by omega,by omega⟩,some (Aa t g),?_,⟨by omega,by omega⟩,?_,?_⟩
    ·rw [Int.toNat_natCast,htx,Option.getD_some]
     exact if_pos ⟨Ql t1,kG t1 Ng⟩
    ·show qq.length+1+1<=4294967296
     omega
    ·rw [Ah (by omega)]
     refine hK hl _ rfl ⟨kg,kt,?_,h1,h2⟩
     rw [Tx,List.set_set]
     rfl
   ·have hn: ∃u,r.getD (ap g xn) none=some u:=by
     cases e:r.getD (ap g xn) none with
     |none=>rw [e] at hn;simp at hn
     |some u=>exact ⟨u,rfl⟩
    obtain ⟨u,hn⟩:=hn
    rw [hn] at Tx
    rw [Ah (by omega)]
    refine hK hl _ rfl ⟨kg,kt,?_,h1,h2⟩
    rw [Tx]
  ·have:j=gs.length:=by omega
   subst this
   rw [List.take_length]
   generalize hs:Tv (xn:Int) gs (row,qu)=s at p1 p2⊢
   obtain ⟨r,qq⟩:=s
   dsimp only at p1 p2⊢
   have SQ:qq.length+Hj r=qu.length+Hj row:=p1.phi
   simp only [List.length_cons] at hb MI
   refine ⟨⟨by omega,by simp only [List.length_cons];omega,Int.le_refl _⟩,⟨r,qq,kg,kt,?_,h1,h2,by omega,p1.ok,p2,?_⟩,?_⟩
   ·simp
   ·rw [show qu.length+1+Hj row=(qu.length+Hj row)+1 by omega] at MI
    simp only [Tj,hs] at MI
    rw [SQ]
    exact MI
   ·simp only [List.length_cons]
    have:(List.take (qq.length+1-Int.toNat 1) (List.drop (Int.toNat 1) ((xn:Int)::qq))).length=qq.length:=by simp
    rw [this]
    omega
 ·have:qu= []:=List.eq_nil_of_length_eq_zero (by omega)
  subst this
  rw [zP] at MI
  subst MI
  have hpr:=OU hLN hg MZ r3
  have hvl:=hv.lower gs row
  have VK: ∀qs:List (List Int),(∀q∈qs,q∈bO row gs)->V N k (L+1) (qs.foldl (λs q=>Du k (L+1) q s) (G.set L gs,T.set L row))/\Pf (L+1) (G.set L gs,T.set L row) (qs.foldl (λs q=>Du k (L+1) q s) (G.set L gs,T.set L row)):=
   fun qs HR=>FD n1 n2 (by omega) qs _ (λq hq=>hpr q (HR q hq)) hvl
  refine ⟨_,if_pos (by show row.length<=20;rw [MZ.rl];exact n2),?_⟩
  dsimp only
  have hol:=uM row
  have VZ:=MZ.rl
  refine Ag (Om row).length (λv=>v.2.1) (λi v=> ∃(s:Ax×Ax) (kg kt:Nat),v=(L,(i:Int),s.1,kg,s.2,kt,Om row,(N:Int),())/\L<=kg/\L<=kt/\s=(((Om row).take i).flatMap λy=>gs.map (Nm row y)).foldl (λs q=>Du k (L+1) q s) (G.set L gs,T.set L row)) rfl ⟨_,kg,kt,rfl,YH,RG,rfl⟩ ?_
  rintro i v K hi mV ⟨s,kg,kt,rfl,h1,h2,hs⟩ hK
  dsimp only
  have Kh: ∀q∈((Om row).take i).flatMap (λy=>gs.map (Nm row y)),q∈bO row gs:= λq hq=>by
   obtain ⟨y,hy,hq⟩:=List.mem_flatMap.1 hq
   exact List.mem_flatMap.2 ⟨y,List.mem_of_mem_take hy,hq⟩
  refine Br.dec (λhl=>?_) λhl=>?_
  ·have hl:i<(Om row).length:=by omega
   obtain ⟨f1,f2⟩:=VK _ Kh
   rw [<-hs] at f1 f2
   have g1:s.1.getD L []=gs:=by rw [(f2.low L (by omega)).1];exact XN
   have g2:s.1.length=N:=f1.1
   obtain ⟨yn,hyn,hyr⟩:=Uo.1 (List.getElem_mem hl)
   obtain ⟨t,ht⟩:=Option.ne_none_iff_exists'.1 hyr
   have hyN:yn<N:=by rw [<-VZ];exact iH ht
   obtain ⟨t1,t2,t3,t4⟩:=MZ.rt _ _ ht
   refine ⟨⟨by omega,by omega⟩,(yn:Int),by rw [Int.toNat_natCast,List.getElem?_eq_getElem hl,hyn],by omega,?_⟩
   rw [g1]
   refine Ag gs.length (λv=>v.2.2.1) (λj v=> ∃(s':Ax×Ax) (kg kt:Nat),v=(L,L,(j:Int),s'.1,kg,s'.2,kt,Om row,(N:Int),())/\L<=kg/\L<=kt/\s'=(((Om row).take i).flatMap (λy=>gs.map (Nm row y))++(gs.take j).map (Nm row (yn:Int))).foldl (λs q=>Du k (L+1) q s) (G.set L gs,T.set L row)) rfl ⟨s,kg,kt,rfl,h1,h2,by simpa using hs⟩ ?_
   rintro j v K' hj mg ⟨s',kg,kt,rfl,h1,h2,xA⟩ SC
   dsimp only
   refine Br.dec (λGe=>?_) λGe=>?_
   ·have Ge:j<gs.length:=by omega
    have FU: ∀q∈((Om row).take i).flatMap (λy=>gs.map (Nm row y))++(gs.take j).map (Nm row (yn:Int)),q∈bO row gs:= λq hq=>by
     rcases List.mem_append.1 hq with hq|hq
     ·exact Kh q hq
     ·obtain ⟨o,ho,rfl⟩:=List.mem_map.1 hq
      exact List.mem_flatMap.2 ⟨(yn:Int),Uo.2 ⟨yn,rfl,hyr⟩,List.mem_map.2 ⟨o,List.mem_of_mem_take ho,rfl⟩⟩
    obtain ⟨f1',f2'⟩:=VK _ FU
    rw [<-xA] at f1' f2'
    obtain ⟨G',T'⟩:=s'
    dsimp only at f1' f2'⊢
    have g1':G'.getD L []=gs:=by have:=(f2'.low L (by omega)).1;dsimp only at this;rw [this];exact XN
    have g3':T'.getD L []=row:=by have:=(f2'.low L (by omega)).2;dsimp only at this;rw [this];exact hT1 row
    have g4':G'.length=N:=f1'.1
    have g5':T'.length=N:=f1'.2.1
    obtain ⟨g,jH,Ng,VL⟩:=hg gs[j] (List.getElem_mem Ge)
    have hgj:gs.getD j none=some g:=by rw [xl Ge];exact jH
    have sw:some g∈gs:=by rw [<-jH];exact List.getElem_mem Ge
    have hy:=Ng.lt hyN
    obtain ⟨t',sy⟩:=Option.ne_none_iff_exists'.1 (r3 yn t g ht sw)
    obtain ⟨u1,u2,u3,u4⟩:=MZ.rt _ _ sy
    have Adc:Nm row (yn:Int) gs[j]=Aa (Aa t g) (Af t'):=by rw [jH];exact dG ht sy
    have VV:=hpr _ (List.mem_flatMap.2 ⟨(yn:Int),Uo.2 ⟨yn,rfl,hyr⟩,List.mem_map.2 ⟨gs[j],List.getElem_mem Ge,Adc⟩⟩)
    simp only [g1',g3',Int.toNat_natCast,hgj,ht,Option.getD_some]
    have oa:L<Int.toNat ((L+1:Nat):Int):=by omega
    have MH:=tG n1 n2 k (L+1) _ (G',T') (by omega) f1' VV.1 VV.2
    have Aka:((Du k (L+1) (Aa (Aa t g) (Af t')) (G',T')).1).length=N:=MH.v.1
    have Akb:((Du k (L+1) (Aa (Aa t g) (Af t')) (G',T')).2).length=N:=MH.v.2.1
    have RF:((N:Int)-((L+1:Nat):Int)).toNat=k:=by omega
    refine ⟨⟨by omega,by omega⟩,⟨by omega,by omega⟩,some (Aa t g),if_pos ⟨Ql t1,kG t1 Ng⟩,_,uj Ng hyN,⟨by omega,by omega⟩,Af t',?_,some (Aa (Aa t g) (Af t')),?_,_,if_pos ⟨⟨N,L+1,_,rfl,?pr⟩,?lt⟩,⟨oa,?k1⟩,⟨oa,?k2⟩,⟨oa,?k3⟩,⟨oa,?k4⟩,?go⟩
    case pr=>exact ⟨n1,n2,rfl,rfl,by omega,by rw [show N-(L+1)=k by omega];exact f1',VV.1,VV.2⟩
    case lt=>
     show ((N:Int)-((L+1:Nat):Int)).toNat<m
     omega
    case go=>
     dsimp only
     rw [Ah (by omega)]
     refine SC Ge _ rfl ⟨_,_,_,rfl,?_,?_,?_⟩
     ·show L<=min kg (Int.toNat ((L+1:Nat):Int));omega
     ·show L<=min kt (Int.toNat ((L+1:Nat):Int));omega
     ·rw [List.take_add_one,List.getElem?_eq_getElem Ge,Option.toList_some,List.map_append,<-List.append_assoc,List.foldl_append,<-xA]
      simp only [List.map_cons,List.map_nil,List.foldl_cons,List.foldl_nil,Adc,RF,Int.toNat_natCast,Option.getD_some]
    case k1=>simp only [RF,Int.toNat_natCast,Option.getD_some];omega
    case k2=>simp only [RF,Int.toNat_natCast,Option.getD_some];omega
    case k3=>simp only [RF,Int.toNat_natCast,Option.getD_some];omega
    case k4=>simp only [RF,Int.toNat_natCast,Option.getD_some];omega
    ·rw [Int.toNat_natCast,sy,Option.getD_some]
     exact if_pos ⟨by show t'.length<=20;rw [u1.1];exact n2,u1.2.row⟩
    ·exact if_pos ⟨Ql (t1.comp Ng),kG (t1.comp Ng) u1.inv⟩
   ·have:j=gs.length:=by omega
    subst this
    rw [Ah (by omega)]
    refine hK hl _ rfl ⟨s',kg,kt,rfl,h1,h2,?_⟩
    rw [xA,List.take_length,List.take_add_one,List.getElem?_eq_getElem hl,Option.toList_some,List.flatMap_append,hyn]
    simp
  ·have:i=(Om row).length:=by omega
   subst this
   rw [List.take_length] at hs
   refine ⟨h1,h2,?_⟩
   rw [hs]
   rfl
theorem PM {m:Nat} (ZM:Au Tryz.prog 130 (Pw m)):Au Tryz.prog 130 (Pw (m+1)):=
 Au.hY (TZ [Lw+7]) (Ae tq (Cr rm (Ae pt (Ae Pz (Cr ZM Ai))))) mixed Tryz.func130 (by kernel_rfl) (by kernel_rfl) λx h=>Ae0 x.1 x.2.1 x.2.2.1 x.2.2.2.1 x.2.2.2.2.1 h
theorem DF:Au Tryz.prog 130 (Pw 0):=
 Au.hY pQ Ai mixed Tryz.func130 (by kernel_rfl) (by kernel_rfl) λ_ h=>absurd h.2 (Nat.not_lt_zero _)
theorem pk: ∀m,Au Tryz.prog 130 (Pw m)
 |0=>DF
 |m+1=>PM (pk m)
noncomputable abbrev vr:MSpec:=hY WG (λx=> ∃N L q,x.2.2.2.2.1=some q/\Pd N L x.1 x.2.1 x.2.2.1 x.2.2.2.1 q)
 (λx=>((x.1,(Du (x.1-x.2.2.2.1).toNat x.2.2.2.1.toNat (x.2.2.2.2.1.getD []) (x.2.1,x.2.2.1)).1,(Du (x.1-x.2.2.2.1).toNat x.2.2.2.1.toNat (x.2.2.2.2.1.getD []) (x.2.1,x.2.2.1)).2,()),()))
theorem DG:Au Tryz.prog 130 vr:=Au.WK (λx=>(x.1-x.2.2.2.1).toNat) pk
end Go.Proofs.YtfolipnappekaaaGreat

namespace Go.Proofs.YtfolipnappekaaaGreat
open Go.RowKit
def Na (n:Nat):Ax:=List.replicate n []
def Wr (n i:Nat):Row:=(List.replicate n none).set i (some (upto n))
def Rw (n:Nat):Ax:=(List.range n).map λi=>Wr n i
def Nv (n:Nat) (gens:List PO):Ax×Ax:=gens.foldl (λs o=>Du n 0 (o.getD []) s) (Na n,Rw n)
noncomputable abbrev BF:MSpec:= {Fk:= [none,none],ins:= [(false, .Dh tI),(false, .Dh TW)],Dn:=false,Ek:= [none,none,none],outs:= [.Dh tI, .Aj tO qf false, .Aj tO qf false],fn:= λ_=>none,rp:=some 141}
noncomputable abbrev dF:MSpec:=hY BF (λx=>(1<=x.1/\x.1<=20)/\List.length x.2.1<=4294967296/\ ∀o∈(x.2.1:List PO),∃g,o=some g/\Pm x.1.toNat g)
 (λx=>((x.1,(Nv x.1.toNat x.2.1).1,(Nv x.1.toNat x.2.1).2,()),()))
abbrev Ut:Type:=Int×List (List (Option (List Int)))×Int×List (List (Option (List Int)))×PUnit
theorem zo (n:Int) (gens:List (Option (List Int))) (P:(Int×List (List (Option (List Int)))×List (List (Option (List Int)))×Unit)×Unit->Prop):(((0:Int)<=n/\n<(↑Bh:Int)+(1:Int))/\n=n/\0=0/\(List.replicate n.toNat ([]:List (Option (List Int)))).length=(List.replicate n.toNat ([]:List (Option (List Int)))).length/\0=0/\0=([]:List Int).length/\Bk (λ(v3:Ut) (k4:Ut->Prop)=>Br (decide (v3.1<n)) (((0:Int)<=n/\n<(↑Bh:Int)+(1:Int))/\n=n/\ ∃(y5:Option (List Int)),Kc.fn (n,())=some y5/\((0:Int)<=v3.1/\v3.1<(↑(List.replicate n.toNat (none:Option (List Int))).length:Int))/\0+v3.1.toNat<(List.replicate n.toNat (none:Option (List Int))).length/\0=0/\(List.replicate n.toNat (none:Option (List Int))).length=((List.replicate n.toNat (none:Option (List Int))).set (0+v3.1.toNat) y5).length/\(0=0/\v3.2.2.2.1.length=v3.2.2.2.1.length)/\(0=0/\1= [(List.replicate n.toNat (none:Option (List Int))).set (0+v3.1.toNat) y5].length)/\0< [(List.replicate n.toNat (none:Option (List Int))).set (0+v3.1.toNat) y5].length/\v3.2.2.2.1.length+ [(List.replicate n.toNat (none:Option (List Int))).set (0+v3.1.toNat) y5].length<=Bh/\0=0/\v3.2.1.length=v3.2.1.length/\0=0/\(v3.2.2.2.1++ [(List.replicate n.toNat (none:Option (List Int))).set (0+v3.1.toNat) y5]).length=(v3.2.2.2.1++ [(List.replicate n.toNat (none:Option (List Int))).set (0+v3.1.toNat) y5]).length/\k4 (IntKind.i64.wrap (v3.1+(1:Int)),v3.2.1,v3.2.2.1,v3.2.2.2.1++ [(List.replicate n.toNat (none:Option (List Int))).set (0+v3.1.toNat) y5],())) (0=0/\v3.2.1.length=v3.2.1.length/\0=0/\v3.2.2.2.1.length=v3.2.2.2.1.length/\Bk (λ(v5:Ut) (k6:Ut->Prop)=>Br (decide (v5.1<(↑gens.length:Int))) (∃(y7:Option (List Int)),idx gens v5.1=some y7/\0=0/\v5.2.1.length=v5.2.1.length/\0=0/\v5.2.2.2.1.length=v5.2.2.2.1.length/\ ∃(y8:(Int×List (List (Option (List Int)))×List (List (Option (List Int)))×PUnit)×PUnit),vr.fn (v5.2.2.1,v5.2.1,v5.2.2.2.1,(0:Int),y7,())=some y8/\0=0/\y8.1.2.1.length=y8.1.2.1.length/\0=0/\y8.1.2.2.1.length=y8.1.2.2.1.length/\k6 (IntKind.i64.wrap (v5.1+(1:Int)),y8.1.2.1,y8.1.1,y8.1.2.2.1,())) ((0=0/\v5.2.1.length=v5.2.1.length)/\(0=0/\v5.2.2.2.1.length=v5.2.2.2.1.length)/\P ((v5.2.2.1,v5.2.1,v5.2.2.2.1,()),()))) ((0:Int),v3.2.1,v3.2.2.1,v3.2.2.2.1,PUnit.unit))) ((0:Int),List.replicate n.toNat ([]:List (Option (List Int))),n,[],PUnit.unit))=fnMW Wz (look [(105,Kc),(130,vr)]) dF Tryz.f98 (n,gens,()) P:=by kernel_rfl
theorem Rv (n i:Nat):(Na n).getD i []= []:=by
 unfold Na
 rw [List.getD_eq_getElem?_getD,List.getElem?_replicate]
 split<;>rfl
theorem gU {n i:Nat} (h:i<n):(Rw n).getD i []=Wr n i:=by
 unfold Rw
 rw [List.getD_eq_getElem?_getD,List.getElem?_map,List.getElem?_range h]
 rfl
theorem ju {n i y:Nat} (h:i<n):(Wr n i).getD y none=if i=y then some (upto n) else none:=by
 unfold Wr
 rw [Gq,List.length_replicate]
 by_cases e:i=y
 ·rw [if_pos ⟨e,h⟩,if_pos e]
 ·rw [if_neg (λhh=>e hh.1),if_neg e,List.getD_eq_getElem?_getD,List.getElem?_replicate]
  split<;>rfl
theorem pK {n:Nat} (h1:1<=n) (h2:n<=20): ∀(k l:Nat),l+k=n->eM n k l (Na n,Rw n)
 |0,l,hk=>Rv n l
 |k+1,l,hk=>by
  have hl:l<n:=by omega
  have hg: ∀(g:List Int) (j:Nat),some g∈(Na n).getD j []->False:= λg j hg=>by rw [Rv] at hg;cases hg
  refine ⟨pK h1 h2 k (l+1) (by omega),⟨λo ho=>?_,?_,?_,λy t e0=>?_,λy t g _ Mp=>(hg _ _ Mp).elim,λy t g t' _ Mp=>(hg _ _ Mp).elim⟩,λg Mp=>(hg _ _ Mp).elim⟩
  ·have ho:o∈(Na n).getD l []:=ho
   rw [Rv] at ho;cases ho
  ·show ((Rw n).getD l []).length=n
   rw [gU hl];simp [Wr]
  ·show ((Rw n).getD l []).getD l none=_
   rw [gU hl,ju hl,if_pos rfl]
  ·replace e0:((Rw n).getD l []).getD y none=some t:=e0
   rw [gU hl,ju hl] at e0
   by_cases hy:l=y
   ·rw [if_pos hy] at e0
    have e1:=Option.some.inj e0
    subst e1 hy
    exact ⟨Pm.id h1 h2,λi hi=>eZ (by omega),eZ hl, .id⟩
   ·rw [if_neg hy] at e0;cases e0
theorem yV (n:Nat): ∀(k l:Nat),GBf k l (Na n,Rw n)
 |0,_=>trivial
 |k+1,l=>⟨yV n k (l+1),by show ((Na n).getD l []).length<=_;rw [Rv];exact Nat.zero_le _⟩
theorem nf {n:Nat} (h1:1<=n) (h2:n<=20):V n n 0 (Na n,Rw n):=⟨by simp [Na],by simp [Rw],pK h1 h2 n 0 (by omega),yV n n 0⟩
def WY (n:Nat) (gens:List PO):Prop:= ∀o∈gens,∃g,o=some g/\Pm n g
theorem wH {n:Nat} {gens:List PO} {j:Nat} (hj:j<gens.length):Nv n (gens.take (j+1))=Du n 0 (gens[j].getD []) (Nv n (gens.take j)):=by
 unfold Nv
 rw [List.take_add_one,List.getElem?_eq_getElem hj,Option.toList_some,List.foldl_append]
 rfl
theorem jN {n:Nat} (h1:1<=n) (h2:n<=20): ∀(gens:List PO) (s:Ax×Ax),WY n gens->V n n 0 s->V n n 0 (gens.foldl (λs o=>Du n 0 (o.getD []) s) s)/\
  Pf 0 s (gens.foldl (λs o=>Du n 0 (o.getD []) s) s)/\(∀g,some g∈gens->Gn n ((gens.foldl (λs o=>Du n 0 (o.getD []) s) s).1.getD 0 []) g)/\ ∀o∈(gens.foldl (λs o=>Du n 0 (o.getD []) s) s).1.getD 0 [],o∈s.1.getD 0 []\/o∈gens
 | [],s,_,hv=>⟨hv,Pf.refl _ _,(λ_ hg=>by cases hg),λ_ ho=> .inl ho⟩
 |o::gens,s,hg,hv=>by
  obtain ⟨g,rfl,Ng⟩:=hg o (by simp)
  have ha:=tG h1 h2 n 0 g s (by omega) hv Ng (λi hi=>absurd hi (Nat.not_lt_zero _))
  obtain ⟨a1,a2,a3,a4⟩:=jN h1 h2 gens (Du n 0 g s) (λo ho=>hg o (by simp [ho])) ha.v
  refine ⟨a1,ha.grow.trans a2 (Nat.le_refl _),λg' Mp=>?_,λo ho=>?_⟩
  ·rcases List.mem_cons.1 Mp with e|Mp
   ·cases e;exact ha.ZN.mono λg hg=>a2.sm _ _ hg
   ·exact a3 g' Mp
  ·rcases a4 o ho with h|h
   ·rcases ha.gens o h with h|h
    ·exact .inl h
    ·exact .inr (by simp [h])
   ·exact .inr (by simp [h])
theorem wG {n:Nat} (h1:1<=n) (h2:n<=20) {gens:List PO} (hg:WY n gens):V n n 0 (Nv n gens):=(jN h1 h2 gens _ hg (nf h1 h2)).1
theorem o1 {n:Nat} (h1:1<=n) (h2:n<=20) {gens:List PO} (hg:WY n gens) {p:List Int} (hp:Pm n p):Ee (Nv n gens).2 n 0 p=true↔Gn n gens p:=by
 obtain ⟨a1,a2,a3,a4⟩:=jN h1 h2 gens _ hg (nf h1 h2)
 have hS:wD n λg=>some g∈gens:=⟨⟨h1,h2⟩,λg Mp=>by obtain ⟨g',e,h⟩:=hg _ Mp;cases e;exact h⟩
 have Kh: ∀g,some g∈(Nv n gens).1.getD 0 []->some g∈gens:= λg Mp=>by
  rcases a4 _ Mp with h|h
  ·have h:some g∈(Na n).getD 0 []:=h
   rw [Rv] at h;cases h
  ·exact h
 have XQ:wD n λg=>some g∈(Nv n gens).1.getD 0 []:=⟨⟨h1,h2⟩,λg Mp=>hS.2 g (Kh g Mp)⟩
 refine (Np h1 h2 n 0 (Nv n gens) (by omega) a1.2.2.1 p hp λi hi=>absurd hi (Nat.not_lt_zero _)).trans ⟨λh=>h.mono Kh,λh=>h.trans XQ λg Mp=>a3 g Mp⟩
theorem yz (n:Int) (gens:List (Option (List Int))) (h:(1<=n/\n<=20)/\List.length gens<=4294967296/\ ∀o∈(gens:List PO),∃g,o=some g/\Pm n.toNat g):
  fnMW Wz (look [(105,Kc),(130,vr)]) dF Tryz.f98 (n,gens,()) (λ(z:(Int×List (List (Option (List Int)))×List (List (Option (List Int)))×Unit)×Unit)=>z=((n,(Nv n.toNat gens).1,(Nv n.toNat gens).2,()),())):=by
 obtain ⟨⟨h1,h2⟩,h3,hg⟩:=h
 obtain ⟨N,rfl⟩: ∃N:Nat,n=N:=⟨n.toNat,by omega⟩
 rw [Int.toNat_natCast] at hg⊢
 have h1:1<=N:=by omega
 have h2:N<=20:=by omega
 refine Eq.mp (zo (N:Int) gens _) ?_
 have hm:((0:Int)<=(N:Int)/\(N:Int)<(Bh:Int)+1):=⟨by omega,by show (N:Int)<(4294967296:Int)+1;omega⟩
 simp only [hm,and_self,eq_self,true_and,Int.toNat_natCast,Nat.zero_add,List.length_nil,List.length_set,List.length_replicate,List.length_cons,Nat.lt_add_one,List.length_append]
 refine Ag N (λv=>v.1) (λj v=>v=((j:Int),Na N,(N:Int),(List.range j).map (Wr N),())) rfl rfl ?_
 rintro j v K hj hi rfl hK
 dsimp only
 refine Br.dec (λhl=>?_) λhl=>?_
 ·refine ⟨_,if_pos ⟨by show (1:Int)<=N;omega,by show (N:Int)<=20;omega⟩,⟨by omega,by omega⟩,by rw [Int.toNat_natCast];omega,?_,?_⟩
  ·show _<=4294967296
   simp only [List.length_map,List.length_range]
   omega
  ·rw [Ah (by omega)]
   refine hK (by omega) _ rfl ?_
   rw [List.range_succ,List.map_append]
   rfl
 ·have:j=N:=by omega
  subst this
  refine Ag gens.length (λv=>v.1) (λi v=>v=((i:Int),(Nv j (gens.take i)).1,(j:Int),(Nv j (gens.take i)).2,())) rfl rfl ?_
  rintro i v K' mV Ahn rfl SC
  dsimp only
  refine Br.dec (λGe=>?_) λGe=>?_
  ·have Ge:i<gens.length:=by omega
   obtain ⟨g,jH,Ng⟩:=hg gens[i] (List.getElem_mem Ge)
   have hv:=wG h1 h2 (gens:=gens.take i) λo ho=>hg o (List.mem_of_mem_take ho)
   refine ⟨_,Ap Ge,_,if_pos ⟨j,0,g,jH,h1,h2,rfl,rfl,Nat.zero_le _,hv,Ng,λi hi=>absurd hi (Nat.not_lt_zero _)⟩,?_⟩
   rw [Ah (by omega)]
   refine SC Ge _ rfl ?_
   rw [wH Ge]
   simp only [Int.sub_zero,Int.toNat_natCast]
   rfl
  ·have:i=gens.length:=by omega
   subst this
   rw [List.take_length]
theorem mG:Au Tryz.prog 98 dF:=
 Au.hY pQ (Ae mz (Cr DG Ai)) mixed Tryz.func98 (by kernel_rfl) (by kernel_rfl) λx h=>yz x.1 x.2.1 h
end Go.Proofs.YtfolipnappekaaaGreat

namespace Go.Proofs.YtfolipnappekaaaGreat
open Go.RowKit
noncomputable abbrev xI:MSpec:= {Fk:= [none,none],ins:= [(false, .Dh tI),(false, .Dh an)],Dn:=false,Ek:= [none,none,none],outs:= [.Dh tI, .Aj tO qf false, .Aj tO qf false],fn:= λ_=>none,rp:=some 141}
def aE (n:Int) (g:List (List Int)):Ax×Ax:=Nv n.toNat (g.map some)
noncomputable abbrev Rl:MSpec:=hY xI (λx=>(1<=x.1/\x.1<=20)/\List.length x.2.1<=4294967296/\ ∀g∈(x.2.1:List (List Int)),Pm x.1.toNat g)
 (λx=>((x.1,(aE x.1 x.2.1).1,(aE x.1 x.2.1).2,()),()))
noncomputable def Kj (p:PP) (s:List Int):Bool:=(Bw p&&Dd p.1 s)&&Ee (aE p.1 p.2.2.1).2 p.1.toNat 0 s
noncomputable abbrev Il:Spec:=Cu (.pair Df (.pair tL .unit)) .bool false true (λx=>Cb x.1/\short x.2.1) (λx=>Kj x.1 x.2.1)
theorem Cells.told {w:World} {S:Nat->Prop} {e:Ty} {cs:List Value} {xs:List e.den} (h:Cells w S (.slice e) cs xs): ∃o:Option (List e.den),Cells w S (.oslice e) cs o/\o.getD []=xs:=by
 simp only [Cells] at h
 obtain ⟨a,len,cap,rfl,h1,h2,h3⟩:=h
 cases a with
 |none=>
  rcases h3 with rfl|⟨g,o,h,_⟩
  ·refine ⟨none,?_,rfl⟩
   simp only [Cells]
   exact .inl ⟨trivial,cap,by rw [h1];rfl⟩
  ·cases h
 |some ad=>
  refine ⟨some xs,?_,rfl⟩
  simp only [Cells]
  exact .inr ⟨xs,ad,len,cap,rfl,rfl,h1,h2,h3.imp id λ⟨g,o,h,h4⟩=>⟨g,o,Option.some.inj h,h4⟩⟩
theorem zL {α β:Type} (Q:Nat->α->β->Prop): ∀(xs:List α),(∀i x,xs[i]?=some x-> ∃y,Q i x y)-> ∃ys:List β,ys.length=xs.length/\ ∀i x y,xs[i]?=some x->ys[i]?=some y->Q i x y:=by
 intro xs h
 refine ⟨List.ofFn λi:Fin xs.length=>Classical.choose (h i xs[i] (List.getElem?_eq_getElem i.2)),by simp,λi x y h1 h2=>?_⟩
 obtain ⟨hi,rfl⟩:=List.getElem?_eq_some_iff.1 h1
 obtain ⟨mV,rfl⟩:=List.getElem?_eq_some_iff.1 h2
 rw [List.getElem_ofFn]
 exact Classical.choose_spec (h i xs[i] (List.getElem?_eq_getElem hi))
theorem Be.WU {w:World} {S:Nat->Prop} {e:Ty} {v:Value} {xs:List (List e.den)} (h:Be w S (.slice (.slice e)) v xs): ∃os:List (Option (List e.den)),Be w S (.slice (.oslice e)) v os/\os.map (·.getD [])=xs:=by
 obtain ⟨cs,hc,rfl⟩:=h
 simp only [Cells] at hc
 obtain ⟨a,len,cap,rfl,h1,h2,h3⟩:=hc
 rcases h3 with rfl|⟨g,o,rfl,hg,hS,h4⟩
 ·refine ⟨[],⟨_,?_,rfl⟩,rfl⟩
  simp only [Cells]
  exact ⟨a,len,cap,rfl,h1,h2, .inl trivial⟩
 ·obtain ⟨os,e1,e2⟩:=zL (λi (x:List e.den) (y:Option (List e.den))=>y.getD []=x/\ ∃es:List Value,es.length=1/\(∀j u,es[j]?=some u->w.cell? ⟨g,o+i*1+j,none⟩=some u)/\Cells w S (.oslice e) es y) xs λi x hx=>by
   obtain ⟨es,k1,k2,k3⟩:=h4 i x hx
   obtain ⟨y,k4,k5⟩:=Cells.told (e:=e) (by simp only [Cells];exact k3)
   exact ⟨y,k5,es,k1,k2,k4⟩
  refine ⟨os,⟨_,?_,rfl⟩,?_⟩
  ·simp only [Cells]
   refine ⟨_,len,cap,rfl,by rw [h1,e1],h2, .inr ⟨g,o,rfl,hg,hS,λi y hy=>?_⟩⟩
   obtain ⟨hi,_⟩:=List.getElem?_eq_some_iff.1 hy
   obtain ⟨_,es,k1,k2,k3⟩:=e2 i _ y (List.getElem?_eq_getElem (by omega)) hy
   simp only [Cells] at k3
   exact ⟨es,k1,k2,k3⟩
  ·refine List.ext_getElem (by simp [e1]) λi g1 g2=>?_
   rw [List.getElem_map]
   exact (e2 i _ _ (List.getElem?_eq_getElem g2) (List.getElem?_eq_getElem (by omega))).1
theorem pA:Au Tryz.prog 98 Rl:=by
 have h:=mG
 refine ⟨h.enter,λw S π us x r o g vs h1 hg h2 h3 hS h4 h5=>?_⟩
 obtain ⟨n,gens,⟨⟩⟩:=x
 match us,h2 with
 |u1::u2::us,h2=>
  obtain ⟨h6,⟨h7,h8⟩,h9⟩:=h2
  obtain ⟨os,jG,c8⟩:=Be.WU (e:=tI) h8
  have c8:os.map (·.getD [])=(gens:List (List Int)):=c8
  have Yn:(1<=n/\n<=20)/\List.length gens<=4294967296/\ ∀g∈(gens:List (List Int)),Pm n.toNat g:=Classical.byContradiction λhn=>by
   have:Rl.fn (n,gens,())=none:=if_neg hn
   rw [this] at h5;cases h5
  have YP:os=gens.map some:=by
   rw [<-c8,List.map_map]
   refine (List.map_id os).symm.trans (List.map_congr_left λx hx=>?_)
   cases x with
   |some y=>rfl
   |none=>
    have:=Yn.2.2 [] (by rw [<-c8];exact List.mem_map.2 ⟨none,hx,rfl⟩)
    have h1:=this.n1
    have h2:=this.1
    simp at h2
    omega
  have hv:Rl.fn (n,gens,())=some ((n,(aE n gens).1,(aE n gens).2,()),()):=if_pos Yn
  rw [hv] at h5
  have h5:=Option.some.inj h5
  refine h.calls w S π (u1::u2::us) (n,os,()) r o g vs h1 hg ⟨h6,⟨h7,jG⟩,h9⟩ h3 hS h4 ?_
  refine (if_pos ⟨Yn.1,by rw [YP,List.length_map];exact Yn.2.1,λy hy=>?pp⟩).trans (congrArg some ?qq)
  case pp=>
   replace hy:y∈os:=hy
   rw [YP] at hy
   obtain ⟨g,hg,rfl⟩:=List.mem_map.1 hy
   exact ⟨g,rfl,Yn.2.2 g hg⟩
  case qq=>subst YP;exact h5
theorem cw {p:PP} (hv:Valid p):(1<=p.1/\p.1<=20)/\List.length p.2.2.1<=4294967296/\ ∀g∈p.2.2.1,Pm p.1.toNat g:=
 ⟨hv.n,by have:=hv.u5;omega,λg hg=>⟨by have:=hv.len g hg;omega,aX (hv.perm g hg)⟩⟩
theorem dk {n:Nat} {g:List (List Int)} (h: ∀x∈g,Pm n x):WY n (g.map some):= λo ho=>by
 obtain ⟨x,hx,rfl⟩:=List.mem_map.1 ho
 exact ⟨x,rfl,h x hx⟩
theorem RV {p:PP} (hv:Valid p):V p.1.toNat p.1.toNat 0 (aE p.1 p.2.2.1):=by
 have:=hv.n
 exact wG (by omega) (by omega) (dk (cw hv).2.2)
end Go.Proofs.YtfolipnappekaaaGreat

namespace Go.Proofs.YtfolipnappekaaaGreat
open Go.RowKit
theorem yP {g:List (List Int)} {x:List Int} :some x∈g.map some↔x∈g:=by simp
theorem Xq {n k:Nat} (hk:k<n):(k:Int)+1∈Cm n/\ -((k:Int)+1)∈Cm n:=by
 unfold Cm
 exact ⟨List.mem_flatMap.2 ⟨k,List.mem_range.2 hk,by simp⟩,List.mem_flatMap.2 ⟨k,List.mem_range.2 hk,by simp⟩⟩
theorem Dm.nodup {m:Nat} {L:List (List Int)} {Ig:List Int} (h:Dm m L Ig):L.Nodup:=
 List.pairwise_iff_getElem.2 λi j hi hj jI e=>by have:=h.inj hi hj e;omega
end Go.Proofs.YtfolipnappekaaaGreat

namespace Go.Proofs.YtfolipnappekaaaGreat
open Go.RowKit
theorem Fm {α:Type} {xs ys:List α} {i:Nat} {d:α} (h:i<xs.length):(xs++ys).getD i d=xs.getD i d:=by
 rw [List.getD_eq_getElem?_getD,List.getD_eq_getElem?_getD,List.getElem?_append_left h]
theorem ef {α:Type} {xs:List α} {x d:α} :(xs++ [x]).getD xs.length d=x:=by
 rw [List.getD_eq_getElem?_getD,List.getElem?_append_right (Nat.le_refl _),Nat.sub_self];rfl
theorem Ul {α:Type} {xs:List α} {i:Nat} {d:α} (h:i<xs.length):xs.getD i d=xs[i]:=by
 rw [List.getD_eq_getElem?_getD,List.getElem?_eq_getElem h];rfl
structure Lv (g:List (List Int)) (ls:List Int) (k:Nat) (L:List (List Int)) (D:List Int):Prop where
 len:D.length=L.length
 pos:0<L.length
 mono: ∀i j,i<=j->j<L.length->D.getD i 0<=D.getD j 0
 OF:k<L.length-> ∀j,j<L.length->D.getD j 0<=D.getD k 0+1
 par: ∀j,0<j->j<L.length-> ∃i l,i<j/\l∈ls/\L.getD j []=Aa (L.getD i []) (Ao g l)/\D.getD j 0=D.getD i 0+1
 zero:D.getD 0 0=0
theorem Lv.add {g:List (List Int)} {ls:List Int} {k:Nat} {L:List (List Int)} {D:List Int} (h:Lv g ls k L D) (hk:k<L.length) {l:Int} (hl:l∈ls):
  Lv g ls k (L++ [Aa (L.getD k []) (Ao g l)]) (D++ [D.getD k 0+1]):=by
 have hlen:=h.len
 have hD: ∀i,i<L.length->(D++ [D.getD k 0+1]).getD i 0=D.getD i 0:= λi hi=>Fm (by omega)
 have UX:(D++ [D.getD k 0+1]).getD L.length 0=D.getD k 0+1:=by rw [<-hlen];exact ef
 refine ⟨by simp [hlen],by simp,λi j jI hj=>?_,λ_ j hj=>?_,λj h0 hj=>?_,?_⟩
 ·rw [List.length_append,List.length_singleton] at hj
  by_cases e:j=L.length
  ·subst e
   rw [UX]
   by_cases e':i=L.length
   ·subst e';rw [UX];exact Int.le_refl _
   ·rw [hD i (by omega)]
    exact h.OF hk i (by omega)
  ·rw [hD i (by omega),hD j (by omega)]
   exact h.mono i j jI (by omega)
 ·rw [List.length_append,List.length_singleton] at hj
  rw [hD k hk]
  by_cases e:j=L.length
  ·subst e;rw [UX];exact Int.le_refl _
  ·rw [hD j (by omega)];exact h.OF hk j (by omega)
 ·rw [List.length_append,List.length_singleton] at hj
  by_cases e:j=L.length
  ·subst e
   exact ⟨k,l,hk,hl,by rw [ef,Fm hk],by rw [UX,hD k hk]⟩
  ·obtain ⟨i,l',h1,h2,h3,h4⟩:=h.par j h0 (by omega)
   exact ⟨i,l',h1,h2,by rw [Fm (by omega),Fm (by omega)];exact h3,by rw [hD j (by omega),hD i (by omega)];exact h4⟩
 ·rw [hD 0 h.pos];exact h.zero
theorem nE {g:List (List Int)} {ls:List Int} {k:Nat} : ∀(GA:List Int) (L:List (List Int)) (D:List Int),(∀l∈GA,l∈ls)->Lv g ls k L D->k<L.length-> ∀ {x:List Int} {d:Int},x=L.getD k []->d=D.getD k 0->
  Lv g ls k (Hq g x d GA L D).1 (Hq g x d GA L D).2.1/\(∃A,(Hq g x d GA L D).1=L++A)/\(∃A,(Hq g x d GA L D).2.1=D++A)/\
  ((Hq g x d GA L D).2.2=true-> ∀l∈GA,∃j,j<(Hq g x d GA L D).1.length/\(Hq g x d GA L D).1.getD j []=Aa x (Ao g l)/\(Hq g x d GA L D).2.1.getD j 0<=d+1)
 | [],L,D,_,h,_,x,d,_,_=>⟨h,⟨[],by simp [Hq]⟩,⟨[],by simp [Hq]⟩,λ_ l hl=>by cases hl⟩
 |l::GA,L,D,hs,h,hk,x,d,hx,hd=>by
  have xA: ∀l∈GA,l∈ls:= λl' h'=>hs l' (List.mem_cons_of_mem _ h')
  have hlen:=h.len
  simp only [Hq]
  split
  ·rename_i hm
   obtain ⟨a1,⟨A,a2⟩,⟨A',a3⟩,a4⟩:=nE GA L D xA h hk hx hd
   refine ⟨a1,⟨A,a2⟩,⟨A',a3⟩,λe l' Ge=>?_⟩
   rcases List.mem_cons.1 Ge with rfl|Ge
   ·obtain ⟨j,hj,hjx⟩:=List.mem_iff_getElem.1 hm
    refine ⟨j,by rw [a2,List.length_append];omega,by rw [a2,Fm hj,Ul hj];exact hjx,?_⟩
    rw [a3,Fm (by omega),hd]
    exact h.OF hk j hj
   ·exact a4 e l' Ge
  ·split
   ·exact ⟨h,⟨[],by simp⟩,⟨[],by simp⟩,λe=>by cases e⟩
   ·have MH:=h.add hk (hs l (by simp))
    rw [<-hx,<-hd] at MH
    obtain ⟨a1,⟨A,a2⟩,⟨A',a3⟩,a4⟩:=nE GA (L++ [Aa x (Ao g l)]) (D++ [d+1]) xA MH (by rw [List.length_append];omega) (x:=x) (d:=d) (by rw [Fm hk];exact hx) (by rw [Fm (by omega)];exact hd)
    refine ⟨a1,⟨_::A,by rw [a2,List.append_assoc];rfl⟩,⟨_::A',by rw [a3,List.append_assoc];rfl⟩,λe l' Ge=>?_⟩
    rcases List.mem_cons.1 Ge with rfl|Ge
    ·refine ⟨L.length,by rw [a2,List.length_append,List.length_append];simp only [List.length_singleton];omega,?_,?_⟩
     ·rw [a2,Fm (by simp),ef]
     ·rw [a3,Fm (by simp [hlen]),<-hlen,ef]
      exact Int.le_refl _
    ·exact a4 e l' Ge
structure zI (g:List (List Int)) (ls:List Int) (L:List (List Int)) (D:List Int):Prop where
 len:D.length=L.length
 pos:0<L.length
 zero:D.getD 0 0=0
 par: ∀j,0<j->j<L.length-> ∃i l,i<j/\l∈ls/\L.getD j []=Aa (L.getD i []) (Ao g l)/\D.getD j 0=D.getD i 0+1
 step: ∀i,i<L.length-> ∀l∈ls,∃j,j<L.length/\L.getD j []=Aa (L.getD i []) (Ao g l)/\D.getD j 0<=D.getD i 0+1
theorem wR {g:List (List Int)} {ls:List Int} : ∀(f k:Nat) (L:List (List Int)) (D:List Int),3001<=f+k->Lv g ls k L D->k<=L.length->
  (∀i,i<k-> ∀l∈ls,∃j,j<L.length/\L.getD j []=Aa (L.getD i []) (Ao g l)/\D.getD j 0<=D.getD i 0+1)->
  (Lk g ls f k L D).2.2=true->(Lk g ls f k L D).1.length<=3000->zI g ls (Lk g ls f k L D).1 (Lk g ls f k L D).2.1
 |0,k,L,D,hf,h,YF,hc,hw,h3=>by
  simp only [Lk] at h3⊢
  omega
 |f+1,k,L,D,hf,h,YF,hc,hw,h3=>by
  simp only [Lk] at hw h3⊢
  split
  ·rename_i hk
   rw [if_pos hk] at hw h3
   obtain ⟨a1,⟨A,a2⟩,⟨A',a3⟩,a4⟩:=nE (x:=L.getD k []) (d:=D.getD k 0) ls L D (λ_ h=>h) h hk rfl rfl
   have hlen:=h.len
   split
   ·rename_i L' D' he
    rw [he] at a1 a2 a3 a4
    simp only [he] at hw h3
    have a2:L'=L++A:=a2
    have a3:D'=D++A':=a3
    have a4:=a4 rfl
    dsimp only at a4
    have hLl:L.length<=L'.length:=by rw [a2,List.length_append];omega
    refine wR f (k+1) L' D' (by omega) ⟨a1.len,a1.pos,a1.mono,λhk1 j hj=>?_,a1.par,a1.zero⟩ (by omega) (λi hi l hl=>?_) hw h3
    ·have h1:D'.getD j 0<=D'.getD k 0+1:=a1.OF (show k<L'.length by omega) j hj
     have h2:D'.getD k 0<=D'.getD (k+1) 0:=a1.mono k (k+1) (by omega) hk1
     omega
    ·by_cases e:i=k
     ·subst e
      obtain ⟨j,b1,b2,b3⟩:=a4 l hl
      refine ⟨j,b1,?_,?_⟩
      ·rw [b2,a2,Fm (by omega)]
      ·rw [show D'.getD i 0=D.getD i 0 by rw [a3,Fm (by omega)]];exact b3
     ·obtain ⟨j,b1,b2,b3⟩:=hc i (by omega) l hl
      refine ⟨j,by omega,?_,?_⟩
      ·rw [a2,Fm (by omega),Fm (by omega)];exact b2
      ·rw [a3,Fm (by omega),Fm (by omega)];exact b3
   ·rename_i L' D' he
    simp only [he] at hw
    cases hw
  ·rename_i hk
   exact ⟨h.len,h.pos,h.zero,h.par,λi hi=>hc i (by have hi:i<L.length:=hi;omega)⟩
theorem zQ {p:PP} {s:List Int} (hv:Bw p=true) (hs:s.length<=20) (hr: ∀y∈s,0<=y/\y<p.1) (hw:(Gi p.2.2.1 s).2.2=true):
  zI p.2.2.1 (Cm p.2.2.1.length) (Gi p.2.2.1 s).1 (Gi p.2.2.1 s).2.1:=by
 have hb:=(zR hv hs hr).1.ok.u5
 refine wR 3001 0 [s] [0] (by omega) ⟨rfl,by simp,λi j jI hj=>?_,λ_ j hj=>?_,λj h0 hj=>?_,rfl⟩ (Nat.zero_le _) (λi hi=>absurd hi (Nat.not_lt_zero _)) hw hb
 ·have:j=0:=by simpa using hj
  subst this
  have:i=0:=by omega
  subst this
  exact Int.le_refl _
 ·have:j=0:=by simpa using hj
  subst this
  simp
 ·have:j=0:=by simpa using hj
  omega
theorem xS {p:PP} (hV:Valid p) {x:List Int} (hx: ∀y∈x,0<=y/\y<p.1) {l:Int} (hl:l∈Cm p.2.2.1.length):
  -l∈Cm p.2.2.1.length/\Aa (Aa x (Ao p.2.2.1 l)) (Ao p.2.2.1 (-l))=x:=by
 obtain ⟨k,hk,Ma⟩:=Un (Xr hl)
 have hg:=aX (hV.perm _ (List.getElem_mem hk))
 have hgl:=hV.len _ (List.getElem_mem hk)
 have hn:=hV.n
 have hp:Pm p.1.toNat (p.2.2.1[k]):=⟨by omega,hg⟩
 have key: ∀q r:List Int,Pm p.1.toNat q->Pm p.1.toNat r->Aa q r=upto p.1.toNat->Aa (Aa x q) r=x:= λq r hq hr he=>by
  refine List.ext_getElem (by rw [Jv,Jv]) λi h1 h2=>?_
  have hxi:=hx _ (List.getElem_mem h2)
  obtain ⟨xi,hxe⟩:=Int.eq_ofNat_of_zero_le hxi.1
  have RM:xi<p.1.toNat:=by omega
  have e1:ap (Aa q r) xi=ap (upto p.1.toNat) xi:=congrArg (λz=>ap z xi) he
  rw [He hq hr RM,eZ RM] at e1
  simp only [Aa,List.getElem_map,hxe]
  have h3:=(hq.Ue RM).1
  have h4:=(hr.Ue (hq.lt RM)).1
  rw [h3,h4,e1]
 rcases Ma with rfl|rfl
 ·refine ⟨(Xq hk).2,?_⟩
  rw [Qy hk,Qx hk]
  exact key _ _ hp hp.inv (im hp)
 ·refine ⟨by rw [Int.neg_neg];exact (Xq hk).1,?_⟩
  rw [Int.neg_neg,Qy hk,Qx hk]
  exact key _ _ hp.inv hp (Zp hp)
structure Pe (g:List (List Int)) (ls:List Int) (L:List (List Int)) (S:List Int->Prop) (d:List Int->Int):Prop where
 nn: ∀x∈L,0<=d x
 zero: ∀x∈L,d x=0↔S x
 step: ∀x∈L,∀l∈ls,d (Aa x (Ao g l))<=d x+1
 down: ∀x∈L,0<d x-> ∃l∈ls,d (Aa x (Ao g l))=d x-1
structure nh (g:List (List Int)) (ls:List Int) (L:List (List Int)):Prop where
 next: ∀x∈L,∀l∈ls,Aa x (Ao g l)∈L
 back: ∀x∈L,∀l∈ls,-l∈ls/\Aa (Aa x (Ao g l)) (Ao g (-l))=x
theorem Pe.le {g:List (List Int)} {ls:List Int} {L:List (List Int)} {S:List Int->Prop} {d d':List Int->Int} (hc:nh g ls L) (h:Pe g ls L S d) (h':Pe g ls L S d'):
  ∀(n:Nat) (x:List Int),x∈L->d' x=n->d x<=n
 |0,x,hx,e=>by
  have:=(h.zero x hx).2 ((h'.zero x hx).1 e)
  omega
 |n+1,x,hx,e=>by
  obtain ⟨l,hl,hd⟩:=h'.down x hx (by omega)
  obtain ⟨b1,b2⟩:=hc.back x hx l hl
  have h1:=Pe.le hc h h' n _ (hc.next x hx l hl) (by omega)
  have h2:=h.step _ (hc.next x hx l hl) _ b1
  rw [b2] at h2
  omega
theorem Pe.eq {g:List (List Int)} {ls:List Int} {L:List (List Int)} {S:List Int->Prop} {d d':List Int->Int} (hc:nh g ls L) (h:Pe g ls L S d) (h':Pe g ls L S d') {x:List Int} (hx:x∈L):d x=d' x:=by
 have n1:=h.nn x hx
 have n2:=h'.nn x hx
 have h1:=Pe.le hc h h' (d' x).toNat x hx (by omega)
 have h2:=Pe.le hc h' h (d x).toNat x hx (by omega)
 omega
theorem Pe.OF {g:List (List Int)} {ls:List Int} {L:List (List Int)} {S:List Int->Prop} {d:List Int->Int} (hc:nh g ls L) (h:Pe g ls L S d) {x:List Int} (hx:x∈L) {l:Int} (hl:l∈ls):
  d x-1<=d (Aa x (Ao g l)):=by
 obtain ⟨b1,b2⟩:=hc.back x hx l hl
 have h2:=h.step _ (hc.next x hx l hl) _ b1
 rw [b2] at h2
 omega
theorem AY {L:List (List Int)} (hn:L.Nodup) {j:Nat} (hj:j<L.length):L.idxOf (L.getD j [])=j:=by
 rw [Ul hj]
 exact hn.idxOf_getElem j hj
theorem MF {L:List (List Int)} {j:Nat} (hj:j<L.length):L.getD j []∈L:=by rw [Ul hj];exact List.getElem_mem hj
theorem qF {p:PP} (hV:Valid p) {m:Nat} {L:List (List Int)} {D:List Int} (hb:Tt p m L D) (h:zI p.2.2.1 (Cm p.2.2.1.length) L D):nh p.2.2.1 (Cm p.2.2.1.length) L where
 next x hx l hl:=by
  obtain ⟨i,hi,rfl⟩:=List.mem_iff_getElem.1 hx
  obtain ⟨j,h1,h2,_⟩:=h.step i hi l hl
  rw [Ul hi] at h2
  rw [<-h2]
  exact MF h1
 back x hx l hl:=xS hV (hb.row x hx) hl
end Go.Proofs.YtfolipnappekaaaGreat

namespace Go.Proofs.YtfolipnappekaaaGreat
open Go.RowKit
noncomputable abbrev Ve:Spec:=Cu (.pair tL (.pair tL .unit)) tL false true (λx=>short x.2.1/\Hw (List.length x.1) x.2.1) (λx=>By x.1 x.2.1)
theorem KQ (xs is:List Int) (P:List Int->Prop):(((0:Int)<=(↑is.length:Int)/\(↑is.length:Int)<(↑Bh:Int)+(1:Int))/\(↑is.length:Int)=(↑is.length:Int)/\0=0/\(List.replicate (↑is.length:Int).toNat (Int.ofNat (nat_lit 0))).length=(List.replicate (↑is.length:Int).toNat (Int.ofNat (nat_lit 0))).length/\Bk (λ(v3:Int×List Int×PUnit) (k4:Int×List Int×PUnit->Prop)=>Br (decide (v3.1<(↑is.length:Int))) (∃(y5:Int),idx is v3.1=some y5/\ ∃(y6:Int),idx xs y5=some y6/\((0:Int)<=v3.1/\v3.1<(↑v3.2.1.length:Int))/\0+v3.1.toNat<v3.2.1.length/\0=0/\v3.2.1.length=(v3.2.1.set (0+v3.1.toNat) y6).length/\k4 (IntKind.i64.wrap (v3.1+(1:Int)),v3.2.1.set (0+v3.1.toNat) y6,())) (P (List.take v3.2.1.length (List.drop 0 v3.2.1)))) ((0:Int),List.replicate (↑is.length:Int).toNat (Int.ofNat (nat_lit 0)),PUnit.unit))=fnW Ck (look []) Ve Tryz.f80 (xs,is,()) P:=by kernel_rfl
theorem xj {p:PP} (hV:Valid p):wD p.1.toNat λg=>some g∈p.2.2.1.map some:=
 ⟨by have:=hV.n;omega,λg Mp=>by obtain ⟨g',e,h⟩:=dk (cw hV).2.2 _ Mp;cases e;exact h⟩
theorem XK {p:PP} (_hV:Valid p) {x:List Int} (h:Dd p.1 x=true):Pm p.1.toNat x:=by
 obtain ⟨h1,h2⟩:=Eh.1 h
 exact ⟨by omega,aX h2⟩
theorem IT (xs is:List Int) (h:short is/\Hw xs.length is):fnW Ck (look []) Ve Tryz.f80 (xs,is,()) (λ(z:List Int)=>z=By xs is):=by
 obtain ⟨h,hr⟩:=h
 unfold short at h
 have Mg:(By xs is).length=is.length:=oR xs is
 refine Eq.mp (KQ xs is _) ⟨⟨by omega,by show (is.length:Int)<(4294967296:Int)+1;omega⟩,rfl,rfl,rfl,?_⟩
 refine Ag is.length (λv=>v.1) (λj v=>v.2.1.length=(By xs is).length/\v.2.1.take j=(By xs is).take j) rfl ⟨by rw [Mg];simp,by simp⟩ ?_
 rintro j ⟨i,ys,⟨⟩⟩ K hj hi ⟨h1,h2⟩ hK
 dsimp only at hi h1 h2⊢
 subst hi
 refine Br.dec (λhl=>?_) λhl=>?_
 ·have hl:j<is.length:=by omega
  have hx:=hr _ (List.getElem_mem hl)
  obtain ⟨xn,hxe⟩:=Int.eq_ofNat_of_zero_le hx.1
  have Ge:j<(By xs is).length:=by rw [Mg];exact hl
  have e:xs[xn]'(by omega)=(By xs is)[j]:=by
   simp only [By,List.getElem_map,Io,hxe,Int.toNat_natCast]
   rw [Ul]
  refine ⟨_,Ap hl,xs[xn]'(by omega),by rw [hxe];exact Ap (by omega),⟨by omega,by omega⟩,by rw [Int.toNat_natCast,Nat.zero_add];omega,rfl,by rw [List.length_set],?_⟩
  rw [Ah (by omega),Int.toNat_natCast,Nat.zero_add,e]
  refine hK hl _ rfl ⟨by rw [List.length_set];exact h1,?_⟩
  rw [List.take_add_one,List.take_set_of_le (by omega),h2,List.getElem?_set_self (by omega),List.take_add_one,List.getElem?_eq_getElem Ge]
 ·have:j=is.length:=by omega
  subst this
  rw [Ay,<-List.take_length (l:=ys),h1,Mg,h2,<-Mg,List.take_length]
theorem rq:Sound Tryz.prog 80 Ve:=
 Sound.Cu Bj Ai mixed Tryz.func80 (by kernel_rfl) (by kernel_rfl) λx h=>IT x.1 x.2.1 h
end Go.Proofs.YtfolipnappekaaaGreat

namespace Go.Proofs.YtfolipnappekaaaGreat
open Go.RowKit
theorem map_take {α β:Type} (f:α->β) {xs:List α} {j:Nat} (h:j<xs.length):(xs.take (j+1)).map f=(xs.take j).map f++ [f xs[j]]:=by
 rw [List.take_add_one,List.getElem?_eq_getElem h,List.map_append];rfl
end Go.Proofs.YtfolipnappekaaaGreat

namespace Go.Proofs.YtfolipnappekaaaGreat
open Go.RowKit
theorem sC {α:Type} {P:α->Bool} : ∀(l:List α) (i:Nat),l.any P=true-> ∃k,∃h:k<l.length,Dy P l (i:Int)=((i+k:Nat):Int)/\P l[k]=true/\ ∀j (h:j<k),P (l[j]'(by omega))=false
 | [],i,h=>by simp at h
 |y::r,i,h=>by
  simp only [Dy]
  by_cases hy:P y=true
  ·rw [if_pos hy]
   exact ⟨0,by simp,rfl,hy,λj hj=>absurd hj (Nat.not_lt_zero _)⟩
  ·rw [if_neg hy]
   have hr:r.any P=true:=by
    rw [List.any_cons,Bool.or_eq_true] at h
    exact h.resolve_left hy
   obtain ⟨k,hk,h1,h2,h3⟩:=sC r (i+1) hr
   refine ⟨k+1,by simpa using hk,?_,h2,λj hj=>?_⟩
   ·rw [show ((i:Int)+1)=((i+1:Nat):Int) by push_cast;rfl,h1]
    congr 1
    omega
   ·cases j with
    |zero=>exact Bool.not_eq_true _|>.mp hy
    |succ j=>exact h3 j (by omega)
end Go.Proofs.YtfolipnappekaaaGreat

namespace Go.Proofs.YtfolipnappekaaaGreat
open Go.RowKit
theorem dj {s q t:List Int} (h:Hw s.length t):By (Aa s q) t=Aa (By s t) q:=by
 unfold By Aa
 rw [List.map_map]
 refine List.map_congr_left λy hy=>?_
 obtain ⟨h1,h2⟩:=h y hy
 have hy':y.toNat<s.length:=by omega
 show Io (s.map (Io q)) y=Io q (Io s y)
 unfold Io
 rw [Ul (by rw [List.length_map];exact hy'),List.getElem_map,Ul hy']
 try rfl
theorem JA {n:Nat} {t:List Int} (h: ∀y∈t,0<=y/\y<(n:Int)):By (upto n) t=t:=by
 unfold By
 refine (List.map_congr_left λy hy=>?_).trans (List.map_id t)
 obtain ⟨h1,h2⟩:=h y hy
 obtain ⟨k,rfl⟩:=Int.eq_ofNat_of_zero_le h1
 have hk:k<n:=by omega
 show Io (upto n) (k:Int)=(k:Int)
 unfold Io
 rw [Int.toNat_natCast,List.getD_eq_getElem?_getD,pW hk]
 rfl
noncomputable def gG (p:PP) (t:List Int):List (List Int):=(Gi p.2.2.1 t).1
noncomputable def NY (p:PP) (t:List Int):List Int:=(Gi p.2.2.1 t).2.1
theorem zc {p:PP} {t:List Int} (ht:Cx p t=true): ∀y∈t,0<=y/\y<((p.1.toNat:Nat):Int):= λy hy=>by
 have h1:=(Ey ht).2 y hy
 have:=(valid (Ly.1 ht).1).n
 omega
theorem Pe.congr {g:List (List Int)} {ls:List Int} {L:List (List Int)} {S S':List Int->Prop} {d:List Int->Int} (h:Pe g ls L S d) (e: ∀x∈L,S x↔S' x):Pe g ls L S' d:=
 ⟨h.nn,λx hx=>(h.zero x hx).trans (e x hx),h.step,h.down⟩
theorem IZ {p:PP} {t:List Int} (ht:Cx p t=true):(gG p t).getD 0 []=t/\t∈gG p t:=by
 obtain ⟨_,A,h⟩:=zR (Ly.1 ht).1 (Ey ht).1 (Ey ht).2
 have h:gG p t=t::A:=h
 rw [h]
 exact ⟨rfl,by simp⟩
end Go.Proofs.YtfolipnappekaaaGreat

namespace Go.Proofs.YtfolipnappekaaaGreat
open Go.RowKit
def known (row:Row):List (List Int):=row.filterMap id
mutual
def eN (n:Nat):Nat->Nat->List Int->Ax×Ax->Ax×Ax
 |0,_,_,s=>s
 |f+1,k,p,s=>if Ee s.2 (n-k) k p=true then s else
   ((known (s.2.getD k [])).map λu=>Aa u p).foldl (λs q=>bC n f k q s) (s.1.set k (s.1.getD k []++ [some p]),s.2)
def bC (n:Nat):Nat->Nat->List Int->Ax×Ax->Ax×Ax
 |0,_,_,s=>s
 |f+1,k,p,s=>match (s.2.getD k []).getD (ap p k) none with
  |some t=>eN n f (k+1) (Aa p (Af t)) s
  |none=>((s.1.getD k []).map λo=>Aa p (o.getD [])).foldl (λs q=>bC n f k q s) (s.1,s.2.set k ((s.2.getD k []).set (ap p k) (some p)))
end
structure Part (n k:Nat) (s:Ax×Ax):Prop where
 l1:s.1.length=n
 l2:s.2.length=n
 pg:PG n k (s.1.getD k [])
 row:Og n k (s.1.getD k []) (s.2.getD k [])
 comp:eM n (n-(k+1)) (k+1) s
 gb:GBf (n-(k+1)) (k+1) s
 sub: ∀g,some g∈s.1.getD (k+1) []->Gn n (s.1.getD k []) g
def Hd (n k:Nat) (s:Ax×Ax) (q:List Int):Prop:= ∃t,(s.2.getD k []).getD (ap q k) none=some t/\Ee s.2 (n-(k+1)) (k+1) (Aa q (Af t))=true
structure Xb (n k:Nat) (s s':Ax×Ax):Prop where
 grow:Pf k s s'
 same:s'.1.getD k []=s.1.getD k []
 part:Part n k s'
 Ch: ∀q,Pm n q->Fx k q->Hd n k s q->Hd n k s' q
 new: ∀y t,(s'.2.getD k []).getD y none=some t->(s.2.getD k []).getD y none=some t\/ ∀g,some g∈s.1.getD k []->Hd n k s' (Aa t g)
theorem Xb.refl {n k:Nat} {s:Ax×Ax} (h:Part n k s):Xb n k s s:=⟨Pf.refl _ _,rfl,h,λ_ _ _ h=>h,λ_ _ h=> .inl h⟩
theorem Part.tg {n k:Nat} {s:Ax×Ax} (h:Part n k s) (hk:k<n) {y:Nat} {t g:List Int} (ht:(s.2.getD k []).getD y none=some t) (hg:some g∈s.1.getD k []):Pm n (Aa t g)/\Fx k (Aa t g)/\ap (Aa t g) k=ap g y:=by
 obtain ⟨t1,t2,t3,t4⟩:=h.row.rt _ _ ht
 obtain ⟨g',e,g1,g2⟩:=h.pg _ hg
 cases e
 exact ⟨t1.comp g1,Fx.comp t1 g1 t2 g2 (by omega),by rw [He t1 g1 hk,t3]⟩
theorem Xb.trans {n k:Nat} {a b c:Ax×Ax} (hk:k<n) (h:Xb n k a b) (h':Xb n k b c):Xb n k a c:=by
 refine ⟨h.grow.trans h'.grow (Nat.le_refl _),h'.same.trans h.same,h'.part,λq h1 h2 h3=>h'.Ch q h1 h2 (h.Ch q h1 h2 h3),λy t e=>?_⟩
 rcases h'.new y t e with e1|e1
 ·rcases h.new y t e1 with e2|e2
  ·exact .inl e2
  ·refine .inr λg hg=>?_
   obtain ⟨p1,p2,_⟩:=h.part.tg hk e1 (by rw [h.same];exact hg)
   exact h'.Ch _ p1 p2 (e2 g hg)
 ·exact .inr λg hg=>e1 g (by rw [h.same];exact hg)
theorem Part.pms {n k:Nat} {s:Ax×Ax} (h1:1<=n) (h2:n<=20) (h:Part n k s):wD n λg=>some g∈s.1.getD k []:=⟨⟨h1,h2⟩,λg hg=>by obtain ⟨g',e,h,_⟩:=h.pg _ hg;cases e;exact h⟩
theorem Part.v {n k:Nat} {s:Ax×Ax} (h:Part n k s):V n (n-(k+1)) (k+1) s:=⟨h.l1,h.l2,h.comp,h.gb⟩
theorem sf (row:Row):qk row+Hj row=row.length:=by
 induction row with
 |nil=>rfl
 |cons o r ih=>
  unfold qk Hj at*
  cases o<;>simp [List.countP_cons]<;>omega
theorem BT {a b:Row} (hl:b.length=a.length) (h: ∀y t,a.getD y none=some t->b.getD y none=some t):Hj b<=Hj a:=by
 have h1:=(jT a b hl.symm h).1
 have h2:=sf a
 have h3:=sf b
 omega
def GD (n k:Nat):Nat:=(n-k)*(n+2)+(n+1)
def hZ (n k:Nat) (s:Ax×Ax):Nat:=(n-k)*(n+2)+Hj (s.2.getD k [])
theorem Xb.mu {n k:Nat} {s s':Ax×Ax} (h:Xb n k s s'):hZ n k s'<=hZ n k s:=by
 have:=BT (h.grow.PD k) (h.grow.pT k)
 unfold hZ;omega
theorem ed {n k f:Nat} (hk:k<n) {gs:List PO}
  (IH: ∀q s,Part n k s->s.1.getD k []=gs->Pm n q->Fx k q->Gn n gs q->hZ n k s<=f->(Xb n k s (bC n f k q s)/\Hd n k (bC n f k q s) q)/\ ∀f',f<=f'->bC n f' k q s=bC n f k q s):
  ∀(qs:List (List Int)) (s:Ax×Ax),Part n k s->s.1.getD k []=gs->(∀q∈qs,Pm n q/\Fx k q/\Gn n gs q)->hZ n k s<=f->
   Xb n k s (qs.foldl (λs q=>bC n f k q s) s)/\(∀q∈qs,Hd n k (qs.foldl (λs q=>bC n f k q s) s) q)/\ ∀f',f<=f'->qs.foldl (λs q=>bC n f' k q s) s=qs.foldl (λs q=>bC n f k q s) s
 | [],s,hp,_,_,_=>⟨Xb.refl hp,λq hq=>(by cases hq),λ_ _=>rfl⟩
 |q::qs,s,hp,hg,hq,hm=>by
  obtain ⟨q1,q2,q3⟩:=hq q (by simp)
  obtain ⟨⟨a1,a2⟩,a3⟩:=IH q s hp hg q1 q2 q3 hm
  obtain ⟨b1,b2,b3⟩:=ed hk IH qs (bC n f k q s) a1.part (a1.same.trans hg) (λq' h=>hq q' (List.mem_cons_of_mem _ h)) (Nat.le_trans a1.mu hm)
  simp only [List.foldl_cons]
  refine ⟨a1.trans hk b1,λq' gz=>?_,λf' hf=>?_⟩
  ·rcases List.mem_cons.1 gz with rfl|gz
   ·exact b1.Ch _ q1 q2 a2
   ·exact b2 q' gz
  ·rw [a3 f' hf];exact b3 f' hf
theorem xq {n k:Nat} (h1:1<=n) (h2:n<=20) (hk:k<n) {s s':Ax×Ax} (hs:eM n (n-(k+1)) (k+1) s) (xA:eM n (n-(k+1)) (k+1) s') (hg:Pf k s s') {x:List Int} (hx:Pm n x) (hf:Fx (k+1) x)
  (h:Ee s.2 (n-(k+1)) (k+1) x=true):Ee s'.2 (n-(k+1)) (k+1) x=true:=
 (Np h1 h2 _ (k+1) s' (by omega) xA x hx hf).2 (((Np h1 h2 _ (k+1) s (by omega) hs x hx hf).1 h).mono λg sw=>hg.sm _ _ sw)
theorem ey {row:Row} {u:List Int} :u∈known row↔ ∃y,row.getD y none=some u:=by
 unfold known
 rw [List.mem_filterMap]
 constructor
 ·rintro ⟨o,ho,e⟩
  obtain ⟨y,hy,rfl⟩:=List.mem_iff_getElem.1 ho
  exact ⟨y,by rw [List.getD_eq_getElem?_getD,List.getElem?_eq_getElem hy];exact e⟩
 ·rintro ⟨y,hy⟩
  have hl:=iH hy
  rw [List.getD_eq_getElem?_getD,List.getElem?_eq_getElem hl] at hy
  exact ⟨row[y],List.getElem_mem hl,hy⟩
theorem EW {n:Nat} (h1:1<=n) (h2:n<=20): ∀f:Nat,
  (∀k p s,k<=n->V n (n-k) k s->Pm n p->Fx k p->GD n k<=f->LI n (n-k) k s p (eN n f k p s)/\ ∀f',f<=f'->eN n f' k p s=eN n f k p s)/\
  (∀k q s,k<n->Part n k s->Pm n q->Fx k q->Gn n (s.1.getD k []) q->hZ n k s<=f->(Xb n k s (bC n f k q s)/\Hd n k (bC n f k q s) q)/\ ∀f',f<=f'->bC n f' k q s=bC n f k q s)
 |0=>⟨λk p s _ _ _ _ h=>by unfold GD at h;omega,λk q s hk _ _ _ _ h=>by
   unfold hZ at h
   have:1*(n+2)<=(n-k)*(n+2):=Nat.mul_le_mul_right _ (by omega)
   omega⟩
 |f+1=>by
  obtain ⟨ihG,ihP⟩:=EW h1 h2 f
  refine ⟨λk p s hk hv hp hf RK=>?_,λk q s hk Ww hq hf zD RK=>?_⟩
  ·
   have xE: ∀f',f+1<=f'-> ∃zA,f'=zA+1/\f<=zA:= λf' h=>⟨f'-1,by omega,by omega⟩
   by_cases hh:Ee s.2 (n-k) k p=true
   ·have e: ∀f',eN n (f'+1) k p s=s:= λf'=>by simp only [eN];rw [if_pos hh]
    rw [e f]
    refine ⟨⟨hv,Pf.refl _ _,(Np h1 h2 _ k s (by omega) hv.2.2.1 p hp hf).1 hh,λo ho=> .inl ho⟩,λf' zC=>?_⟩
    obtain ⟨zA,rfl,_⟩:=xE f' zC
    exact e zA
   have MU:k<n:=by
    refine Nat.lt_of_le_of_ne hk λe=>hh ?_
    subst e
    rw [Nat.sub_self];rfl
   obtain ⟨v1,v2,hc,su⟩:=hv
   have fj:=hc
   have Ams:=su
   obtain ⟨m,hm⟩: ∃m,n-k=m+1:=⟨n-k-1,by omega⟩
   have xy:n-(k+1)=m:=by omega
   rw [hm] at hc su
   obtain ⟨c1,c2,c3⟩:=hc
   generalize iL:s.1.getD k []++ [some p]=gs
   have Tl:some p∈gs:=by rw [<-iL];simp
   have Kh: ∀o∈s.1.getD k [],o∈gs:= λo ho=>by rw [<-iL];exact List.mem_append_left _ ho
   have hg:PG n k gs:= λo ho=>by
    rw [<-iL] at ho
    rcases List.mem_append.1 ho with ho|ho
    ·exact c2.pg o ho
    ·rw [List.mem_singleton] at ho;exact ⟨p,ho,hp,hf⟩
   have hS:wD n λg=>some g∈gs:=⟨⟨h1,h2⟩,λg Mp=>by obtain ⟨g',e,h,_⟩:=hg _ Mp;cases e;exact h⟩
   have p9: ∀i,(s.1.set k gs).getD i []=if i=k then gs else s.1.getD i []:= λi=>by
    rw [Gq]
    by_cases e:k=i
    ·subst e;rw [if_pos ⟨rfl,by omega⟩,if_pos rfl]
    ·rw [if_neg (λhh=>e hh.1),if_neg (Ne.symm e)]
   have sA: ∀i,k+1<=i->(s.1.set k gs).getD i []=s.1.getD i []/\s.2.getD i []=s.2.getD i []:= λi hi=>⟨by rw [p9 i,if_neg (by omega)],rfl⟩
   have xz:Part n k (s.1.set k gs,s.2):=by
    refine ⟨by simpa using v1,v2,?_,?_,?_,?_,λg Mp=>?_⟩
    ·show PG n k ((s.1.set k gs).getD k []);rw [p9 k,if_pos rfl];exact hg
    ·show Og n k ((s.1.set k gs).getD k []) _
     rw [p9 k,if_pos rfl]
     exact ⟨c2.rl,c2.r0,λy t e=>⟨(c2.rt y t e).1,(c2.rt y t e).2.1,(c2.rt y t e).2.2.1,(c2.rt y t e).2.2.2.mono λg hg=>Kh _ hg⟩⟩
    ·rw [xy];exact Nx m (k+1) sA c1
    ·rw [xy];exact Vx m (k+1) sA su.1
    ·have Mp:some g∈(s.1.set k gs).getD (k+1) []:=Mp
     rw [(sA (k+1) (Nat.le_refl _)).1] at Mp
     show Gn n ((s.1.set k gs).getD k []) g
     rw [p9 k,if_pos rfl]
     exact (c3 g Mp).mono λg hg=>Kh _ hg
   have ej:((s.1.set k gs,s.2):Ax×Ax).1.getD k []=gs:=by show (s.1.set k gs).getD k []=gs;rw [p9 k,if_pos rfl]
   have gy:Pf k s (s.1.set k gs,s.2):=by
    refine ⟨by simp,rfl,λi hi=>⟨?_,rfl⟩,λi o ho=>?_,λi y t e=>e,λi=>rfl⟩
    ·show (s.1.set k gs).getD i []=_;rw [p9 i,if_neg (by omega)]
    ·show o∈(s.1.set k gs).getD i []
     rw [p9 i]
     split
     ·rename_i hi;subst hi;exact Kh o ho
     ·exact ho
   have hmP:hZ n k (s.1.set k gs,s.2)<=f:=by
    have hn:=dh (s.2.getD k [])
    have hr:=c2.rl
    unfold hZ
    unfold GD at RK
    show (n-k)*(n+2)+Hj (s.2.getD k [])<=f
    omega
   have HR: ∀q∈(known (s.2.getD k [])).map (λu=>Aa u p),Pm n q/\Fx k q/\Gn n gs q:= λq hq=>by
    obtain ⟨u,hu,rfl⟩:=List.mem_map.1 hq
    obtain ⟨y,hy⟩:=ey.1 hu
    obtain ⟨t1,t2,t3,t4⟩:=c2.rt _ _ hy
    exact ⟨t1.comp hp,Fx.comp t1 hp t2 hf hk, .mul (t4.mono λg hg=>Kh _ hg) Tl⟩
   obtain ⟨r1,r2,r3⟩:=ed MU (gs:=gs) (λq s iM Mp a b c d=>ihP k q s MU iM a b (by rw [Mp];exact c) d) ((known (s.2.getD k [])).map λu=>Aa u p) (s.1.set k gs,s.2) xz ej HR hmP
   have e: ∀f',eN n (f'+1) k p s=((known (s.2.getD k [])).map λu=>Aa u p).foldl (λs q=>bC n f' k q s) (s.1.set k gs,s.2):= λf'=>by simp only [eN];rw [if_neg hh,iL]
   refine ⟨?_,λf' zC=>by obtain ⟨zA,rfl,MM⟩:=xE f' zC;rw [e zA,e f];exact r3 zA MM⟩
   rw [e f]
   generalize ((known (s.2.getD k [])).map λu=>Aa u p).foldl (λs q=>bC n f k q s) (s.1.set k gs,s.2)=s' at r1 r2
   have iM:=r1.part
   have AO:s'.1.getD k []=gs:=r1.same.trans ej
   have hHd: ∀y t g,(s'.2.getD k []).getD y none=some t->some g∈gs->Hd n k s' (Aa t g):= λy t g ht sw=>by
    rcases r1.new y t ht with e1|e1
    ·have e1:(s.2.getD k []).getD y none=some t:=e1
     by_cases Ng:g=p
     ·subst Ng
      exact r2 _ (List.mem_map.2 ⟨t,ey.2 ⟨y,e1⟩,rfl⟩)
     ·have LD:some g∈s.1.getD k []:=by
       rw [<-iL] at sw
       rcases List.mem_append.1 sw with h|h
       ·exact h
       ·rw [List.mem_singleton] at h;cases h;exact absurd rfl Ng
      obtain ⟨x1,x2,x3⟩:=xz.tg MU e1 (by rw [ej];exact sw)
      refine r1.Ch _ x1 x2 ?_
      obtain ⟨t',sy⟩:=Option.ne_none_iff_exists'.1 (c2.cl y t g e1 LD)
      refine ⟨t',by show (s.2.getD k []).getD _ none=_;rw [x3];exact sy,?_⟩
      show Ee s.2 (n-(k+1)) (k+1) _=true
      rw [xy]
      exact c2.sg y t g t' e1 LD sy
    ·exact e1 g (by rw [ej];exact sw)
   have YL:RP n k gs (s'.2.getD k []) (λq=>Ee s'.2 m (k+1) q=true):=by
    have hr:=iM.row
    rw [AO] at hr
    refine ⟨hg,hr.rl,hr.r0,hr.rt,λy t g ht sw=>?_,λy t g t' ht sw sy=>?_⟩
    ·obtain ⟨t',sy,_⟩:=hHd y t g ht sw
     obtain ⟨_,_,x3⟩:=iM.tg MU ht (by rw [AO];exact sw)
     rw [<-x3,sy];simp
    ·obtain ⟨t'',Adh,hx⟩:=hHd y t g ht sw
     obtain ⟨_,_,x3⟩:=iM.tg MU ht (by rw [AO];exact sw)
     rw [x3,sy] at Adh
     cases Adh
     rw [<-xy];exact hx
   have xt:eM n (m+1) k s':=⟨by rw [<-xy];exact iM.comp,by rw [AO];exact YL,λg sw=>iM.sub g sw⟩
   have cT:Gn n (s'.1.getD k []) p:=by rw [AO];exact Xa.one hS Tl
   have o6:=gy.trans r1.grow (Nat.le_refl _)
   rw [hm]
   refine ⟨⟨iM.l1,iM.l2,xt,by rw [<-xy];exact iM.gb,?_⟩,o6,cT,λo ho=>?_⟩
   ·have hold:=su.2
    obtain ⟨p1,p2⟩:=oT o6.PD o6.pT (m+1) k
    have Fa:dm s.2 (m+1) k≠dm s'.2 (m+1) k:= λe=>by
     have:=Xk (m+1) k p (p2 e)
     rw [(Np h1 h2 (m+1) k s' (by omega) xt p hp hf).2 cT] at this
     rw [hm] at hh
     exact hh this.symm
    rw [AO,<-iL,List.length_append,List.length_singleton]
    omega
   ·rw [AO,<-iL] at ho
    rcases List.mem_append.1 ho with ho|ho
    ·exact .inl ho
    ·rw [List.mem_singleton] at ho;exact .inr ho
  ·
   have xE: ∀f',f+1<=f'-> ∃zA,f'=zA+1/\f<=zA:= λf' h=>⟨f'-1,by omega,by omega⟩
   have hS:=Ww.pms h1 h2
   have hmul:(n-k)*(n+2)=(n-(k+1))*(n+2)+(n+2):=by
    rw [show n-k=n-(k+1)+1 by omega,Nat.add_mul,Nat.one_mul]
   cases Gh:(s.2.getD k []).getD (ap q k) none with
   |some t=>
    have e: ∀f',bC n (f'+1) k q s=eN n f' (k+1) (Aa q (Af t)) s:= λf'=>by simp only [bC];rw [Gh]
    obtain ⟨t1,t2,t3,t4⟩:=Ww.row.rt _ _ Gh
    have hx:=hq.comp t1.inv
    have hfx:=Fx.div hq t1 hf t2 hk t3
    have hxg:Gn n (s.1.getD k []) (Aa q (Af t)):=Xa.comp hS zD (Xa.mY hS t4)
    obtain ⟨a1,a2⟩:=ihG (k+1) _ s (by omega) Ww.v hx hfx (by unfold GD;unfold hZ at RK;omega)
    refine ⟨?_,λf' zC=>by obtain ⟨zA,rfl,MM⟩:=xE f' zC;rw [e zA,e f];exact a2 zA MM⟩
    rw [e f]
    generalize eN n f (k+1) (Aa q (Af t)) s=s' at a1
    obtain ⟨av,ag,ai,ags⟩:=a1
    obtain ⟨w1,w2,w3,w4⟩:=av
    obtain ⟨lo1,lo2⟩:=ag.low k (by omega)
    have Aic:Part n k s':=⟨w1,w2,by rw [lo1];exact Ww.pg,by rw [lo1,lo2];exact Ww.row,w3,w4,λg sw=>by
     rw [lo1]
     rcases ags _ sw with h|h
     ·exact Ww.sub g h
     ·cases h;exact hxg⟩
    refine ⟨⟨ag.Ep (by omega),lo1,Aic,λq' q1 q2 ⟨t',e1,e2⟩=>?_,λy t e=> .inl (by rw [lo2] at e;exact e)⟩,t,by rw [lo2];exact Gh,?_⟩
    ·obtain ⟨u1,u2,u3,_⟩:=Ww.row.rt _ _ e1
     exact ⟨t',by rw [lo2];exact e1,xq h1 h2 hk Ww.comp w3 (ag.Ep (by omega)) (q1.comp u1.inv) (Fx.div q1 u1 q2 u2 hk u3) e2⟩
    ·exact (Np h1 h2 _ (k+1) s' (by omega) w3 _ hx hfx).2 ai
   |none=>
    have e: ∀f',bC n (f'+1) k q s=((s.1.getD k []).map λo=>Aa q (o.getD [])).foldl (λs q=>bC n f' k q s) (s.1,s.2.set k ((s.2.getD k []).set (ap q k) (some q))):= λf'=>by simp only [bC];rw [Gh]
    have hy:ap q k<n:=hq.lt hk
    have VZ:=Ww.row.rl
    have hyk:ap q k≠k:= λh=>by rw [h,Ww.row.r0] at Gh;cases Gh
    have qb:=Ww.l2
    generalize ly:(s.2.getD k []).set (ap q k) (some q)=Qe
    have al: ∀y,Qe.getD y none=if ap q k=y then some q else (s.2.getD k []).getD y none:= λy=>by
     rw [<-ly,Gq]
     by_cases h:ap q k=y
     ·rw [if_pos ⟨h,by omega⟩,if_pos h]
     ·rw [if_neg λhh=>h hh.1,if_neg h]
    have WN: ∀i,(s.2.set k Qe).getD i []=if i=k then Qe else s.2.getD i []:= λi=>by
     rw [Gq]
     by_cases e:k=i
     ·subst e;rw [if_pos ⟨rfl,by omega⟩,if_pos rfl]
     ·rw [if_neg (λhh=>e hh.1),if_neg (Ne.symm e)]
    have sA: ∀i,k+1<=i->s.1.getD i []=s.1.getD i []/\(s.2.set k Qe).getD i []=s.2.getD i []:= λi hi=>⟨rfl,by rw [WN i,if_neg (by omega)]⟩
    have MR:((s.1,s.2.set k Qe):Ax×Ax).2.getD k []=Qe:=by show (s.2.set k Qe).getD k []=Qe;rw [WN k,if_pos rfl]
    have xz:Part n k (s.1,s.2.set k Qe):=by
     refine ⟨Ww.l1,by simpa using qb,Ww.pg,?_,Nx _ (k+1) sA Ww.comp,Vx _ (k+1) sA Ww.gb,Ww.sub⟩
     rw [MR]
     refine ⟨by rw [<-ly,List.length_set];exact VZ,by rw [al k,if_neg hyk];exact Ww.row.r0,λy t e=>?_⟩
     rw [al y] at e
     split at e
     ·rename_i h
      cases e
      exact ⟨hq,hf,h,zD⟩
     ·exact Ww.row.rt y t e
    have gy:Pf k s (s.1,s.2.set k Qe):=by
     refine ⟨rfl,by simp,λi hi=>⟨rfl,?_⟩,λi o ho=>ho,λi y t et=>?_,λi=>?_⟩
     ·show (s.2.set k Qe).getD i []=_;rw [WN i,if_neg (by omega)]
     ·show ((s.2.set k Qe).getD i []).getD y none=some t
      rw [WN i]
      split
      ·rename_i hi
       subst hi
       rw [al y]
       split
       ·rename_i h;rw [<-h,Gh] at et;cases et
       ·exact et
      ·exact et
     ·show ((s.2.set k Qe).getD i []).length=_
      rw [WN i]
      split
      ·rename_i hi;subst hi;rw [<-ly,List.length_set]
      ·rfl
    have hnn:Hj Qe+1=Hj (s.2.getD k []):=by rw [<-ly];exact kx Gh (by omega)
    have hmP:hZ n k (s.1,s.2.set k Qe)<=f:=by
     unfold hZ
     rw [MR]
     unfold hZ at RK
     omega
    have HR: ∀x∈(s.1.getD k []).map (λo=>Aa q (o.getD [])),Pm n x/\Fx k x/\Gn n (s.1.getD k []) x:= λx hx=>by
     obtain ⟨o,ho,rfl⟩:=List.mem_map.1 hx
     obtain ⟨g,rfl,g1,g2⟩:=Ww.pg o ho
     exact ⟨hq.comp g1,Fx.comp hq g1 hf g2 (by omega), .mul zD ho⟩
    obtain ⟨r1,r2,r3⟩:=ed hk (gs:=s.1.getD k []) (λq s iM Mp a b c d=>ihP k q s hk iM a b (by rw [Mp];exact c) d) ((s.1.getD k []).map λo=>Aa q (o.getD [])) (s.1,s.2.set k Qe) xz rfl HR hmP
    have e': ∀f',bC n (f'+1) k q s=((s.1.getD k []).map λo=>Aa q (o.getD [])).foldl (λs q=>bC n f' k q s) (s.1,s.2.set k Qe):= λf'=>by rw [e f',ly]
    refine ⟨?_,λf' zC=>by obtain ⟨zA,rfl,MM⟩:=xE f' zC;rw [e' zA,e' f];exact r3 zA MM⟩
    rw [e' f]
    generalize ((s.1.getD k []).map λo=>Aa q (o.getD [])).foldl (λs q=>bC n f k q s) (s.1,s.2.set k Qe)=s' at r1 r2
    have xC:s'.1.getD k []=s.1.getD k []:=r1.same
    have YG: ∀x,Pm n x->Fx k x->Hd n k s x->Hd n k (s.1,s.2.set k Qe) x:= λx x1 x2 ⟨t',e1,e2⟩=>by
     obtain ⟨u1,u2,u3,_⟩:=Ww.row.rt _ _ e1
     exact ⟨t',gy.pT k _ _ e1,xq h1 h2 hk Ww.comp xz.comp gy (x1.comp u1.inv) (Fx.div x1 u1 x2 u2 hk u3) e2⟩
    have hqq:(s'.2.getD k []).getD (ap q k) none=some q:=r1.grow.pT k _ _ (by rw [MR,al,if_pos rfl])
    refine ⟨⟨gy.trans r1.grow (Nat.le_refl _),xC,r1.part,λx x1 x2 x3=>r1.Ch x x1 x2 (YG x x1 x2 x3),λy t ht=>?_⟩,q,hqq,?_⟩
    ·rcases r1.new y t ht with e1|e1
     ·rw [MR,al y] at e1
      split at e1
      ·cases e1
       refine .inr λg hg=>r2 _ (List.mem_map.2 ⟨some g,hg,rfl⟩)
      ·exact .inl e1
     ·exact .inr e1
    ·rw [im hq]
     exact (Np h1 h2 _ (k+1) s' (by omega) r1.part.comp _ (Pm.id h1 h2) (λi hi=>eZ (by omega))).2 .id
end Go.Proofs.YtfolipnappekaaaGreat

namespace Go.Proofs.YtfolipnappekaaaGreat
open Go.RowKit
theorem EU {n f k:Nat} {p:List Int} {s:Ax×Ax} :eN n (f+1) k p s=if Ee s.2 (n-k) k p=true then s else
  ((known (s.2.getD k [])).map λu=>Aa u p).foldl (λs q=>bC n f k q s) (s.1.set k (s.1.getD k []++ [some p]),s.2):=by simp only [eN]
theorem EV {n f k:Nat} {p:List Int} {s:Ax×Ax} :bC n (f+1) k p s=match (s.2.getD k []).getD (ap p k) none with
  |some t=>eN n f (k+1) (Aa p (Af t)) s
  |none=>((s.1.getD k []).map λo=>Aa p (o.getD [])).foldl (λs q=>bC n f k q s) (s.1,s.2.set k ((s.2.getD k []).set (ap p k) (some p))):=by simp only [bC]<;>rfl
theorem WI {n k:Nat} (h2:n<=20):(n-k)*(n+2)<=440:=Nat.le_trans (Nat.mul_le_mul (show n-k<=20 by omega) (show n+2<=22 by omega)) (by omega)
theorem OD {n k f:Nat} (h2:n<=20) (hf:500<=f):GD n k<=f:=by have:=WI (k:=k) h2;unfold GD;omega
theorem ZR {n k f:Nat} {s:Ax×Ax} (h2:n<=20) (hp:Part n k s) (hf:500<=f):hZ n k s<=f:=by
 have:=WI (k:=k) h2
 have h:=dh (s.2.getD k [])
 have hr:=hp.row.rl
 unfold hZ;omega
theorem XA {n k:Nat} (h1:1<=n) (h2:n<=20) {p:List Int} {s:Ax×Ax} (hk:k<=n) (hv:V n (n-k) k s) (hp:Pm n p) (hf:Fx k p):LI n (n-k) k s p (eN n 1000 k p s):=
 ((EW h1 h2 1000).1 k p s hk hv hp hf (OD h2 (by omega))).1
def cM (n k:Nat) (qs:List (List Int)) (s:Ax×Ax):Ax×Ax:=qs.foldl (λs q=>bC n 1000 k q s) s
theorem nU {n k:Nat} (h1:1<=n) (h2:n<=20) (hk:k<n) {qs:List (List Int)} {s:Ax×Ax} (hp:Part n k s) (hq: ∀q∈qs,Pm n q/\Fx k q/\Gn n (s.1.getD k []) q):
  Xb n k s (cM n k qs s)/\qs.foldl (λs q=>bC n 999 k q s) s=cM n k qs s:=by
 have h:=ed hk (f:=999) (gs:=s.1.getD k []) (λq s' iM Mp a b c d=>(EW h1 h2 999).2 k q s' hk iM a b (by rw [Mp];exact c) d) qs s hp rfl hq (ZR h2 hp (by omega))
 have e:=h.2.2 1000 (by omega)
 refine ⟨?_,e.symm⟩
 unfold cM
 rw [e];exact h.1
theorem nV {n k:Nat} {qs:List (List Int)} {s:Ax×Ax} {j:Nat} (hj:j<qs.length):cM n k (qs.take (j+1)) s=bC n 1000 k qs[j] (cM n k (qs.take j) s):=by
 unfold cM
 rw [List.take_add_one,List.getElem?_eq_getElem hj,Option.toList_some,List.foldl_append]
 rfl
theorem wE {n k:Nat} (h1:1<=n) (h2:n<=20) {p:List Int} {s:Ax×Ax} (MU:k<n) (hv:V n (n-k) k s) (hp:Pm n p) (hf:Fx k p):
  Part n k (s.1.set k (s.1.getD k []++ [some p]),s.2)/\ ∀q∈(known (s.2.getD k [])).map (λu=>Aa u p),Pm n q/\Fx k q/\Gn n ((s.1.set k (s.1.getD k []++ [some p])).getD k []) q:=by
 obtain ⟨v1,v2,hc,su⟩:=hv
 obtain ⟨m,hm⟩: ∃m,n-k=m+1:=⟨n-k-1,by omega⟩
 have xy:n-(k+1)=m:=by omega
 rw [hm] at hc su
 obtain ⟨c1,c2,c3⟩:=hc
 generalize iL:s.1.getD k []++ [some p]=gs
 have Tl:some p∈gs:=by rw [<-iL];simp
 have Kh: ∀o∈s.1.getD k [],o∈gs:= λo ho=>by rw [<-iL];exact List.mem_append_left _ ho
 have hg:PG n k gs:= λo ho=>by
  rw [<-iL] at ho
  rcases List.mem_append.1 ho with ho|ho
  ·exact c2.pg o ho
  ·rw [List.mem_singleton] at ho;exact ⟨p,ho,hp,hf⟩
 have p9: ∀i,(s.1.set k gs).getD i []=if i=k then gs else s.1.getD i []:= λi=>by
  rw [Gq]
  by_cases e:k=i
  ·subst e;rw [if_pos ⟨rfl,by omega⟩,if_pos rfl]
  ·rw [if_neg (λhh=>e hh.1),if_neg (Ne.symm e)]
 have sA: ∀i,k+1<=i->(s.1.set k gs).getD i []=s.1.getD i []/\s.2.getD i []=s.2.getD i []:= λi hi=>⟨by rw [p9 i,if_neg (by omega)],rfl⟩
 refine ⟨⟨by simpa using v1,v2,?_,?_,?_,?_,λg Mp=>?_⟩,λq hq=>?_⟩
 ·show PG n k ((s.1.set k gs).getD k []);rw [p9 k,if_pos rfl];exact hg
 ·show Og n k ((s.1.set k gs).getD k []) _
  rw [p9 k,if_pos rfl]
  exact ⟨c2.rl,c2.r0,λy t e=>⟨(c2.rt y t e).1,(c2.rt y t e).2.1,(c2.rt y t e).2.2.1,(c2.rt y t e).2.2.2.mono λg hg=>Kh _ hg⟩⟩
 ·rw [xy];exact Nx m (k+1) sA c1
 ·rw [xy];exact Vx m (k+1) sA su.1
 ·have Mp:some g∈(s.1.set k gs).getD (k+1) []:=Mp
  rw [(sA (k+1) (Nat.le_refl _)).1] at Mp
  show Gn n ((s.1.set k gs).getD k []) g
  rw [p9 k,if_pos rfl]
  exact (c3 g Mp).mono λg hg=>Kh _ hg
 ·rw [p9 k,if_pos rfl]
  obtain ⟨u,hu,rfl⟩:=List.mem_map.1 hq
  obtain ⟨y,hy⟩:=ey.1 hu
  obtain ⟨t1,t2,t3,t4⟩:=c2.rt _ _ hy
  exact ⟨t1.comp hp,Fx.comp t1 hp t2 hf (by omega), .mul (t4.mono λg hg=>Kh _ hg) Tl⟩
theorem LR {n k:Nat} (h1:1<=n) (h2:n<=20) {p:List Int} {s:Ax×Ax} (MU:k<n) (hv:V n (n-k) k s) (hp:Pm n p) (hf:Fx k p) (hh: ¬Ee s.2 (n-k) k p=true):
  eN n 1000 k p s=cM n k ((known (s.2.getD k [])).map λu=>Aa u p) (s.1.set k (s.1.getD k []++ [some p]),s.2):=by
 obtain ⟨a1,a2⟩:=wE h1 h2 MU hv hp hf
 rw [<-(nU h1 h2 MU a1 a2).2]
 exact (EU (f:=999)).trans (if_neg hh)
theorem ET {n k:Nat} {p:List Int} {s:Ax×Ax} (hh:Ee s.2 (n-k) k p=true):eN n 1000 k p s=s:=by
 exact (EU (f:=999)).trans (if_pos hh)
theorem LU {n k:Nat} (h1:1<=n) (h2:n<=20) {q t:List Int} {s:Ax×Ax} (hk:k<n) (Ww:Part n k s) (hq:Pm n q) (hf:Fx k q) (Gh:(s.2.getD k []).getD (ap q k) none=some t):
  bC n 1000 k q s=eN n 1000 (k+1) (Aa q (Af t)) s:=by
 obtain ⟨t1,t2,t3,t4⟩:=Ww.row.rt _ _ Gh
 rw [((EW h1 h2 999).1 (k+1) _ s (by omega) Ww.v (hq.comp t1.inv) (Fx.div hq t1 hf t2 hk t3) (OD h2 (by omega))).2 1000 (by omega)]
 refine (EV (f:=999)).trans ?_
 rw [Gh]
theorem wF {n k:Nat} {q:List Int} {s:Ax×Ax} (hk:k<n) (Ww:Part n k s) (hq:Pm n q) (hf:Fx k q) (zD:Gn n (s.1.getD k []) q) (Gh:(s.2.getD k []).getD (ap q k) none=none):
  Part n k (s.1,s.2.set k ((s.2.getD k []).set (ap q k) (some q)))/\ ∀x∈(s.1.getD k []).map (λo=>Aa q (o.getD [])),Pm n x/\Fx k x/\Gn n (s.1.getD k []) x:=by
 have VZ:=Ww.row.rl
 have hy:ap q k<n:=hq.lt hk
 have hyk:ap q k≠k:= λh=>by rw [h,Ww.row.r0] at Gh;cases Gh
 have qb:=Ww.l2
 generalize ly:(s.2.getD k []).set (ap q k) (some q)=Qe
 have al: ∀y,Qe.getD y none=if ap q k=y then some q else (s.2.getD k []).getD y none:= λy=>by
  rw [<-ly,Gq]
  by_cases h:ap q k=y
  ·rw [if_pos ⟨h,by omega⟩,if_pos h]
  ·rw [if_neg λhh=>h hh.1,if_neg h]
 have WN: ∀i,(s.2.set k Qe).getD i []=if i=k then Qe else s.2.getD i []:= λi=>by
  rw [Gq]
  by_cases e:k=i
  ·subst e;rw [if_pos ⟨rfl,by omega⟩,if_pos rfl]
  ·rw [if_neg (λhh=>e hh.1),if_neg (Ne.symm e)]
 have sA: ∀i,k+1<=i->s.1.getD i []=s.1.getD i []/\(s.2.set k Qe).getD i []=s.2.getD i []:= λi hi=>⟨rfl,by rw [WN i,if_neg (by omega)]⟩
 have MR:((s.1,s.2.set k Qe):Ax×Ax).2.getD k []=Qe:=by show (s.2.set k Qe).getD k []=Qe;rw [WN k,if_pos rfl]
 refine ⟨⟨Ww.l1,by simpa using qb,Ww.pg,?_,Nx _ (k+1) sA Ww.comp,Vx _ (k+1) sA Ww.gb,Ww.sub⟩,λx hx=>?_⟩
 ·rw [MR]
  refine ⟨by rw [<-ly,List.length_set];exact VZ,by rw [al k,if_neg hyk];exact Ww.row.r0,λy t e=>?_⟩
  rw [al y] at e
  split at e
  ·rename_i h
   cases e
   exact ⟨hq,hf,h,zD⟩
  ·exact Ww.row.rt y t e
 ·obtain ⟨o,ho,rfl⟩:=List.mem_map.1 hx
  obtain ⟨g,rfl,g1,g2⟩:=Ww.pg o ho
  exact ⟨hq.comp g1,Fx.comp hq g1 hf g2 (by omega), .mul zD ho⟩
theorem LS {n k:Nat} (h1:1<=n) (h2:n<=20) {q:List Int} {s:Ax×Ax} (hk:k<n) (Ww:Part n k s) (hq:Pm n q) (hf:Fx k q) (zD:Gn n (s.1.getD k []) q) (Gh:(s.2.getD k []).getD (ap q k) none=none):
  bC n 1000 k q s=cM n k ((s.1.getD k []).map λo=>Aa q (o.getD [])) (s.1,s.2.set k ((s.2.getD k []).set (ap q k) (some q))):=by
 obtain ⟨a1,a2⟩:=wF hk Ww hq hf zD Gh
 rw [<-(nU h1 h2 hk a1 a2).2]
 refine (EV (f:=999)).trans ?_
 rw [Gh]
def Ke (n:Nat) (gens:List PO):Ax×Ax:=gens.foldl (λs o=>eN n 1000 0 (o.getD []) s) (Na n,Rw n)
theorem tF {n:Nat} {gens:List PO} {j:Nat} (hj:j<gens.length):Ke n (gens.take (j+1))=eN n 1000 0 (gens[j].getD []) (Ke n (gens.take j)):=by
 unfold Ke
 rw [List.take_add_one,List.getElem?_eq_getElem hj,Option.toList_some,List.foldl_append]
 rfl
theorem fZ {n:Nat} (h1:1<=n) (h2:n<=20): ∀(gens:List PO) (s:Ax×Ax),WY n gens->V n n 0 s->V n n 0 (gens.foldl (λs o=>eN n 1000 0 (o.getD []) s) s)/\
  Pf 0 s (gens.foldl (λs o=>eN n 1000 0 (o.getD []) s) s)/\(∀g,some g∈gens->Gn n ((gens.foldl (λs o=>eN n 1000 0 (o.getD []) s) s).1.getD 0 []) g)/\ ∀o∈(gens.foldl (λs o=>eN n 1000 0 (o.getD []) s) s).1.getD 0 [],o∈s.1.getD 0 []\/o∈gens
 | [],s,_,hv=>⟨hv,Pf.refl _ _,(λ_ hg=>by cases hg),λ_ ho=> .inl ho⟩
 |o::gens,s,hg,hv=>by
  obtain ⟨g,rfl,Ng⟩:=hg o (by simp)
  have ha:=XA h1 h2 (k:=0) (Nat.zero_le _) (by rw [Nat.sub_zero];exact hv) Ng (λi hi=>absurd hi (Nat.not_lt_zero _))
  have FL:=ha.v
  rw [Nat.sub_zero] at FL
  obtain ⟨a1,a2,a3,a4⟩:=fZ h1 h2 gens (eN n 1000 0 g s) (λo ho=>hg o (by simp [ho])) FL
  refine ⟨a1,ha.grow.trans a2 (Nat.le_refl _),λg' Mp=>?_,λo ho=>?_⟩
  ·rcases List.mem_cons.1 Mp with e|Mp
   ·cases e;exact ha.ZN.mono λg hg=>a2.sm _ _ hg
   ·exact a3 g' Mp
  ·rcases a4 o ho with h|h
   ·rcases ha.gens o h with h|h
    ·exact .inl h
    ·exact .inr (by simp [h])
   ·exact .inr (by simp [h])
theorem rX {n:Nat} (h1:1<=n) (h2:n<=20) {gens:List PO} (hg:WY n gens):V n n 0 (Ke n gens):=(fZ h1 h2 gens _ hg (nf h1 h2)).1
theorem xp {n:Nat} (h1:1<=n) (h2:n<=20) {gens:List PO} (hg:WY n gens) {p:List Int} (hp:Pm n p):Ee (Ke n gens).2 n 0 p=true↔Gn n gens p:=by
 obtain ⟨a1,a2,a3,a4⟩:=fZ h1 h2 gens _ hg (nf h1 h2)
 have hS:wD n λg=>some g∈gens:=⟨⟨h1,h2⟩,λg Mp=>by obtain ⟨g',e,h⟩:=hg _ Mp;cases e;exact h⟩
 have Kh: ∀g,some g∈(Ke n gens).1.getD 0 []->some g∈gens:= λg Mp=>by
  rcases a4 _ Mp with h|h
  ·have h:some g∈(Na n).getD 0 []:=h
   rw [Rv] at h;cases h
  ·exact h
 have XQ:wD n λg=>some g∈(Ke n gens).1.getD 0 []:=⟨⟨h1,h2⟩,λg Mp=>hS.2 g (Kh g Mp)⟩
 refine (Np h1 h2 n 0 (Ke n gens) (by omega) a1.2.2.1 p hp λi hi=>absurd hi (Nat.not_lt_zero _)).trans ⟨λh=>h.mono Kh,λh=>h.trans XQ λg Mp=>a3 g Mp⟩
end Go.Proofs.YtfolipnappekaaaGreat

namespace Go.Proofs.YtfolipnappekaaaGreat
open Go.RowKit
def Ja (T:Ax):Nat->Nat->List Int->List Int×Int×Unit
 |0,l,p=>(p,(l:Int),())
 |k+1,l,p=>match (T.getD l []).getD (Io p (l:Int)).toNat none with
  |none=>(p,(l:Int),())
  |some t=>Ja T k (l+1) (Aa p (Af t))
theorem pf {T:Ax} : ∀(k l:Nat) (p:List Int),(Ja T k l p).2.1=((l+k:Nat):Int)↔Ee T k l p=true
 |0,l,p=>by simp [Ja,Ee]
 |k+1,l,p=>by
  unfold Ja Ee
  cases (T.getD l []).getD (Io p (l:Int)).toNat none with
  |none=>
   constructor
   ·intro h
    have h:(l:Int)=((l+(k+1):Nat):Int):=h
    omega
   ·intro h;cases h
  |some t=>
   have h:=pf (T:=T) k (l+1) (Aa p (Af t))
   rw [show l+1+k=l+(k+1) by omega] at h
   exact h
theorem BL {row:Row} {y:Nat} (h:y<row.length):known (row.take (y+1))=known (row.take y)++(row[y]).toList:=by
 unfold known
 rw [List.take_succ_eq_append_getElem h,List.filterMap_append]
 cases row[y]<;>rfl
theorem sI (row:Row):(known row).length<=row.length:=List.length_filterMap_le _ _
theorem sl {n k:Nat} (h1:1<=n) (h2:n<=20) (hk:k<n) {qs:List (List Int)} {s:Ax×Ax} (hp:Part n k s) (hq: ∀q∈qs,Pm n q/\Fx k q/\Gn n (s.1.getD k []) q) (j:Nat):Xb n k s (cM n k (qs.take j) s):=
 (nU h1 h2 hk hp λq h=>hq q (List.mem_of_mem_take h)).1
theorem BR {n k:Nat} {s:Ax×Ax} (hp:Part n k s):hZ n k s<GD n k:=by
 have h:=dh (s.2.getD k [])
 have hr:=hp.row.rl
 unfold hZ GD
 omega
theorem OE {n k:Nat} {s:Ax×Ax} (hk:k<n):GD n (k+1)<hZ n k s:=by
 obtain ⟨m,hm⟩: ∃m,n-k=m+1:=⟨n-k-1,by omega⟩
 have xy:n-(k+1)=m:=by omega
 unfold GD hZ
 rw [hm,xy,Nat.succ_mul]
 omega
theorem TD {n k y:Nat} {s:Ax×Ax} {q:List Int} (hk:k<s.2.length) (hy:y<(s.2.getD k []).length) (h:(s.2.getD k []).getD y none=none):
  hZ n k (s.1,s.2.set k ((s.2.getD k []).set y (some q)))+1=hZ n k s:=by
 have h1:=kx (t:=q) h hy
 have h2:(s.2.set k ((s.2.getD k []).set y (some q))).getD k []=(s.2.getD k []).set y (some q):=by
  rw [Gq,if_pos ⟨rfl,hk⟩]
 unfold hZ
 show _+Hj ((s.2.set k ((s.2.getD k []).set y (some q))).getD k [])+1=_
 rw [h2]
 omega
def jS (n:Int) (g:List (List Int)):Ax×Ax:=Ke n.toNat (g.map some)
end Go.Proofs.YtfolipnappekaaaGreat

namespace Go.Proofs.YtfolipnappekaaaGreat
open Go.RowKit
abbrev BB:Type:=List TT×List (ByteArray->Option Int)×Unit
def KD:List (List Int)->List Int->(ByteArray->Option Int)->ByteArray->Option Int
 |x::xs,d::ds,m=>KD xs ds (dQ m (Qh x) d)
 |_,_,m=>m
def Pq (t:TT):ByteArray->Option Int:=KD t.2.1 t.2.2.1 λ_=>none
def Wf (ts:List TT):BB:=(ts,ts.map Pq,())
structure LL (t:TT):Prop where
 u5:t.2.1.length<=3000
 len:t.2.2.1.length=t.2.1.length
 nodup:t.2.1.Nodup
 byte: ∀x∈t.2.1,bE x
 Alx: ∀d∈t.2.2.1,0<=d/\d<=3000
 tl:t.1.length<=20
 pl: ∀x∈t.2.1,x.length<=20
def fX (ts:List TT):Prop:=ts.length<=4/\ ∀t∈ts,LL t
def nb (t:TT) (s:List Int):Int:=t.2.2.1.getD (t.2.1.idxOf (By s t.1)) 0
def Qz (ts:List TT) (s:List Int):List Int:=ts.map λt=>nb t s
def np (ts:List TT) (s:List Int):Prop:=s.length<=20/\ ∀t∈ts,Hw s.length t.1/\By s t.1∈t.2.1
noncomputable abbrev Ov:Spec:=Cu (.pair wy .unit) (.optr eH) false false (λx=>fX x.1) (λx=>some (Wf x.1))
def Abv (b:Option BB) (s:List Int):Prop:= ∃ts,fX ts/\b=some (Wf ts)/\np ts s
def WH (b:Option BB) (s:List Int):List Int:=match b with|some b=>Qz b.1 s|none=> []
noncomputable abbrev a6:Spec:=Cu (.pair wy (.pair tL .unit)) tL false true (λx=>fX x.1/\np x.1 x.2.1) (λx=>Qz x.1 x.2.1)
abbrev jw:Type:=Int×List Int×List (List Int)×List Int×List (List Int×List (List Int)×List Int×PUnit)×(ByteArray->Option Int)×List (ByteArray->Option Int)×PUnit
abbrev jy:Type:=Int×List (List Int×List (List Int)×List Int×PUnit)×List (ByteArray->Option Int)×PUnit
theorem zn (ts:List (List Int×List (List Int)×List Int×Unit)) (P:Option (List (List Int×List (List Int)×List Int×Unit)×List (ByteArray->Option Int)×Unit)->Prop):(0=0/\0=([]:List Int).length/\Bk (λ(v2:jy) (k3:jy->Prop)=>Br (decide (v2.1<(↑ts.length:Int))) (∃(y4:List Int×List (List Int)×List Int×PUnit),idx ts v2.1=some y4/\0=0/\v2.2.2.1.length=v2.2.2.1.length/\Bk (λ(v5:jw) (k6:jw->Prop)=>Br (decide (v5.1<(↑y4.2.1.length:Int))) (∃(y7:List Int),idx y4.2.1 v5.1=some y7/\ ∃(y8:ByteArray),Gb.fn (y7,())=some y8/\ ∃(y9:Int),idx v5.2.2.2.1 v5.1=some y9/\0=0/\v5.2.2.2.2.2.2.1.length=v5.2.2.2.2.2.2.1.length/\k6 (IntKind.i64.wrap (v5.1+(1:Int)),v5.2.1,v5.2.2.1,v5.2.2.2.1,v5.2.2.2.2.1,dQ v5.2.2.2.2.2.1 y8 y9,v5.2.2.2.2.2.2.1,())) (0=0/\v5.2.2.2.2.2.2.1.length=v5.2.2.2.2.2.2.1.length/\v5.2.2.2.2.2.2.1.length+(List.take 1 (List.drop 0 [v5.2.2.2.2.2.1])).length<=Bh/\0=0/\(v5.2.2.2.2.2.2.1++List.take 1 (List.drop 0 [v5.2.2.2.2.2.1])).length=(v5.2.2.2.2.2.2.1++List.take 1 (List.drop 0 [v5.2.2.2.2.2.1])).length/\k3 (IntKind.i64.wrap (v2.1+(1:Int)),v5.2.2.2.2.1,v5.2.2.2.2.2.2.1++List.take 1 (List.drop 0 [v5.2.2.2.2.2.1]),()))) ((0:Int),y4.1,y4.2.1,y4.2.2.1,v2.2.1,λ(_:ByteArray)=>none,v2.2.2.1,PUnit.unit)) (P (some (v2.2.1,List.take v2.2.2.1.length (List.drop 0 v2.2.2.1),())))) ((0:Int),ts,[],PUnit.unit))=fnW (DU [Tf+101101]) (look [(79,Gb)]) Ov Tryz.f64 (ts,()) P:=by kernel_rfl
abbrev l4:Type:=List Int×List (List Int)×List Int×PUnit
theorem QO (ts:List (List Int×List (List Int)×List Int×Unit)) (s:List Int) (P:List Int->Prop):(0=0/\0=([]:List Int).length/\Bk (λ(v3:Int×List Int×PUnit) (k4:Int×List Int×PUnit->Prop)=>Br (decide (v3.1<(↑ts.length:Int))) (∃(y5:l4),idx ts v3.1=some y5/\ ∃(y6:l4),idx ts v3.1=some y6/\ ∃(y7:l4),idx ts v3.1=some y7/\ ∃(y8:List Int),Vf.fn (y7.1,s,())=some y8/\ ∃(y9:Int),Oc.fn (y6,y8,())=some y9/\ ∃(Th:Int),idx y5.2.2.1 y9=some Th/\0=0/\v3.2.1.length=v3.2.1.length/\v3.2.1.length+(List.take 1 (List.drop 0 [Th])).length<=Bh/\0=0/\(v3.2.1++List.take 1 (List.drop 0 [Th])).length=(v3.2.1++List.take 1 (List.drop 0 [Th])).length/\k4 (IntKind.i64.wrap (v3.1+(1:Int)),v3.2.1++List.take 1 (List.drop 0 [Th]),())) (P (List.take v3.2.1.length (List.drop 0 v3.2.1)))) ((0:Int),[],PUnit.unit))=fnW Ck (look [(78,Vf),(77,Oc)]) a6 Tryz.f57 (ts,s,()) P:=by kernel_rfl
theorem LL.short {t:TT} (h:LL t):Iz t:=by
 have h1:=h.u5;have h2:=h.len;have h3:=h.tl
 exact ⟨by unfold _root_.Go.Proofs.YtfolipnappekaaaGreat.short;omega,⟨by omega,λr hr=>by have:=h.pl r hr;unfold _root_.Go.Proofs.YtfolipnappekaaaGreat.short;omega⟩,by unfold _root_.Go.Proofs.YtfolipnappekaaaGreat.short;omega⟩
theorem tw {p:PP} {t:TT} (h:Di p t=true):LL t/\Cx p t.1=true/\(Gi p.2.2.1 t.1).2.2=true/\t.2.1=gG p t.1/\t.2.2.1=NY p t.1:=by
 obtain ⟨h1,h2⟩:=Bool.and_eq_true_iff.1 h
 obtain ⟨h3,h4⟩:=Zw.1 h1
 have h5:=ko.1 h2
 unfold Dx at h5
 rw [if_pos h1] at h5
 have e1:t.2.1=gG p t.1:=(congrArg (λz:TT=>z.2.1) h5).symm
 have e2:t.2.2.1=NY p t.1:=(congrArg (λz:TT=>z.2.2.1) h5).symm
 have hv:=(Ly.1 h3).1
 have hn:=(valid hv).n
 have eS:=uX h3
 have qv:=eS.ok.u5
 have hlen:=eS.len
 have zF:=eS.ok.short
 refine ⟨⟨by rw [e1];exact qv,by rw [e1,e2];exact hlen,by rw [e1];exact eS.ok.nodup,λx hx=>?_,λd hd=>?_,(Ey h3).1,λx hx=>?_⟩,h3,h4,e1,e2⟩
 ·rw [e1] at hx
  intro y hy
  have:=eS.row x hx y hy
  omega
 ·rw [e2] at hd
  obtain ⟨j,hj,rfl⟩:=List.mem_iff_getElem.1 hd
  have h6:=eS.dep j hj
  have mg:j<(Gi p.2.2.1 t.1).2.1.length:=hj
  exact ⟨h6.1,by have:=h6.2;show (Gi p.2.2.1 t.1).2.1[j]<=3000;omega⟩
 ·rw [e1] at hx
  have:=eS.ok.len x hx
  omega
theorem dO {p:PP} {ts:List TT} (h:Da p ts=true):Bw p=true/\fX ts/\ ∀t∈ts,Di p t=true:=by
 unfold Da at h
 rw [Bool.and_eq_true,Bool.and_eq_true,List.all_eq_true,decide_eq_true_iff] at h
 exact ⟨h.1.1,⟨h.1.2,λt ht=>(tw (h.2 t ht)).1⟩,h.2⟩
theorem za: ∀(xs:List (List Int)) (ds:List Int) (m:ByteArray->Option Int) (x:List Int),xs.length=ds.length->xs.Nodup->(∀y∈xs,bE y)->bE x->KD xs ds m (Qh x)=if x∈xs then some (ds.getD (xs.idxOf x) 0) else m (Qh x)
 | [],ds,m,x,_,_,_,_=>by cases ds<;>simp [KD]
 |y::xs,[],m,x,hl,_,_,_=>by simp at hl
 |y::xs,d::ds,m,x,hl,hn,hb,hx=>by
  obtain ⟨hy,hn⟩:=List.nodup_cons.1 hn
  simp only [KD]
  rw [za xs ds _ x (by simpa using hl) hn (λz hz=>hb z (List.mem_cons_of_mem _ hz)) hx]
  by_cases hm:x∈xs
  ·have Fa:y≠x:= λe=>hy (e▸hm)
   have hi:(y::xs).idxOf x=xs.idxOf x+1:=by rw [List.idxOf_cons,show (y==x)=false by simpa using Fa];rfl
   rw [if_pos hm,if_pos (List.mem_cons_of_mem _ hm),hi]
   rfl
  ·rw [if_neg hm]
   unfold dQ
   by_cases e:Qh x=Qh y
   ·have:=key_inj hx (hb y (by simp)) e
    subst this
    rw [if_pos e,if_pos (by simp),List.idxOf_cons_self]
    rfl
   ·have Fa:x≠y:= λh=>e (by rw [h])
    rw [if_neg e,if_neg (by simp [Fa,hm])]
theorem QG {t:TT} (h:LL t) {x:List Int} (hx:x∈t.2.1):Pq t (Qh x)=some (t.2.2.1.getD (t.2.1.idxOf x) 0):=by
 unfold Pq
 rw [za _ _ _ _ h.len.symm h.nodup h.byte (h.byte x hx),if_pos hx]
theorem yy (ts:List TT) (h:fX ts):fnW (DU [Tf+101101]) (look [(79,Gb)]) Ov Tryz.f64 (ts,()) (λ(z:Option BB)=>z=some (Wf ts)):=by
 obtain ⟨h4,hd⟩:=h
 refine Eq.mp (zn ts _) ⟨rfl,rfl,?_⟩
 refine Ag ts.length (λv=>v.1) (λi v=>v=((i:Int),ts,(ts.take i).map Pq,())) rfl rfl ?_
 rintro i v K hi hii rfl hK
 dsimp only
 refine Br.dec (λhl=>?_) λhl=>?_
 ·have hl:i<ts.length:=by omega
  have HH:=hd _ (List.getElem_mem hl)
  have qv:=HH.u5
  have hlen:=HH.len
  have ZC:=HH.short
  refine ⟨_,Ap hl,rfl,rfl,?_⟩
  refine Ag (ts[i]).2.1.length (λv=>v.1) (λj v=> ∃m,v=((j:Int),(ts[i]).1,(ts[i]).2.1,(ts[i]).2.2.1,ts,m,(ts.take i).map Pq,())/\KD ((ts[i]).2.1.drop j) ((ts[i]).2.2.1.drop j) m=Pq ts[i]) rfl ⟨_,rfl,by rw [List.drop_zero,List.drop_zero];rfl⟩ ?_
  rintro j v K1 hj hjj ⟨m,rfl,hm⟩ hK1
  dsimp only
  refine Br.dec (λek=>?_) λek=>?_
  ·have ek:j<(ts[i]).2.1.length:=by omega
   have qb:j<(ts[i]).2.2.1.length:=by omega
   rw [List.drop_eq_getElem_cons ek,List.drop_eq_getElem_cons qb] at hm
   refine ⟨_,Ap ek,_,if_pos (ZC.2.1.2 _ (List.getElem_mem ek)),_,Ap qb,rfl,rfl,?_⟩
   rw [Ah (by omega)]
   exact hK1 ek _ rfl ⟨_,rfl,hm⟩
  ·have:j=(ts[i]).2.1.length:=by omega
   subst this
   rw [List.drop_length] at hm
   have hm:m=Pq ts[i]:=by
    rw [<-hm]
    cases List.drop (ts[i]).2.1.length (ts[i]).2.2.1<;>rfl
   subst hm
   refine ⟨rfl,rfl,by show ((ts.take i).map Pq).length+1<=4294967296;rw [List.length_map,List.length_take];omega,rfl,rfl,?_⟩
   rw [Ah (by omega)]
   have hmm:(ts.take (i+1)).map Pq=(ts.take i).map Pq++ [Pq ts[i]]:=by
    rw [List.take_add_one,List.getElem?_eq_getElem hl,Option.toList_some,List.map_append]
    rfl
   refine hK hl _ rfl ?_
   rw [hmm]
   rfl
 ·have:i=ts.length:=by omega
  subst this
  rw [Ay,List.take_length]
  rfl
theorem mF:Sound Tryz.prog 64 Ov:=
 Sound.Cu (DV [Tf+101101]) (Ae Wq Ai) mixed Tryz.func64 (by kernel_rfl) (by kernel_rfl) λx h=>yy x.1 h
theorem nG (ts:List TT) (s:List Int):(Qz ts s).length=ts.length:=by unfold Qz;rw [List.length_map]
theorem s8 {ts:List TT} {s:List Int} {i:Nat} (hl:i<ts.length):(Qz (ts.take (i+1)) s)=Qz (ts.take i) s++ [nb ts[i] s]:=by
 unfold Qz
 rw [List.take_add_one,List.getElem?_eq_getElem hl,Option.toList_some,List.map_append]
 rfl
theorem BA {L:List (List Int)} {x:List Int} (hn:L.Nodup) (hx:x∈L):Dy (λq=>decide (q=x)) L 0=((L.idxOf x:Nat):Int):=by
 obtain ⟨k,hk,h1,h2,_⟩:=sC (P:= λq=>decide (q=x)) L 0 (List.any_eq_true.2 ⟨x,hx,decide_eq_true rfl⟩)
 have h3:L[k]=x:=of_decide_eq_true h2
 have h4:=AY hn hk
 rw [Ul hk,h3] at h4
 rw [h4,<-Nat.zero_add k]
 exact h1
theorem OO (ts:List TT) (s:List Int) (h:fX ts/\np ts s):fnW Ck (look [(78,Vf),(77,Oc)]) a6 Tryz.f57 (ts,s,()) (λ(z:List Int)=>z=Qz ts s):=by
 obtain ⟨⟨h4,hd⟩,hs⟩:=h
 refine Eq.mp (QO ts s _) ⟨rfl,rfl,?_⟩
 refine Ag ts.length (λv=>v.1) (λi v=>v=((i:Int),Qz (ts.take i) s,())) rfl rfl ?_
 rintro i v K hi hii rfl hK
 dsimp only
 refine Br.dec (λhl=>?_) λhl=>?_
 ·have hl:i<ts.length:=by omega
  have HH:=hd _ (List.getElem_mem hl)
  obtain ⟨gZ,qd⟩:=hs.2 _ (List.getElem_mem hl)
  have htl:=HH.tl
  have eo:=HH.pl _ qd
  have hix:=List.idxOf_lt_length_of_mem qd
  have hle:=HH.len
  have he:Oc.fn (((ts[i]).1,(ts[i]).2.1,(ts[i]).2.2.1,()),By s (ts[i]).1,())=some (((ts[i]).2.1.idxOf (By s (ts[i]).1):Nat):Int):=
   (if_pos ⟨HH.short,by show (By s (ts[i]).1).length<=4294967296;omega⟩).trans (congrArg some (BA HH.nodup qd))
  refine ⟨_,Ap hl,_,Ap hl,_,Ap hl,_,if_pos ⟨by show (ts[i]).1.length<=4294967296;omega,gZ⟩,_,he,_,Ap (by omega),rfl,rfl,?_,rfl,rfl,?_⟩
  ·show (Qz (ts.take i) s).length+1<=4294967296
   rw [nG,List.length_take];omega
  ·rw [Ah (by omega)]
   refine hK hl _ rfl ?_
   rw [s8 hl]
   unfold nb
   rw [Ul (by omega)]
   rfl
 ·have:i=ts.length:=by omega
  subst this
  rw [Ay,List.take_length]
theorem vG:Sound Tryz.prog 57 a6:=
 Sound.Cu Bj (Ae ru (Ae pG Ai)) mixed Tryz.func57 (by kernel_rfl) (by kernel_rfl) λx h=>OO x.1 x.2.1 h
end Go.Proofs.YtfolipnappekaaaGreat

namespace Go.Proofs.YtfolipnappekaaaGreat
open Go.RowKit
theorem OY {p:PP} {s:List Int} (h:Kj p s=true):Bw p=true/\Pm p.1.toNat s/\Gn p.1.toNat (p.2.2.1.map some) s:=by
 unfold Kj at h
 rw [Bool.and_eq_true,Bool.and_eq_true] at h
 obtain ⟨⟨hv,hg⟩,hh⟩:=h
 have hV:=valid hv
 have hn:=hV.n
 have hp:=XK hV hg
 exact ⟨hv,hp,(o1 (by omega) (by omega) (dk (cw hV).2.2) hp).1 hh⟩
theorem AK {p:PP} {t s:List Int} (hv:Bw p=true) (hs:Pm p.1.toNat s) (ht:Cx p t=true):Hw s.length t:=by
 have h1:=hs.1
 have hn:=(valid hv).n
 intro y hy
 have:=(Ey ht).2 y hy
 omega
theorem XL {p:PP} {t:List Int} (hv:Bw p=true) (ht:Cx p t=true) (hw:(Gi p.2.2.1 t).2.2=true) {s:List Int} (hs:Gn p.1.toNat (p.2.2.1.map some) s):By s t∈gG p t:=by
 have hV:=valid hv
 have hc:nh p.2.2.1 (Cm p.2.2.1.length) (gG p t):=qF hV (uX ht) (zQ hv (Ey ht).1 (Ey ht).2 hw)
 induction hs with
 |id=>rw [JA (zc ht)];exact (IZ ht).2
 |mul h hg ih=>
  have hp:Pm p.1.toNat _:=Xa.pm (xj hV) h
  obtain ⟨k,hk,rfl⟩:=List.mem_iff_getElem.1 (yP.1 hg)
  have:=hc.next _ ih _ (Xq hk).1
  rw [Qy hk] at this
  rw [dj (AK hv hp ht)]
  exact this
 |inv h hg ih=>
  have hp:Pm p.1.toNat _:=Xa.pm (xj hV) h
  obtain ⟨k,hk,rfl⟩:=List.mem_iff_getElem.1 (yP.1 hg)
  have:=hc.next _ ih _ (Xq hk).2
  rw [Qx hk] at this
  rw [dj (AK hv hp ht)]
  exact this
theorem CR {p:PP} {ts:List TT} {s:List Int} (hr:Kj p s=true) (ht:Da p ts=true):np ts s:=by
 obtain ⟨hv,hp,hg⟩:=OY hr
 obtain ⟨_,_,Hf⟩:=dO ht
 have hn:=(valid hv).n
 refine ⟨by rw [hp.1];omega,λt oe=>?_⟩
 obtain ⟨_,h3,hw,e1,_⟩:=tw (Hf t oe)
 exact ⟨AK hv hp h3,by rw [e1];exact XL hv h3 hw hg⟩
end Go.Proofs.YtfolipnappekaaaGreat

namespace Go.Proofs.YtfolipnappekaaaGreat
open Go.RowKit Go.Lib
abbrev xTS:CK:= .Ds Gl 58
noncomputable abbrev Ur:MSpec:=Wx [none] [(false, .Dh wy)] false [none] [xTS] (λx=>Dq x.1) (λx=>((x.1,()),()))
def UD (t:TT):Nat:=t.1.length+Bu t.2.1+t.2.2.1.length
def Hb:List TT->Nat
 | []=>0
 |t::ts=>UD t+Hb ts
noncomputable abbrev Gy:MSpec:=Wx [none,none] [(false,xTS),(false, .Dh tI)] false [none] [.Dh tI] (λx=>Dq x.1/\low x.2.1/\low (x.2.1+Hb x.1)) (λx=>((x.2.1+Hb x.1,()),()))
abbrev z6:Type:=Int×List (List Int×List (List Int)×List Int×PUnit)×PUnit
theorem UK (ts:List (List Int×List (List Int)×List Int×Unit)) (P:((List (List Int×List (List Int)×List Int×Unit)×Unit)×Unit)->Prop):(((0:Int)<=(↑ts.length:Int)/\(↑ts.length:Int)<(↑Bh:Int)+(1:Int))/\(↑ts.length:Int)=(↑ts.length:Int)/\0=0/\(List.replicate (↑ts.length:Int).toNat (([]:List Int),([]:List (List Int)),([]:List Int),())).length=(List.replicate (↑ts.length:Int).toNat (([]:List Int),([]:List (List Int)),([]:List Int),())).length/\Bk (λ(v2:z6) (k3:z6->Prop)=>Br (decide (v2.1<(↑ts.length:Int))) (∃(y4:List Int×List (List Int)×List Int×PUnit),idx ts v2.1=some y4/\ ∃(y5:(List Int×List (List Int)×List Int×PUnit)×PUnit),Rr.fn (y4.1,y4.2.1,y4.2.2.1,())=some y5/\((0:Int)<=v2.1/\v2.1<(↑v2.2.1.length:Int))/\0+v2.1.toNat<v2.2.1.length/\0=0/\v2.2.1.length=(v2.2.1.set (0+v2.1.toNat) (List.take y5.1.1.length (List.drop 0 y5.1.1),List.take y5.1.2.1.length (List.drop 0 y5.1.2.1),List.take y5.1.2.2.1.length (List.drop 0 y5.1.2.2.1),())).length/\k3 (IntKind.i64.wrap (v2.1+(1:Int)),v2.2.1.set (0+v2.1.toNat) (List.take y5.1.1.length (List.drop 0 y5.1.1),List.take y5.1.2.1.length (List.drop 0 y5.1.2.1),List.take y5.1.2.2.1.length (List.drop 0 y5.1.2.2.1),()),())) (P ((List.take v2.2.1.length (List.drop 0 v2.2.1),()),()))) ((0:Int),List.replicate (↑ts.length:Int).toNat (([]:List Int),([]:List (List Int)),([]:List Int),()),PUnit.unit))=fnMW (DU [dY+7]) (look [(50,Rr)]) Ur Tryz.f17 (ts,()) P:=by kernel_rfl
theorem TN (ts:List TT) (h:Dq ts):fnMW (DU [dY+7]) (look [(50,Rr)]) Ur Tryz.f17 (ts,()) (λ(z:(List TT×Unit)×Unit)=>z=((ts,()),())):=by
 obtain ⟨h,h4⟩:=h
 refine Eq.mp (UK ts _) ?_
 refine ⟨⟨by omega,by show (ts.length:Int)<(4294967296:Int)+1;omega⟩,rfl,rfl,rfl,?_⟩
 refine Ag ts.length (λv=>v.1) (λj v=>v.2.1.length=ts.length/\v.2.1.take j=ts.take j) rfl ⟨by simp,by simp⟩ ?_
 rintro j ⟨i,ys,⟨⟩⟩ K hj hi ⟨h1,h2⟩ hK
 dsimp only at hi h1 h2⊢
 subst hi
 refine Br.dec (λhl=>?_) λhl=>?_
 ·have hl:j<ts.length:=by omega
  refine ⟨_,Ap hl,_,if_pos (h4 _ (List.getElem_mem hl)),⟨by omega,by omega⟩,by rw [Int.toNat_natCast];omega,rfl,by rw [List.length_set],?_⟩
  rw [Ah (by omega),Int.toNat_natCast,Nat.zero_add]
  simp only [Ay]
  exact hK hl _ rfl ⟨by rw [List.length_set];exact h1,Gd hl h1 h2⟩
 ·have:j=ts.length:=by omega
  subst this
  rw [List.take_length,<-h1,List.take_length] at h2
  rw [Ay,h2]
theorem yU:Au Tryz.prog 17 Ur:=
 Au.Wx (DV [dY+7]) (Cr pI Ai) mixed Tryz.func17 (by kernel_rfl) (by kernel_rfl) λx h=>TN x.1 h
def yl (r:Option Real):Pi:= λl=>if l=Bl true 0 then r else none
theorem nc (r:Option Real):yl r (Bl true 0)=r:=if_pos rfl
theorem j6 (r:Option Real) {l:Nat} (h:l≠Bl true 0):yl r l=none:=if_neg h
theorem Ux {r:Option Real} {l:Nat} {q:Real} (h:yl r l=some q):l=Bl true 0/\r=some q:=by
 unfold yl at h
 split at h
 ·exact ⟨by assumption,h⟩
 ·cases h
theorem pL {F:List Nat} {u:Value} {xs:List Int} {w:World} {k:Int} (h:Ar w F tL [u] xs) (hn:F.Nodup) (hs:short xs/\low k):
  Calls Tryz.prog 31 #[u, .int .i64 k] w λe w'=>e= .returned (.int .i64 (k+xs.length))/\Dg w.heap.size (· ∈F) w w':=by
 obtain ⟨r,r1,r2,r3,r4,r5⟩:=Ar.row h hn
 have Fc:=Ar.lt F _ _ _ h
 have Su: ∀b,No (yl r) b->b∈F:=by
  rintro b ⟨l,q,hl,hq⟩
  exact (r4 q (Ux hl).2 b).1 hq
 have hc:=dH.calls w (λ_=>False) (yl r) [u, .int .i64 k] (xs,k,()) (k+xs.length,()) (Gr k xs.length,()) 0 [u, .int .i64 k] ⟨rfl,trivial⟩ (λh=>by cases h)
  ⟨⟨(nc r).symm▸r1,(nc r).symm▸r2 rfl _⟩,⟨j6 r (by decide),⟨[.int .i64 k],rfl,rfl⟩⟩,trivial⟩
  ⟨λl q b hl hq=>Fc b (Su b ⟨l,q,hl,hq⟩),λl l' q q' b hl Ge _ _=>(Ux hl).1.trans (Ux Ge).1.symm⟩
  (λb hb=>hb.elim) (λl hl=>j6 r λhh=>by rw [hh] at hl;cases hl) (if_pos hs)
 refine hc.mono λe w' ⟨v,Mb,ρ,he,hr,_,hb,_,ho,_⟩=>?_
 cases Mb with
 |nil=>exact ho.elim
 |cons v' Mb=>
 cases Mb with
 |cons _ _=>exact ho.2.elim
 |nil=>
 obtain ⟨⟨_,cs,me,hv⟩,_⟩:=ho
 simp only [Cells] at me
 subst me
 have hv:v'= .int .i64 (k+xs.length):=hv
 subst hv
 obtain ⟨hr,_⟩:=hr
 rcases hr with hr|hr
 ·cases hr
  exact ⟨he,hb.os,hb.tape,hb.output,hb.size,λb cS hF=>hb.block b cS λhh=>by
   rcases hh with hh|hh
   ·exact hF (Su b hh)
   ·cases hh.1⟩
 ·cases hr
theorem yW {F:List Nat} {u:Value} {xs:List (List Int)} {w:World} {k:Int} (h:Ar w F an [u] xs) (hn:F.Nodup) (hs:Dl xs/\low k/\low (k+Bu xs)):
  Calls Tryz.prog 60 #[u, .int .i64 k] w λe w'=>e= .returned (.int .i64 (k+Bu xs))/\Dg w.heap.size (· ∈F) w w':=by
 obtain ⟨r,r1,r2,r3,r4,r5⟩:=Ar.row h hn
 have Fc:=Ar.lt F _ _ _ h
 have Su: ∀b,No (yl r) b->b∈F:=by
  rintro b ⟨l,q,hl,hq⟩
  exact (r4 q (Ux hl).2 b).1 hq
 have hc:=jq.calls w (λ_=>False) (yl r) [u, .int .i64 k] (xs,k,()) (k+Bu xs,()) (Fz k xs,()) 0 [u, .int .i64 k] ⟨rfl,trivial⟩ (λh=>by cases h)
  ⟨⟨(nc r).symm▸r1,(nc r).symm▸r3 0⟩,⟨j6 r (by decide),⟨[.int .i64 k],rfl,rfl⟩⟩,trivial⟩
  ⟨λl q b hl hq=>Fc b (Su b ⟨l,q,hl,hq⟩),λl l' q q' b hl Ge _ _=>(Ux hl).1.trans (Ux Ge).1.symm⟩
  (λb hb=>hb.elim) (λl hl=>j6 r λhh=>by rw [hh] at hl;cases hl) (if_pos hs)
 refine hc.mono λe w' ⟨v,Mb,ρ,he,hr,_,hb,_,ho,_⟩=>?_
 cases Mb with
 |nil=>exact ho.elim
 |cons v' Mb=>
 cases Mb with
 |cons _ _=>exact ho.2.elim
 |nil=>
 obtain ⟨⟨_,cs,me,hv⟩,_⟩:=ho
 simp only [Cells] at me
 subst me
 have hv:v'= .int .i64 (k+Bu xs):=hv
 subst hv
 obtain ⟨hr,_⟩:=hr
 rcases hr with hr|hr
 ·cases hr
  exact ⟨he,hb.os,hb.tape,hb.output,hb.size,λb cS hF=>hb.block b cS λhh=>by
   rcases hh with hh|hh
   ·exact hF (Su b hh)
   ·cases hh.1⟩
 ·cases hr
theorem GC:Tryz.prog.follows .mixedOrders=true:=by kernel_rfl
structure WZ (w:World) (g o:Nat) (tid:TypeId) (cur:Array Value) (Fs:List (List Nat)) (ts:List TT) (j:Nat):Prop where
 Ku:w.heap[g]?=some (.cells cur tid (0,0))
 els: ∀(i:Nat) (t:TT) (F:List Nat),j<=i->ts[i]?=some t->Fs[i]?=some F-> ∃es:List Value,es.length=3/\(∀c u,es[c]?=some u->cur[(o+i)*3+c]?=some u)/\Ar w F Gl es t
theorem pU {ts:List TT} {j:Nat} (h:j<ts.length):Hb (ts.take (j+1))=Hb (ts.take j)+UD ts[j]:=by
 induction ts generalizing j with
 |nil=>simp at h
 |cons t ts ih=>cases j with
  |zero=>simp [Hb]
  |succ j=>
   have h:j<ts.length:=by simpa using h
   simp only [List.take_succ_cons,Hb,ih h,List.getElem_cons_succ]
   omega
theorem QH (ts:List TT) (j:Nat):Hb (ts.take j)<=Hb ts:=by
 induction ts generalizing j with
 |nil=>simp [Hb]
 |cons t ts ih=>cases j with
  |zero=>simp [Hb]
  |succ j=>simp only [List.take_succ_cons,Hb];have:=ih j;omega
theorem Ar.HW {w:World} {F:List Nat} {e:Ty} {cs:List Value} {x:List e.den} (h:Ar w F (.slice e) cs x):cs.length=1:=by
 simp only [Ar] at h
 obtain ⟨a,n,c,rfl,_⟩:=h
 rfl
theorem WZ.parts {w:World} {g o:Nat} {tid:TypeId} {cur:Array Value} {Fs:List (List Nat)} {ts:List TT} {j:Nat} (h:WZ w g o tid cur Fs ts j) (hl:Fs.length=ts.length) (hn:(g::List.flatten Fs).Nodup) (hj:j<ts.length):
  ∃u0 u1 u2 F0 F1 F2,w.cell? ⟨g,o*3+(j*3),none⟩=some u0/\w.cell? ⟨g,o*3+(j*3)+1,none⟩=some u1/\w.cell? ⟨g,o*3+(j*3)+2,none⟩=some u2/\Fs[j]?=some (F0++(F1++F2))/\(F0++(F1++F2)).Nodup/\g∉F0++(F1++F2)/\
   Ar w F0 tL [u0] ts[j].1/\Ar w F1 an [u1] ts[j].2.1/\Ar w F2 tL [u2] ts[j].2.2.1:=by
 have hF:Fs[j]?=some (Fs[j]'(by omega)):=List.getElem?_eq_getElem (by omega)
 obtain ⟨es,e1,e2,e3⟩:=h.els j _ _ (Nat.le_refl j) (List.getElem?_eq_getElem hj) hF
 generalize Fs[j]'(by omega)=F at hF e3
 simp only [Ar] at e3
 obtain ⟨x0,y0,F0,G0,rfl,rfl,t0,x1,y1,F1,G1,rfl,rfl,t1,x2,y2,F2,G2,rfl,rfl,t2,rfl,rfl⟩:=e3
 have b0:=Ar.HW t0
 have b1:=Ar.HW t1
 have b2:=Ar.HW t2
 obtain ⟨u0,rfl⟩:=List.length_eq_one_iff.1 b0
 obtain ⟨u1,rfl⟩:=List.length_eq_one_iff.1 b1
 obtain ⟨u2,rfl⟩:=List.length_eq_one_iff.1 b2
 rw [List.append_nil] at hF
 have hnF:(F0++(F1++F2)).Nodup:=(List.nodup_cons.1 hn).2.sublist (by
  have:=Ts (List.singleton_sublist.2 (List.mem_of_getElem? hF))
  simpa using this)
 have cell: ∀c u,([u0]++([u1]++([u2]++ [])))[c]?=some u->w.cell? ⟨g,o*3+(j*3)+c,none⟩=some u:= λc u hc=>by
  rw [cellOf h.Ku,show o*3+j*3+c=(o+j)*3+c by rw [Nat.add_mul]]
  exact e2 c u hc
 exact ⟨u0,u1,u2,F0,F1,F2,cell 0 u0 rfl,cell 1 u1 rfl,cell 2 u2 rfl,hF,hnF,λhh=>(List.nodup_cons.1 hn).1 (List.mem_flatten.2 ⟨_,List.mem_of_getElem? hF,hh⟩),t0,t1,t2⟩
theorem nt {w w1:World} {F:List Nat} {g x:Nat} (hb:Dg w.heap.size (· ∈F) w w1) (hg:g<w.heap.size) (h:g∉F) {u:Value} (hc:w.cell? ⟨g,x,none⟩=some u):w1.cell? ⟨g,x,none⟩=some u:=by
 have:=hb.block g hg h
 unfold World.cell? at hc⊢
 rw [this]
 exact hc
theorem ic {w w1:World} {F F':List Nat} (hb:Dg w.heap.size (· ∈F) w w1) (h: ∀b∈F',b∉F) {τ:Ty} {cs:List Value} {x:τ.den} (hc:Ar w F' τ cs x):Ar w1 F' τ cs x:=
 Ar.Ch F' τ cs x hc hb.size λb cS=>hb.block b (Ar.lt F' τ cs x hc b cS) (h b cS)
theorem WZ.adv {w w1:World} {g o:Nat} {tid:TypeId} {cur:Array Value} {Fs:List (List Nat)} {ts:List TT} {i j:Nat} {F G:List Nat} (hR:WZ w g o tid cur Fs ts i) (jI:i<=j) (hb:Dg w.heap.size (· ∈F) w w1) (hn:(g::List.flatten Fs).Nodup) {m:Nat} (hm:Fs[m]?=some G) (hG: ∀b∈F,b∈G) (hmj:m<j):WZ w1 g o tid cur Fs ts j:=by
 have sw: ∀b∈F,b∈List.flatten Fs:= λb hb=>List.mem_flatten.2 ⟨G,List.mem_of_getElem? hm,hG b hb⟩
 refine ⟨(hb.block g (Cs hR.Ku) λh=>(List.nodup_cons.1 hn).1 (sw _ h)).trans hR.Ku,λk t F' hk ht UY=>?_⟩
 obtain ⟨es,e1,e2,e3⟩:=hR.els k t F' (by omega) ht UY
 refine ⟨es,e1,e2,ic hb (λb cS hF=>?_) e3⟩
 have:=Yl Fs m k G F' b (List.nodup_cons.1 hn).2 hm UY (hG b hF) cS
 omega
theorem jO {w wr w1:World} {F:List Nat} {Fs:List (List Nat)} (h:Dg w.heap.size (λb=>b∈List.flatten Fs) w wr) (hb:Dg wr.heap.size (· ∈F) wr w1) {m:Nat} {G:List Nat} (hm:Fs[m]?=some G) (hG: ∀b∈F,b∈G):Dg w.heap.size (λb=>b∈List.flatten Fs) w w1:=
 h.trans ⟨hb.os,hb.tape,hb.output,hb.size,λb cS hF=>hb.block b (Nat.lt_of_lt_of_le cS h.size) λhh=>hF (List.mem_flatten.2 ⟨G,List.mem_of_getElem? hm,hG b hh⟩)⟩
set_option maxHeartbeats 4000000 in
set_option maxRecDepth 100000 in
theorem zu (g o cap:Nat) (tid:TypeId) (cur:Array Value) (Fs:List (List Nat)) (ts:List TT) (k0:Int) (w:World) (hl:Fs.length=ts.length) (hn:(g::List.flatten Fs).Nodup) (hs:Dq ts) (hk:low k0/\low (k0+Hb ts)) (hr:WZ w g o tid cur Fs ts 0):
  Calls Tryz.prog 30 #[.slice (some ⟨g,o*3,none⟩) ts.length cap, .int .i64 k0] w λe w'=>e= .returned (.int .i64 (k0+Hb ts))/\Dg w.heap.size (λb=>b∈List.flatten Fs) w w':=by
 have mixed:=GC
 have hlen:ts.length<=4294967296:=hs.1
 go_enter Tryz.func30,Tryz.ntmps30
 go_wp2
 go_loopw [1,5] (λk i wr=> ∃j:Nat,j<=ts.length/\i= .int .i64 j/\k= .int .i64 (k0+Hb (ts.take j))/\WZ wr g o tid cur Fs ts j/\Dg w.heap.size (λb=>b∈List.flatten Fs) w wr)
  (λ_ i _=>ts.length-(RowKit.intOf i).toNat)
 case atStart=>exact ⟨0,Nat.zero_le _,rfl,by simp [Hb],hr,Dg.refl _ _ _⟩
 case round=>
  obtain ⟨j,hj,rfl,rfl,hR,hB⟩:=hrel
  by_cases hjl:j<ts.length
  ·obtain ⟨u0,u1,u2,F0,F1,F2,c0,c1,c2,q0,q1,q2,t0,t1,t2⟩:=hR.parts hl hn hjl
   obtain ⟨n0,ZT,_⟩:=List.nodup_append.1 q1
   obtain ⟨n1,n2,_⟩:=List.nodup_append.1 ZT
   have hT:=hs.2 _ (List.getElem_mem hjl)
   have hle:=QH ts (j+1)
   rw [pU hjl] at hle
   obtain ⟨⟨k1,k2⟩,k3,k4⟩:=hk
   have Aiu:UD ts[j]=ts[j].1.length+Bu ts[j].2.1+ts[j].2.2.1.length:=rfl
   have hg:g<wr.heap.size:=Cs hR.Ku
   have l1:low (k0+(Hb (ts.take j):Nat)):=⟨by omega,by omega⟩
   have l2:low (k0+(Hb (ts.take j):Nat)+(ts[j].1.length:Nat)):=⟨by omega,by omega⟩
   have l3:low (k0+(Hb (ts.take j):Nat)+(ts[j].1.length:Nat)+(Bu ts[j].2.1:Nat)):=⟨by omega,by omega⟩
   clear hr hle
   have g0:g∉F0:= λh=>q2 (List.mem_append_left _ h)
   have g1:g∉F1:= λh=>q2 (List.mem_append_right _ (List.mem_append_left _ h))
   have d01: ∀b∈F1,b∉F0:= λb h h'=>(List.nodup_append.1 q1).2.2 b h' b (List.mem_append_left _ h) rfl
   have d02: ∀b∈F2,b∉F0:= λb h h'=>(List.nodup_append.1 q1).2.2 b h' b (List.mem_append_right _ h) rfl
   have d12: ∀b∈F2,b∉F1:= λb h h'=>(List.nodup_append.1 ZT).2.2 b h' b h rfl
   have s0: ∀b∈F0,b∈F0++(F1++F2):= λb h=>List.mem_append_left _ h
   have s1: ∀b∈F1,b∈F0++(F1++F2):= λb h=>List.mem_append_right _ (List.mem_append_left _ h)
   have s2: ∀b∈F2,b∈F0++(F1++F2):= λb h=>List.mem_append_right _ (List.mem_append_right _ h)
   go_wp2_with (first
    |(go_at_call 31;refine (pL Ajh n2 ⟨hT.2.2,l3⟩).mono ?_;rintro e3 w3 ⟨rfl,XS⟩)
    |(go_at_call 60;refine (yW TV n1 ⟨hT.2.1,l2,l3⟩).mono ?_;rintro e2 w2 ⟨rfl,QZ⟩;have Alr:=nt QZ hg1 g1 c2';have Ajh:=ic QZ d12 t2')
    |(go_at_call 31;refine (pL t0 n0 ⟨hT.1,l1⟩).mono ?_;rintro e1 w1 ⟨rfl,ub⟩;have c1':=nt ub hg g0 c1;have c2':=nt ub hg g0 c2;have TV:=ic ub d01 t1;have t2':=ic ub d02 t2;have hg1:g<w1.heap.size:=Nat.lt_of_lt_of_le hg ub.size))
   refine ⟨⟨j+1,by omega,by go_num,?_,((hR.adv (Nat.le_succ j) ub hn q0 s0 (Nat.lt_succ_self j)).adv (Nat.le_refl _) QZ hn q0 s1 (Nat.lt_succ_self j)).adv (Nat.le_refl _) XS hn q0 s2 (Nat.lt_succ_self j),jO (jO (jO hB ub q0 s0) QZ q0 s1) XS q0 s2⟩,by simp [RowKit.intOf];omega⟩
   rw [pU hjl,Aiu]
   congr 1
   push_cast
   omega
  ·have hjl:j=ts.length:=by omega
   subst hjl
   clear hr hn
   go_wp2
   all_goals go_ret
   exact ⟨by rw [List.take_length];rfl,hB⟩
set_option maxHeartbeats 4000000 in
set_option maxRecDepth 100000 in
theorem wo (base:Option Addr) (cap:Nat) (k0:Int) (w:World):
  Calls Tryz.prog 30 #[.slice base 0 cap, .int .i64 k0] w λe w'=>e= .returned (.int .i64 k0)/\w'=w:=by
 have mixed:=GC
 go_enter Tryz.func30,Tryz.ntmps30
 go_wp2
 go_loop [1,5] (λk i=>k= .int .i64 k0/\i= .int .i64 0) (λ_ _=>0)
 case atStart=>exact ⟨rfl,rfl⟩
 case round=>
  obtain ⟨rfl,rfl⟩:=hrel
  go_wp2
  all_goals go_ret
  exact ⟨rfl,rfl⟩
theorem vH:Au Tryz.prog 30 Gy:=by
 refine ⟨Vq Tryz.func30 (by kernel_rfl) (by kernel_rfl),λw S π us x r o g vs hA _ hIn hP hS SO MO=>?_⟩
 obtain ⟨ts,k,⟨⟩⟩:=x
 have hp:Dq ts/\low k/\low (k+Hb ts):=Classical.byContradiction λhn=>by
  have:Gy.fn (ts,k,())=none:=if_neg hn
  rw [this] at MO;cases MO
 have hv:Gy.fn (ts,k,())=some ((k+Hb ts,()),()):=if_pos hp
 rw [hv] at MO
 cases MO
 cases us with
 |nil=>exact hIn.elim
 |cons u us=>
 cases us with
 |nil=>exact hIn.2.elim
 |cons u1 us=>
 cases us with
 |cons u2 us=>exact hIn.2.2.elim
 |nil=>
 obtain ⟨⟨hO,hR⟩,⟨_,hI⟩,_⟩:=hIn
 obtain ⟨rfl,_⟩:=hA
 have hu1:u1= .int .i64 k:=by
  obtain ⟨cs,hc,rfl⟩:=hI
  simp only [Cells] at hc
  subst hc;rfl
 subst hu1
 have fin: ∀(w':World),Dg w.heap.size (λb=>No π b\/Gy.gv g b) w w'-> ∀e,e=Ending.returned (.int .i64 (k+Hb ts))->
   ∃v Mb ρ,e= .returned v/\l7 Gy w' ρ (Mb.drop Gy.Sy) v/\cj Gy π w' g Mb ()/\Dg w.heap.size (λb=>No π b\/Gy.gv g b) w w'/\Hc w' (c6 S π ρ) π 0 Gy.ins ()/\Et w' (c6 S π ρ) ρ 0 Gy.outs (k+Hb ts,()) Mb/\
    ar ρ (λb=>b<w'.heap.size/\(w.heap.size<=b\/ ∃l q,l<Ak/\π l=some q/\q.Bb b))/\(∀l,(∀k,k<Gy.Nl->l≠Ff k)->ρ l=none)/\(∀kj∈Gy.keeps,rW w w' (π (Bl false kj.1)) (ρ (Ff kj.2)) (Gy.Ch (ts,k,()))):=by
  intro w' hb e he
  exact ⟨_,[.int .i64 (k+Hb ts)],λ_=>none,he,⟨.inl rfl,trivial⟩,trivial,hb,trivial,⟨⟨rfl,⟨[.int .i64 (k+Hb ts)],rfl,rfl⟩⟩,trivial⟩,⟨(λ_ _ _ hl _=>by cases hl),(λ_ _ _ _ _ hl _ _ _=>by cases hl)⟩,λ_ _=>rfl,λ_ hk=>by cases hk⟩
 show Calls Tryz.prog _ #[u, .int .i64 k] w _
 by_cases h0:ts= []
 ·subst h0
  have hu: ∃base cap,u= .slice base 0 cap:=by
   cases hq:π (Bl false 0) with
   |none=>rw [hq] at hO;exact ⟨none,0,hO.1⟩
   |some q=>rw [hq] at hO;obtain ⟨ad,h1,_⟩:=hO;exact ⟨some ad,_,h1⟩
  obtain ⟨base,cap,rfl⟩:=hu
  refine (wo base cap k w).mono λe w' ⟨he,hw⟩=>?_
  subst hw
  exact fin _ (Dg.refl _ _ _) e (by rw [he];simp [Hb])
 ·cases hq:π (Bl false 0) with
  |none=>
   rw [hq] at hR
   exact absurd hR h0
  |some q=>
   rw [hq] at hO hR
   obtain ⟨ad,hu,ho,AL⟩:=hO
   obtain ⟨f1,cur,ti,f3,f4,f5,f6,Fs,t1,t2,t3,t4⟩:=hR
   have hlen:0<ts.length:=List.length_pos_iff.2 h0
   have AL:=AL (Nat.lt_of_lt_of_le hlen f6)
   subst AL
   have hu:u= .slice (some ⟨q.g,q.o*3,none⟩) ts.length q.cap:=hu
   subst hu
   refine (zu q.g q.o q.cap ti cur Fs ts k w t1 t2 hp.1 hp.2 ⟨f3,λi t F _ ht hF=>t4 i t F ht hF⟩).mono λe w' ⟨he,hb⟩=>?_
   exact fin w' ⟨hb.os,hb.tape,hb.output,hb.size,λb cS hn=>hb.block b cS λhh=>hn (.inl ⟨_,q,hq,t3 b hh⟩)⟩ e he
end Go.Proofs.YtfolipnappekaaaGreat

namespace Go.Proofs.YtfolipnappekaaaGreat
open Go.RowKit
theorem lV: ∀(ts:List TT) (room:Int),roomy room-> ¬Ws ts room<0->((Hb ts:Nat):Int)<=room-Ws ts room/\roomy (Ws ts room)
 | [],room,hr,_=>⟨by simp [Hb,Ws],hr⟩
 |t::ts,room,hr,h=>by
  simp only [Ws] at h⊢
  split at h
  ·exact absurd (show (-1:Int)<0 by decide) h
  ·rename_i h1
   rw [if_neg h1]
   obtain ⟨a,b⟩:=PQ hr h1
   obtain ⟨c,d⟩:=lV ts _ b h
   refine ⟨?_,d⟩
   simp only [Hb,UD]
   omega
theorem JY {ts:List TT} {room:Int} (hr:roomy room) (h: ¬Wh ts room<0):((Hb ts:Nat):Int)<=room-Wh ts room/\roomy (Wh ts room):=by
 unfold Wh at h⊢
 split at h
 ·exact absurd (show (-1:Int)<0 by decide) h
 ·rename_i h1
  rw [if_neg h1]
  obtain ⟨h2,h3⟩:=hr
  obtain ⟨a,b⟩:=lV ts _ (show roomy (room-ts.length) from ⟨by omega,by omega⟩) h
  exact ⟨by omega,b⟩
theorem xX (ts:List TT):decide (ts=ts)=true:=decide_eq_true rfl
end Go.Proofs.YtfolipnappekaaaGreat
