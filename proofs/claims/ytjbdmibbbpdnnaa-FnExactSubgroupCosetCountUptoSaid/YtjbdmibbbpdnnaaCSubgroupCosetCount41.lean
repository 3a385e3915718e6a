/-
  Part 42 of the proof that the statement FnExactSubgroupCosetCount holds.
-/
import Derived.Test.YtjbdmibbbpdnnaaCSubgroupCosetCount40
namespace Go.Proofs.Ytjbdmibbbpdnnaa
open Go.RowKit
def ap (p:List Int) (i:Nat):Nat:=(Md p (i:Int)).toNat
def Pm (n:Nat) (p:List Int):Prop:=p.length=n/\Us p
theorem Pm.n1 {n:Nat} {p:List Int} (h:Pm n p):1<=n:=h.1▸h.2.pos
theorem Pm.n2 {n:Nat} {p:List Int} (h:Pm n p):n<=20:=h.1▸h.2.len
theorem Pm.Of {n:Nat} {p:List Int} (h:Pm n p) {i:Nat} (hi:i<n):Md p (i:Int)=(ap p i:Int)/\ap p i<n:=by
 have iz:i<p.length:=by rw [h.1];exact hi
 have:=h.2.row _ (List.getElem_mem iz)
 unfold ap
 rw [Hf iz]
 have h1:=h.1
 omega
theorem Pm.lt {n:Nat} {p:List Int} (h:Pm n p) {i:Nat} (hi:i<n):ap p i<n:=(h.Of hi).2
theorem Pm.ext {n:Nat} {p q:List Int} (h:Pm n p) (k:Pm n q) (e: ∀i,i<n->ap p i=ap q i):p=q:=by
 refine List.ext_getElem (by rw [h.1,k.1]) λi h1 h2=>?_
 have hi:i<n:=by rw [<-h.1];exact h1
 have a:=(h.Of hi).1
 have b:=(k.Of hi).1
 rw [Hf h1] at a
 rw [Hf h2] at b
 rw [a,b,e i hi]
theorem Pm.inj {n:Nat} {p:List Int} (h:Pm n p) {i j:Nat} (hi:i<n) (hj:j<n) (e:ap p i=ap p j):i=j:=
 h.2.inj i j (by rw [h.1];exact hi) (by rw [h.1];exact hj) e
theorem Pm.BM {n:Nat} {p:List Int} (h:Pm n p) {k:Nat} (hk:k<n): ∃i,i<n/\ap p i=k:=by
 obtain ⟨i,h1,h2⟩:=h.2.BM k (by rw [h.1];exact hk)
 exact ⟨i,by rw [<-h.1];exact h1,h2⟩
theorem Pm.of {n:Nat} {p:List Int} (hl:p.length=n) (h1:1<=n) (h2:n<=20) (f:Nat->Nat) (hf: ∀i,i<n->p[i]?=some (f i:Int)/\f i<n) (hi: ∀i j,i<n->j<n->f i=f j->i=j):Pm n p:=by
 refine ⟨hl,by omega,by omega,λy hy=>?_,?_⟩
 ·obtain ⟨i,hi,rfl⟩:=List.mem_iff_getElem.1 hy
  obtain ⟨h3,h4⟩:=hf i (by omega)
  rw [List.getElem?_eq_getElem hi] at h3
  rw [Option.some.inj h3]
  omega
 ·refine List.pairwise_iff_getElem.2 λi j h3 h4 h5 h6=>?_
  have a:=(hf i (by omega)).1
  have b:=(hf j (by omega)).1
  rw [List.getElem?_eq_getElem h3] at a
  rw [List.getElem?_eq_getElem h4] at b
  rw [Option.some.inj a,Option.some.inj b] at h6
  have:=hi i j (by omega) (by omega) (by omega)
  omega
theorem rz {n:Nat} {p q:List Int} (hp:Pm n p) (hq:Pm n q) {i:Nat} (hi:i<n):(Ac p q)[i]?=some (ap q (ap p i):Int):=by
 have h1:i<p.length:=by rw [hp.1];exact hi
 unfold Ac
 rw [List.getElem?_map,List.getElem?_eq_getElem h1]
 have a:=(hp.Of hi).1
 rw [Hf h1] at a
 simp only [Option.map_some,a]
 rw [(hq.Of (hp.Of hi).2).1]
theorem Pm.comp {n:Nat} {p q:List Int} (hp:Pm n p) (hq:Pm n q):Pm n (Ac p q):=
 Pm.of (by rw [Tu,hp.1]) hp.n1 hp.n2 (λi=>ap q (ap p i)) (λi hi=>⟨rz hp hq hi,hq.lt (hp.lt hi)⟩) λi j hi hj e=>hp.inj hi hj (hq.inj (hp.lt hi) (hp.lt hj) e)
theorem zI {p:List Int} {i k:Nat} (h:p[i]?=some (k:Int)):ap p i=k:=by
 unfold ap Md
 rw [Int.toNat_natCast,List.getD_eq_getElem?_getD,h]
 simp
theorem Fe {n:Nat} {p q:List Int} (hp:Pm n p) (hq:Pm n q) {i:Nat} (hi:i<n):ap (Ac p q) i=ap q (ap p i):=zI (rz hp hq hi)
theorem tM {n i:Nat} (hi:i<n):(upto n)[i]?=some (i:Int):=by simp [upto,hi]
theorem ej {n i:Nat} (hi:i<n):ap (upto n) i=i:=zI (tM hi)
theorem Pm.id {n:Nat} (h1:1<=n) (h2:n<=20):Pm n (upto n):=Pm.of (by simp [upto]) h1 h2 (λi=>i) (λi hi=>⟨tM hi,hi⟩) λ_ _ _ _ e=>e
theorem xk {n:Nat} {p:List Int} (hp:Pm n p) {i:Nat} (hi:i<n):(Aj p)[ap p i]?=some (i:Int):=AW hp.2 (by rw [hp.1];exact hi)
theorem bO {n:Nat} {p:List Int} (hp:Pm n p) {i:Nat} (hi:i<n):ap (Aj p) (ap p i)=i:=zI (xk hp hi)
theorem oH {n:Nat} {p:List Int} (hp:Pm n p) {k:Nat} (hk:k<n):ap p (ap (Aj p) k)=k:=by
 obtain ⟨i,hi,rfl⟩:=hp.BM hk
 rw [bO hp hi]
theorem Pm.inv {n:Nat} {p:List Int} (hp:Pm n p):Pm n (Aj p):=by
 refine Pm.of (by rw [jz,hp.1]) hp.n1 hp.n2 (λk=>ap (Aj p) k) (λk hk=>?_) λi j hi hj e=>?_
 ·obtain ⟨i,hi,rfl⟩:=hp.BM hk
  rw [bO hp hi]
  exact ⟨xk hp hi,hi⟩
 ·rw [<-oH hp hi,<-oH hp hj,e]
theorem Dj {n:Nat} {p q r:List Int} (hp:Pm n p) (hq:Pm n q) (hr:Pm n r):Ac (Ac p q) r=Ac p (Ac q r):=
 ((hp.comp hq).comp hr).ext (hp.comp (hq.comp hr)) λi hi=>by rw [Fe (hp.comp hq) hr hi,Fe hp hq hi,Fe hp (hq.comp hr) hi,Fe hq hr (hp.lt hi)]
theorem comp_id {n:Nat} {p:List Int} (hp:Pm n p):Ac p (upto n)=p:=
 (hp.comp (Pm.id hp.n1 hp.n2)).ext hp λi hi=>by rw [Fe hp (Pm.id hp.n1 hp.n2) hi,ej (hp.lt hi)]
theorem id_comp {n:Nat} {p:List Int} (hp:Pm n p):Ac (upto n) p=p:=
 ((Pm.id hp.n1 hp.n2).comp hp).ext hp λi hi=>by rw [Fe (Pm.id hp.n1 hp.n2) hp hi,ej hi]
theorem ey {n:Nat} {p:List Int} (hp:Pm n p):Ac p (Aj p)=upto n:=
 (hp.comp hp.inv).ext (Pm.id hp.n1 hp.n2) λi hi=>by rw [Fe hp hp.inv hi,bO hp hi,ej hi]
theorem Wd {n:Nat} {p:List Int} (hp:Pm n p):Ac (Aj p) p=upto n:=
 (hp.inv.comp hp).ext (Pm.id hp.n1 hp.n2) λi hi=>by rw [Fe hp.inv hp hi,oH hp hi,ej hi]
theorem kG {n:Nat} {p q:List Int} (hp:Pm n p) (hq:Pm n q) (h:Ac p q=upto n):Aj p=q:=by
 rw [<-comp_id hp.inv,<-h,<-Dj hp.inv hp hq,Wd hp,id_comp hq]
theorem inv_mul {n:Nat} {p q:List Int} (hp:Pm n p) (hq:Pm n q):Aj (Ac p q)=Ac (Aj q) (Aj p):=
 kG (hp.comp hq) (hq.inv.comp hp.inv) (by
  rw [Dj hp hq (hq.inv.comp hp.inv),<-Dj hq hq.inv hp.inv,ey hq,id_comp hp.inv,ey hp])
theorem inv_inv {n:Nat} {p:List Int} (hp:Pm n p):Aj (Aj p)=p:=kG hp.inv hp (Wd hp)
theorem AX {n:Nat} (h1:1<=n) (h2:n<=20):Aj (upto n)=upto n:=kG (Pm.id h1 h2) (Pm.id h1 h2) (comp_id (Pm.id h1 h2))
inductive Vi (n:Nat) (S:List Int->Prop):List Int->Prop where
 |id:Vi n S (upto n)
 |mul {p g:List Int} :Vi n S p->S g->Vi n S (Ac p g)
 |inv {p g:List Int} :Vi n S p->S g->Vi n S (Ac p (Aj g))
def xC (n:Nat) (S:List Int->Prop):Prop:=(1<=n/\n<=20)/\ ∀g,S g->Pm n g
theorem Vi.pm {n:Nat} {S:List Int->Prop} (hS:xC n S) {p:List Int} (h:Vi n S p):Pm n p:=by
 induction h with
 |id=>exact Pm.id hS.1.1 hS.1.2
 |mul _ hg ih=>exact ih.comp (hS.2 _ hg)
 |inv _ hg ih=>exact ih.comp (hS.2 _ hg).inv
theorem Vi.comp {n:Nat} {S:List Int->Prop} (hS:xC n S) {p q:List Int} (hp:Vi n S p) (hq:Vi n S q):Vi n S (Ac p q):=by
 induction hq with
 |id=>rw [comp_id (hp.pm hS)];exact hp
 |mul hq hg ih=>rw [<-Dj (hp.pm hS) (hq.pm hS) (hS.2 _ hg)];exact .mul ih hg
 |inv hq hg ih=>rw [<-Dj (hp.pm hS) (hq.pm hS) (hS.2 _ hg).inv];exact .inv ih hg
theorem Vi.one {n:Nat} {S:List Int->Prop} (hS:xC n S) {g:List Int} (hg:S g):Vi n S g:=by
 have:=Vi.mul (n:=n) (S:=S) .id hg
 rwa [id_comp (hS.2 g hg)] at this
theorem Vi.LF {n:Nat} {S:List Int->Prop} (hS:xC n S) {g:List Int} (hg:S g):Vi n S (Aj g):=by
 have:=Vi.inv (n:=n) (S:=S) .id hg
 rwa [id_comp (hS.2 g hg).inv] at this
theorem Vi.pe {n:Nat} {S:List Int->Prop} (hS:xC n S) {p:List Int} (hp:Vi n S p):Vi n S (Aj p):=by
 induction hp with
 |id=>rw [AX hS.1.1 hS.1.2];exact .id
 |mul hq hg ih=>rw [inv_mul (hq.pm hS) (hS.2 _ hg)];exact (Vi.LF hS hg).comp hS ih
 |inv hq hg ih=>rw [inv_mul (hq.pm hS) (hS.2 _ hg).inv,inv_inv (hS.2 _ hg)];exact (Vi.one hS hg).comp hS ih
theorem Vi.trans {n:Nat} {S S':List Int->Prop} (NY:xC n S') (h: ∀g,S g->Vi n S' g) {p:List Int} (hp:Vi n S p):Vi n S' p:=by
 induction hp with
 |id=>exact .id
 |mul _ hg ih=>exact ih.comp NY (h _ hg)
 |inv _ hg ih=>exact ih.comp NY ((h _ hg).pe NY)
abbrev PO:=Option (List Int)
abbrev Row:=List PO
abbrev Cm:=List Row
def Ha (row:Row):List Int:=(upto row.length).filter λy=>(row.getD y.toNat none).isSome
def Hx (T:Cm):Nat->Nat->List Int->Bool
 |0,_,_=>true
 |k+1,i,p=>match (T.getD i []).getD (Md p (i:Int)).toNat none with
  |none=>false
  |some t=>Hx T k (i+1) (Ac p (Aj t))
def Kj (row:Row):Nat:=row.countP (·.isNone)
def Rh (x:Int) (s:Row×List Int) (o:PO):Row×List Int:=
 match s.1.getD (Md (o.getD []) x).toNat none with
 |some _=>s
 |none=>(s.1.set (Md (o.getD []) x).toNat (some (Ac ((s.1.getD x.toNat none).getD []) (o.getD []))),s.2++ [Md (o.getD []) x])
def Qy (x:Int) (gs:List PO) (s:Row×List Int):Row×List Int:=gs.foldl (Rh x) s
def Qq (gs:List PO):Nat->List Int->Row->Row
 |0,_,row=>row
 |_+1,[],row=>row
 |f+1,x::q,row=>Qq gs f (Qy x gs (row,q)).2 (Qy x gs (row,q)).1
def Pr (gs:List PO) (row:Row):Row:=Qq gs 100 (Ha row) row
def Lt (row:Row) (y:Int) (g:PO):List Int:=
 Ac (Ac ((row.getD y.toNat none).getD []) (g.getD [])) (Aj ((row.getD (Md (g.getD []) y).toNat none).getD []))
def Zk (row:Row) (gs:List PO):List (List Int):=(Ha row).flatMap λy=>gs.map λg=>Lt row y g
def Da:Nat->Nat->List Int->Cm×Cm->Cm×Cm
 |0,_,_,s=>s
 |k+1,l,p,s=>
  if Hx s.2 (k+1) l p=true then s else
   (Zk (Pr (s.1.getD l []++ [some p]) (s.2.getD l [])) (s.1.getD l []++ [some p])).foldl (λs q=>Da k (l+1) q s)
    (s.1.set l (s.1.getD l []++ [some p]),s.2.set l (Pr (s.1.getD l []++ [some p]) (s.2.getD l [])))
def Fx (l:Nat) (p:List Int):Prop:= ∀i,i<l->ap p i=i
def Gn (n:Nat) (gs:List PO):List Int->Prop:=Vi n λg=>some g∈gs
structure DQ (n l:Nat) (gs:List PO) (row:Row) (H:List Int->Prop):Prop where
 pg: ∀o∈gs,∃g,o=some g/\Pm n g/\Fx l g
 rl:row.length=n
 r0:row.getD l none=some (upto n)
 rt: ∀y t,row.getD y none=some t->Pm n t/\Fx l t/\ap t l=y/\Gn n gs t
 cl: ∀y t g,row.getD y none=some t->some g∈gs->row.getD (ap g y) none≠none
 sg: ∀y t g t',row.getD y none=some t->some g∈gs->row.getD (ap g y) none=some t'->H (Ac (Ac t g) (Aj t'))
def dm (n:Nat):Nat->Nat->Cm×Cm->Prop
 |0,l,s=>s.1.getD l []= []
 |k+1,l,s=>dm n k (l+1) s/\DQ n l (s.1.getD l []) (s.2.getD l []) (λq=>Hx s.2 k (l+1) q=true)/\ ∀g,some g∈s.1.getD (l+1) []->Gn n (s.1.getD l []) g
theorem FU {l1 l2:List Nat} (hn:l1.Nodup) (hs: ∀x∈l1,x∈l2) (hl:l2.length<=l1.length): ∀x∈l2,x∈l1:=by
 induction l1 generalizing l2 with
 |nil=>
  intro x hx
  have:l2= []:=List.eq_nil_of_length_eq_zero (by simpa using hl)
  rw [this] at hx;cases hx
 |cons a l ih=>
  intro x hx
  obtain ⟨h1,h2⟩:=List.nodup_cons.1 hn
  have ha:=hs a (by simp)
  by_cases e:x=a
  ·subst e;simp
  ·refine List.mem_cons_of_mem _ (ih (l2:=l2.erase a) h2 (λy hy=>?_) ?_ x ((List.mem_erase_of_ne e).2 hx))
   ·have XU:y≠a:= λe'=>h1 (by rw [<-e'];exact hy)
    exact (List.mem_erase_of_ne XU).2 (hs y (by simp [hy]))
   ·rw [List.length_erase_of_mem ha]
    simp only [List.length_cons] at hl
    omega
theorem vI {n:Nat} {g:List Int} (hg:Pm n g) (D:Nat->Bool) (h: ∀y,y<n->D y=true->D (ap g y)=true) {y:Nat} (hy:y<n) (hD:D y=true): ∃x,x<n/\D x=true/\ap g x=y:=by
 have:=FU (l1:=((List.range n).filter D).map (ap g)) (l2:=(List.range n).filter D) ?_ ?_ (by simp) y (List.mem_filter.2 ⟨List.mem_range.2 hy,hD⟩)
 ·obtain ⟨x,hx,e⟩:=List.mem_map.1 this
  obtain ⟨h1,h2⟩:=List.mem_filter.1 hx
  exact ⟨x,List.mem_range.1 h1,h2,e⟩
 ·refine List.pairwise_map.2 (List.Pairwise.imp_of_mem ?_ (List.nodup_range.filter D))
  intro a b ha hb Er e
  exact Er (hg.inj (List.mem_range.1 (List.mem_filter.1 ha).1) (List.mem_range.1 (List.mem_filter.1 hb).1) e)
 ·intro x hx
  obtain ⟨z,hz,rfl⟩:=List.mem_map.1 hx
  obtain ⟨h1,h2⟩:=List.mem_filter.1 hz
  exact List.mem_filter.2 ⟨List.mem_range.2 (hg.lt (List.mem_range.1 h1)),h z (List.mem_range.1 h1) h2⟩
theorem ju {row:Row} {y:Nat} {t:List Int} (h:row.getD y none=some t):y<row.length:=by
 rw [List.getD_eq_getElem?_getD] at h
 refine Classical.byContradiction λhn=>?_
 rw [List.getElem?_eq_none (by omega)] at h
 cases h
theorem DQ.pms {n l:Nat} {gs:List PO} {row:Row} {H:List Int->Prop} (h:DQ n l gs row H):xC n λg=>some g∈gs:=by
 refine ⟨?_,λg hg=>?_⟩
 ·have:=(h.rt l _ h.r0).1
  exact ⟨this.n1,this.n2⟩
 ·obtain ⟨g',e,h1,_⟩:=h.pg _ hg
  cases e;exact h1
theorem Fx.inv {n l:Nat} {p:List Int} (hp:Pm n p) (h:Fx l p) (hl:l<=n):Fx l (Aj p):= λi hi=>by
 have:=bO hp (i:=i) (by omega)
 rwa [h i hi] at this
theorem Fx.comp {n l:Nat} {p q:List Int} (hp:Pm n p) (hq:Pm n q) (h1:Fx l p) (h2:Fx l q) (hl:l<=n):Fx l (Ac p q):= λi hi=>by
 rw [Fe hp hq (by omega),h1 i hi,h2 i hi]
theorem Fx.all {n:Nat} {p:List Int} (hp:Pm n p) (h:Fx n p):p=upto n:=hp.ext (Pm.id hp.n1 hp.n2) λi hi=>by rw [h i hi,ej hi]
theorem Fx.div {n l:Nat} {p t:List Int} (hp:Pm n p) (ht:Pm n t) (h1:Fx l p) (h2:Fx l t) (hl:l<n) (e:ap t l=ap p l):Fx (l+1) (Ac p (Aj t)):= λi hi=>by
 rw [Fe hp ht.inv (by omega)]
 by_cases ZL:i<l
 ·rw [h1 i ZL];exact h2.inv ht (by omega) i ZL
 ·have:i=l:=by omega
  subst this
  rw [<-e,bO ht hl]
theorem eQ {n:Nat} (h1:1<=n) (h2:n<=20): ∀(k l:Nat) (s:Cm×Cm),l+k=n->dm n k l s-> ∀p,Pm n p->Fx l p->(Hx s.2 k l p=true↔Gn n (s.1.getD l []) p)
 |0,l,s,hk,hc,p,hp,hf=>by
  have hl:l=n:=by omega
  subst hl
  rw [hf.all hp]
  exact ⟨λ_=> .id,λ_=>rfl⟩
 |k+1,l,s,hk,hc,p,hp,hf=>by
  obtain ⟨c1,c2,c3⟩:=hc
  have hS:=c2.pms
  have ih:=eQ h1 h2 k (l+1) s (by omega) c1
  have UR:xC n λg=>some g∈s.1.getD (l+1) []:=⟨⟨h1,h2⟩,λg hg=>(c3 g hg).pm hS⟩
  have Ze:l<n:=by omega
  constructor
  ·intro h
   simp only [Hx] at h
   rw [show (Md p (l:Int)).toNat=ap p l from rfl] at h
   split at h
   ·cases h
   ·rename_i t ht
    obtain ⟨t1,t2,t3,t4⟩:=c2.rt _ _ ht
    have HG:=Fx.div hp t1 hf t2 Ze t3
    have hg:=((ih _ (hp.comp t1.inv) HG).1 h).trans hS c3
    have:=Vi.comp hS hg t4
    rwa [Dj hp t1.inv t1,Wd t1,comp_id hp] at this
  ·intro h
   have key: ∀q,Gn n (s.1.getD l []) q-> ∃t,(s.2.getD l []).getD (ap q l) none=some t/\Gn n (s.1.getD (l+1) []) (Ac q (Aj t)):=by
    intro q hq
    induction hq with
    |id=>
     refine ⟨upto n,by rw [ej Ze];exact c2.r0,?_⟩
     rw [AX h1 h2,comp_id (Pm.id h1 h2)]
     exact .id
    | @mul q g hq hg XW=>
     obtain ⟨t,e1,e2⟩:=XW
     have HU:=Vi.pm hS hq
     have Ob:=hS.2 _ hg
     obtain ⟨t1,t2,t3,t4⟩:=c2.rt _ _ e1
     cases e3:(s.2.getD l []).getD (ap g (ap q l)) none with
     |none=>exact absurd e3 (c2.cl _ _ _ e1 hg)
     |some t'=>
      obtain ⟨u1,u2,u3,u4⟩:=c2.rt _ _ e3
      have XJ:=c2.sg _ _ _ _ e1 hg e3
      have VS:Fx (l+1) (Ac (Ac t g) (Aj t')):=Fx.div (t1.comp Ob) u1 (Fx.comp t1 Ob t2 (by obtain ⟨g',e,_,h⟩:=c2.pg _ hg;cases e;exact h) (by omega)) u2 Ze (by rw [u3,Fe t1 Ob Ze,t3])
      have JP:=(ih _ ((t1.comp Ob).comp u1.inv) VS).1 XJ
      refine ⟨t',by rw [Fe HU Ob Ze];exact e3,?_⟩
      have:=Vi.comp UR e2 JP
      rwa [show Ac (Ac q (Aj t)) (Ac (Ac t g) (Aj t'))=Ac (Ac q g) (Aj t') by
       rw [Dj HU t1.inv ((t1.comp Ob).comp u1.inv),Dj t1 Ob u1.inv,<-Dj t1.inv t1 (Ob.comp u1.inv),Wd t1,id_comp (Ob.comp u1.inv),Dj HU Ob u1.inv]] at this
    | @inv q g hq hg XW=>
     obtain ⟨t,e1,e2⟩:=XW
     have HU:=Vi.pm hS hq
     have Ob:=hS.2 _ hg
     obtain ⟨t1,t2,t3,t4⟩:=c2.rt _ _ e1
     have hy:ap q l<n:=HU.lt Ze
     obtain ⟨x,hx,hD,he⟩:=vI Ob (λy=>((s.2.getD l []).getD y none).isSome) (λy hy hd=>by
      obtain ⟨t0,PZ⟩:=Option.isSome_iff_exists.1 hd
      exact Option.ne_none_iff_isSome.1 (c2.cl _ _ _ PZ hg)) hy (by rw [e1];rfl)
     obtain ⟨t',e3⟩:=Option.isSome_iff_exists.1 hD
     obtain ⟨u1,u2,u3,u4⟩:=c2.rt _ _ e3
     have XJ:=c2.sg _ _ _ _ e3 hg (by rw [he];exact e1)
     have VS:Fx (l+1) (Ac (Ac t' g) (Aj t)):=Fx.div (u1.comp Ob) t1 (Fx.comp u1 Ob u2 (by obtain ⟨g',e,_,h⟩:=c2.pg _ hg;cases e;exact h) (by omega)) t2 Ze (by rw [t3,Fe u1 Ob Ze,u3,he])
     have JP:=Vi.pe UR ((ih _ ((u1.comp Ob).comp t1.inv) VS).1 XJ)
     have hax:ap (Aj g) (ap q l)=x:=by rw [<-he,bO Ob hx]
     refine ⟨t',by rw [Fe HU Ob.inv Ze,hax];exact e3,?_⟩
     have:=Vi.comp UR e2 JP
     rwa [show Ac (Ac q (Aj t)) (Aj (Ac (Ac t' g) (Aj t)))=Ac (Ac q (Aj g)) (Aj t') by
      rw [inv_mul (u1.comp Ob) t1.inv,inv_inv t1,inv_mul u1 Ob,Dj HU t1.inv (t1.comp (Ob.inv.comp u1.inv)),<-Dj t1.inv t1 (Ob.inv.comp u1.inv),Wd t1,id_comp (Ob.inv.comp u1.inv),Dj HU Ob.inv u1.inv]] at this
   obtain ⟨t,e1,e2⟩:=key p h
   obtain ⟨t1,t2,t3,t4⟩:=c2.rt _ _ e1
   simp only [Hx]
   rw [show (Md p (l:Int)).toNat=ap p l from rfl,e1]
   exact (ih _ (hp.comp t1.inv) (Fx.div hp t1 hf t2 Ze t3)).2 e2
end Go.Proofs.Ytjbdmibbbpdnnaa

namespace Go.Proofs.Ytjbdmibbbpdnnaa
open Go.RowKit
theorem Oq {α:Type} (xs:List α) (i j:Nat) (x d:α):(xs.set i x).getD j d=if i=j/\i<xs.length then x else xs.getD j d:=by
 rw [List.getD_eq_getElem?_getD,List.getElem?_set,List.getD_eq_getElem?_getD]
 by_cases e:i=j
 ·subst e
  by_cases h:i<xs.length
  ·rw [if_pos rfl,if_pos h,if_pos ⟨rfl,h⟩];rfl
  ·rw [if_pos rfl,if_neg h,if_neg (λhh=>h hh.2),List.getElem?_eq_none (by omega)]
 ·rw [if_neg e,if_neg (λhh=>e hh.1)]
theorem Vi.mono {n:Nat} {S S':List Int->Prop} (h: ∀g,S g->S' g) {p:List Int} (hp:Vi n S p):Vi n S' p:=by
 induction hp with
 |id=>exact .id
 |mul _ hg ih=>exact .mul ih (h _ hg)
 |inv _ hg ih=>exact .inv ih (h _ hg)
structure Pw (n l:Nat) (gs:List PO) (row:Row):Prop where
 rl:row.length=n
 r0:row.getD l none=some (upto n)
 rt: ∀y t,row.getD y none=some t->Pm n t/\Fx l t/\ap t l=y/\Gn n gs t
def PG (n l:Nat) (gs:List PO):Prop:= ∀o∈gs,∃g,o=some g/\Pm n g/\Fx l g
structure Ext (n l:Nat) (gs:List PO) (row:Row) (q:List Int) (s':Row×List Int):Prop where
 ok:Pw n l gs s'.1
 mono: ∀y t,row.getD y none=some t->s'.1.getD y none=some t
 ND:s'.2.length+Kj s'.1=q.length+Kj row
 m4: ∀y∈q,y∈s'.2
 new: ∀y∈s'.2,y∈q\/ ∃yn:Nat,y=yn/\s'.1.getD yn none≠none
 src: ∀y:Nat,s'.1.getD y none≠none->row.getD y none≠none\/(y:Int)∈s'.2
theorem Ext.refl {n l:Nat} {gs:List PO} {row:Row} {q:List Int} (h:Pw n l gs row):Ext n l gs row q (row,q):=⟨h,λ_ _ h=>h,rfl,λ_ h=>h,λ_ h=> .inl h,λ_ h=> .inl h⟩
theorem Xx {a b:Row} (h: ∀y t,a.getD y none=some t->b.getD y none=some t) {y:Nat} (hy:a.getD y none≠none):b.getD y none≠none:=by
 cases e:a.getD y none with
 |none=>exact absurd e hy
 |some t=>rw [h y t e];simp
theorem Ext.trans {n l:Nat} {gs:List PO} {row:Row} {q:List Int} {s1 s2:Row×List Int} (h:Ext n l gs row q s1) (k:Ext n l gs s1.1 s1.2 s2):Ext n l gs row q s2:=by
 refine ⟨k.ok,λy t e=>k.mono y t (h.mono y t e),k.ND.trans h.ND,λy hy=>k.m4 y (h.m4 y hy),λy hy=>?_,λy hy=>?_⟩
 ·rcases k.new y hy with h1|h1
  ·rcases h.new y h1 with h2|⟨yn,h2,h3⟩
   ·exact .inl h2
   ·exact .inr ⟨yn,h2,Xx k.mono h3⟩
  ·exact .inr h1
 ·rcases k.src y hy with h1|h1
  ·exact (h.src y h1).imp id λh2=>k.m4 _ h2
  ·exact .inr h1
theorem yq {row:Row} {i:Nat} {t:List Int} (h:row.getD i none=none) (hi:i<row.length):Kj (row.set i (some t))+1=Kj row:=by
 unfold Kj
 have e:row[i]=none:=by
  rw [List.getD_eq_getElem?_getD,List.getElem?_eq_getElem hi] at h
  exact h
 have h1:=List.countP_set (p:= λo:PO=>o.isNone) (l:=row) (i:=i) (a:=some t) hi
 have uU:0<row.countP (·.isNone):=List.countP_pos_iff.2 ⟨row[i],List.getElem_mem hi,by rw [e];rfl⟩
 rw [h1,e]
 simp
 omega
theorem FT {n l:Nat} {gs:List PO} (Ze:l<n) (hg:PG n l gs) {row:Row} {q:List Int} (h:Pw n l gs row) {x:Nat} {t:List Int} (hx:row.getD x none=some t) {g:List Int} (ho:some g∈gs):
  Ext n l gs row q (Rh (x:Int) (row,q) (some g))/\(Rh (x:Int) (row,q) (some g)).1.getD (ap g x) none≠none:=by
 obtain ⟨g',e,Ob,JO⟩:=hg _ ho
 cases e
 obtain ⟨t1,t2,t3,t4⟩:=h.rt _ _ hx
 have QF:x<n:=by rw [<-h.rl];exact ju hx
 obtain ⟨a1,a2⟩:=Ob.Of QF
 unfold Rh
 simp only [Option.getD_some,a1,Int.toNat_natCast]
 cases e:row.getD (ap g x) none with
 |some u=>exact ⟨Ext.refl h,by simp only;rw [e];simp⟩
 |none=>
  simp only [hx,Option.getD_some]
  have hl:ap g x<row.length:=by rw [h.rl];exact a2
  have hS:xC n λg=>some g∈gs:=⟨⟨t1.n1,t1.n2⟩,λg Zd=>by obtain ⟨g',e,h1,_⟩:=hg _ Zd;cases e;exact h1⟩
  have Ad: ∀y,(row.set (ap g x) (some (Ac t g))).getD y none=if ap g x=y/\ap g x<row.length then some (Ac t g) else row.getD y none:= λy=>Oq _ _ _ _ _
  have Er: ∀y u,row.getD y none=some u->ap g x≠y:= λy u hu e'=>by rw [<-e',e] at hu;cases hu
  refine ⟨⟨⟨by simp [h.rl],?_,λy u hu=>?_⟩,λy u hu=>?_,?_,λy hy=>List.mem_append_left _ hy,λy hy=>?_,λy hy=>?_⟩,?_⟩
  ·rw [Ad,if_neg (λhh=>Er l _ h.r0 hh.1)];exact h.r0
  ·rw [Ad] at hu
   split at hu
   ·rename_i hc
    cases hu
    exact ⟨t1.comp Ob,Fx.comp t1 Ob t2 JO (by omega),by rw [Fe t1 Ob Ze,t3];exact hc.1, .mul t4 ho⟩
   ·exact h.rt y u hu
  ·show (row.set (ap g x) (some (Ac t g))).getD y none=some u
   rw [Ad,if_neg (λhh=>Er y u hu hh.1)];exact hu
  ·have:=yq (t:=Ac t g) e hl
   simp only [List.length_append,List.length_cons,List.length_nil]
   omega
  ·rcases List.mem_append.1 hy with hy|hy
   ·exact .inl hy
   ·simp only [List.mem_singleton] at hy
    exact .inr ⟨ap g x,hy,by show (row.set (ap g x) (some (Ac t g))).getD (ap g x) none≠none;rw [Ad,if_pos ⟨rfl,hl⟩];simp⟩
  ·have hy:(row.set (ap g x) (some (Ac t g))).getD y none≠none:=hy
   rw [Ad] at hy
   split at hy
   ·rename_i hc
    exact .inr (by show (y:Int)∈q++ [(ap g x:Int)];rw [<-hc.1];simp)
   ·exact .inl hy
  ·show (row.set (ap g x) (some (Ac t g))).getD (ap g x) none≠none
   rw [Ad,if_pos ⟨rfl,hl⟩];simp
theorem BW {n l:Nat} {gs:List PO} (Ze:l<n) (hg:PG n l gs): ∀(GR:List PO) {row:Row} {q:List Int},(∀o∈GR,o∈gs)->Pw n l gs row-> ∀ {x:Nat} {t:List Int},row.getD x none=some t->
  Ext n l gs row q (Qy (x:Int) GR (row,q))/\ ∀g,some g∈GR->(Qy (x:Int) GR (row,q)).1.getD (ap g x) none≠none
 | [],row,q,_,h,x,t,hx=>⟨Ext.refl h,λg hg=>by cases hg⟩
 |o::GR,row,q,hs,h,x,t,hx=>by
  obtain ⟨g,rfl,_,_⟩:=hg o (hs o (by simp))
  obtain ⟨e1,e2⟩:=FT (q:=q) Ze hg h hx (hs (some g) (by simp))
  obtain ⟨f1,f2⟩:=BW Ze hg GR (q:=(Rh (x:Int) (row,q) (some g)).2) (λo ho=>hs o (by simp [ho])) e1.ok (e1.mono x t hx)
  have hb:Qy (x:Int) (some g::GR) (row,q)=Qy (x:Int) GR ((Rh (x:Int) (row,q) (some g)).1,(Rh (x:Int) (row,q) (some g)).2):=rfl
  rw [hb]
  refine ⟨e1.trans f1,λg' Zd=>?_⟩
  rcases List.mem_cons.1 Zd with e|Zd
  ·cases e;exact Xx f1.mono e2
  ·exact f2 g' Zd
def xD (gs:List PO) (q:List Int) (row:Row):Prop:=
 (∀y∈q,∃yn:Nat,y=yn/\row.getD yn none≠none)/\ ∀y:Nat,row.getD y none≠none->(y:Int)∈q\/ ∀g,some g∈gs->row.getD (ap g y) none≠none
theorem vR {n l:Nat} {gs:List PO} (Ze:l<n) (hg:PG n l gs) {x:Int} {q:List Int} {row:Row} (h:Pw n l gs row) (hq:xD gs (x::q) row):
  Ext n l gs row q (Qy x gs (row,q))/\xD gs (Qy x gs (row,q)).2 (Qy x gs (row,q)).1/\ ∃(xn:Nat) (t:List Int),x=xn/\row.getD xn none=some t:=by
 obtain ⟨xn,rfl,hx⟩:=hq.1 x (by simp)
 cases e:row.getD xn none with
 |none=>exact absurd e hx
 |some t=>
  obtain ⟨e1,e2⟩:=BW Ze hg gs (q:=q) (λo ho=>ho) h e
  refine ⟨e1,⟨λy hy=>?_,λy hy=>?_⟩,xn,t,rfl,e⟩
  ·rcases e1.new y hy with h1|h1
   ·obtain ⟨yn,h2,h3⟩:=hq.1 y (by simp [h1])
    exact ⟨yn,h2,Xx e1.mono h3⟩
   ·exact h1
  ·rcases e1.src y hy with h1|h1
   ·rcases hq.2 y h1 with h2|h2
    ·rcases List.mem_cons.1 h2 with h2|h2
     ·have:y=xn:=by omega
      subst this
      exact .inr λg Zd=>e2 g Zd
     ·exact .inl (e1.m4 _ h2)
    ·exact .inr λg Zd=>Xx e1.mono (h2 g Zd)
   ·exact .inl h1
theorem CB {n l:Nat} {gs:List PO} (Ze:l<n) (hg:PG n l gs): ∀(f:Nat) (q:List Int) (row:Row),q.length+Kj row<=f->Pw n l gs row->xD gs q row->
  Pw n l gs (Qq gs f q row)/\(∀y t,row.getD y none=some t->(Qq gs f q row).getD y none=some t)/\ ∀y t g,(Qq gs f q row).getD y none=some t->some g∈gs->(Qq gs f q row).getD (ap g y) none≠none
 |0,q,row,hf,h,hq=>by
  have:q= []:=List.eq_nil_of_length_eq_zero (by omega)
  subst this
  exact ⟨h,λ_ _ h=>h,λy t g e Zd=>by
   rcases hq.2 y (by rw [show row.getD y none=some t from e];simp) with h1|h1
   ·cases h1
   ·exact h1 g Zd⟩
 |f+1,[],row,hf,h,hq=>⟨h,λ_ _ h=>h,λy t g e Zd=>by
   rcases hq.2 y (by rw [show row.getD y none=some t from e];simp) with h1|h1
   ·cases h1
   ·exact h1 g Zd⟩
 |f+1,x::q,row,hf,h,hq=>by
  obtain ⟨e1,e2,_⟩:=vR Ze hg h hq
  obtain ⟨r1,r2,r3⟩:=CB Ze hg f _ _ (by have:=e1.ND;simp only [List.length_cons] at hf;omega) e1.ok e2
  exact ⟨r1,λy t e=>r2 y t (e1.mono y t e),r3⟩
theorem Lx {row:Row} {y:Int} :y∈Ha row↔ ∃yn:Nat,y=yn/\row.getD yn none≠none:=by
 unfold Ha
 rw [List.mem_filter,Jj]
 constructor
 ·rintro ⟨h1,h2⟩
  exact ⟨y.toNat,by omega,Option.ne_none_iff_isSome.2 h2⟩
 ·rintro ⟨yn,rfl,h⟩
  obtain ⟨t,ht⟩:=Option.ne_none_iff_exists'.1 h
  exact ⟨by have:=ju ht;omega,by simpa using Option.ne_none_iff_isSome.1 h⟩
theorem pF (row:Row):(Ha row).length<=row.length:=by
 unfold Ha
 refine Nat.le_trans (List.length_filter_le _ _) (by simp [upto])
theorem sL (row:Row):Kj row<=row.length:=List.countP_le_length
theorem sP {n l:Nat} {gs:List PO} (Ze:l<n) (h2:n<=20) (hg:PG n l gs) {row:Row} (h:Pw n l gs row):
  Pw n l gs (Pr gs row)/\(∀y t,row.getD y none=some t->(Pr gs row).getD y none=some t)/\ ∀y t g,(Pr gs row).getD y none=some t->some g∈gs->(Pr gs row).getD (ap g y) none≠none:=
 CB Ze hg 100 _ _ (by have:=pF row;have:=sL row;have:=h.rl;omega) h ⟨λy hy=>Lx.1 hy,λy hy=> .inl (Lx.2 ⟨y,rfl,hy⟩)⟩
theorem rk {n l:Nat} {gs:List PO} (Ze:l<n) (hg:PG n l gs): ∀(f:Nat) (q:List Int) (row:Row),q.length+Kj row<=f->Pw n l gs row->xD gs q row->Qq gs f q row=Qq gs (q.length+Kj row) q row
 |0,q,row,hf,_,_=>by
  have:q.length+Kj row=0:=by omega
  rw [this]
 |f+1,[],row,hf,_,_=>by
  cases h:([]:List Int).length+Kj row with
  |zero=>rfl
  |succ m=>rfl
 |f+1,x::q,row,hf,h,hq=>by
  obtain ⟨e1,e2,_⟩:=vR Ze hg h hq
  have ET:=e1.ND
  have:(x::q).length+Kj row=(q.length+Kj row)+1:=by simp only [List.length_cons];omega
  rw [this]
  simp only [Qq]
  rw [rk Ze hg f _ _ (by simp only [List.length_cons] at hf;omega) e1.ok e2,ET]
def ry (row:Row):Nat:=row.countP (·.isSome)
theorem nu: ∀(a b:Row),a.length=b.length->(∀y t,a.getD y none=some t->b.getD y none=some t)->ry a<=ry b/\(ry a=ry b->a=b)
 | [],[],_,_=>⟨Nat.le_refl _,λ_=>rfl⟩
 | [],_::_,h,_=>by simp at h
 |_::_,[],h,_=>by simp at h
 |x::a,y::b,h,hm=>by
  obtain ⟨h1,h2⟩:=nu a b (by simpa using h) λi t e=>by simpa using hm (i+1) t (by simpa using e)
  unfold ry at h1 h2⊢
  cases x with
  |none=>
   cases y with
   |none=>simp only [List.countP_cons];exact ⟨by simpa using h1,λe=>by rw [h2 (by simpa using e)]⟩
   |some u=>
    simp only [List.countP_cons,Option.isSome_none,Option.isSome_some]
    simp only [if_true,Bool.false_eq_true,if_false]
    exact ⟨by omega,λe=>by omega⟩
  |some t=>
   have:=hm 0 t (by simp)
   simp only [List.getD_cons_zero] at this
   subst this
   simp only [List.countP_cons]
   exact ⟨by simpa using h1,λe=>by rw [h2 (by simpa using e)]⟩
def dT (T:Cm):Nat->Nat->Nat
 |0,_=>0
 |k+1,l=>ry (T.getD l [])+dT T k (l+1)
def NK:Nat->Nat->Cm×Cm->Prop
 |0,_,_=>True
 |k+1,l,s=>NK k (l+1) s/\(s.1.getD l []).length<=dT s.2 (k+1) l
structure Ur (l0:Nat) (s s':Cm×Cm):Prop where
 QR:s'.1.length=s.1.length
 kL:s'.2.length=s.2.length
 low: ∀i,i<l0->s'.1.getD i []=s.1.getD i []/\s'.2.getD i []=s.2.getD i []
 wZ: ∀i o,o∈s.1.getD i []->o∈s'.1.getD i []
 CU: ∀i y t,(s.2.getD i []).getD y none=some t->(s'.2.getD i []).getD y none=some t
 LP: ∀i,(s'.2.getD i []).length=(s.2.getD i []).length
theorem Ur.refl (l0:Nat) (s:Cm×Cm):Ur l0 s s:=⟨rfl,rfl,λ_ _=>⟨rfl,rfl⟩,λ_ _ h=>h,λ_ _ _ h=>h,λ_=>rfl⟩
theorem Ur.trans {l0 l1:Nat} {a b c:Cm×Cm} (h:Ur l0 a b) (k:Ur l1 b c) (hl:l0<=l1):Ur l0 a c:=
 ⟨k.QR.trans h.QR,k.kL.trans h.kL,λi hi=>⟨(k.low i (by omega)).1.trans (h.low i hi).1,(k.low i (by omega)).2.trans (h.low i hi).2⟩,λi o ho=>k.wZ i o (h.wZ i o ho),λi y t e=>k.CU i y t (h.CU i y t e),λi=>(k.LP i).trans (h.LP i)⟩
theorem Ur.Ef {l0 l1:Nat} {a b:Cm×Cm} (h:Ur l1 a b) (hl:l0<=l1):Ur l0 a b:=(Ur.refl l0 a).trans h hl
theorem aI {T T':Cm} : ∀(k l:Nat) (p:List Int),(∀i,l<=i->i<l+k->T'.getD i []=T.getD i [])->Hx T' k l p=Hx T k l p
 |0,_,_,_=>rfl
 |k+1,l,p,h=>by
  simp only [Hx]
  rw [h l (Nat.le_refl _) (by omega)]
  split
  ·rfl
  ·exact aI k (l+1) _ λi h1 h2=>h i (by omega) (by omega)
theorem dy {n:Nat} {s s':Cm×Cm} : ∀(k l:Nat),(∀i,l<=i->s'.1.getD i []=s.1.getD i []/\s'.2.getD i []=s.2.getD i [])->dm n k l s->dm n k l s'
 |0,l,h,hc=>by simp only [dm] at hc⊢;rw [(h l (Nat.le_refl _)).1];exact hc
 |k+1,l,h,hc=>by
  simp only [dm] at hc⊢
  obtain ⟨c1,c2,c3⟩:=hc
  refine ⟨dy k (l+1) (λi hi=>h i (by omega)) c1,?_,?_⟩
  ·rw [(h l (Nat.le_refl _)).1,(h l (Nat.le_refl _)).2]
   have e:(λq=>Hx s'.2 k (l+1) q=true)= λq=>Hx s.2 k (l+1) q=true:=funext λq=>by rw [aI k (l+1) q λi h1 h2=>(h i (by omega)).2]
   rw [e];exact c2
  ·rw [(h (l+1) (by omega)).1,(h l (Nat.le_refl _)).1];exact c3
theorem o3 {T T':Cm} : ∀(k l:Nat),(∀i,l<=i->T'.getD i []=T.getD i [])->dT T' k l=dT T k l
 |0,_,_=>rfl
 |k+1,l,h=>by simp only [dT];rw [h l (Nat.le_refl _),o3 k (l+1) λi hi=>h i (by omega)]
theorem ko {s s':Cm×Cm} : ∀(k l:Nat),(∀i,l<=i->s'.1.getD i []=s.1.getD i []/\s'.2.getD i []=s.2.getD i [])->NK k l s->NK k l s'
 |0,_,_,_=>trivial
 |k+1,l,h,hg=>⟨ko k (l+1) (λi hi=>h i (by omega)) hg.1,by
  rw [(h l (Nat.le_refl _)).1,o3 (k+1) l λi hi=>(h i hi).2];exact hg.2⟩
theorem ta {T T':Cm} (hl: ∀i,(T'.getD i []).length=(T.getD i []).length) (hm: ∀i y t,(T.getD i []).getD y none=some t->(T'.getD i []).getD y none=some t):
  ∀(k l:Nat),dT T k l<=dT T' k l/\(dT T k l=dT T' k l-> ∀i,l<=i->i<l+k->T'.getD i []=T.getD i [])
 |0,l=>⟨Nat.le_refl _,λ_ i h1 h2=>by omega⟩
 |k+1,l=>by
  obtain ⟨h1,h2⟩:=ta hl hm k (l+1)
  obtain ⟨h3,h4⟩:=nu (T.getD l []) (T'.getD l []) (hl l).symm (hm l)
  simp only [dT]
  refine ⟨by omega,λe i g1 g2=>?_⟩
  by_cases hi:i=l
  ·subst hi;exact (h4 (by omega)).symm
  ·exact h2 (by omega) i (by omega) (by omega)
def V (n k l:Nat) (s:Cm×Cm):Prop:=s.1.length=n/\s.2.length=n/\dm n k l s/\NK k l s
structure NJ (n k l:Nat) (s:Cm×Cm) (p:List Int) (s':Cm×Cm):Prop where
 v:V n k l s'
 grow:Ur l s s'
 QP:Gn n (s'.1.getD l []) p
 gens: ∀o∈s'.1.getD l [],o∈s.1.getD l []\/o=some p
theorem DQ.row {n l:Nat} {gs:List PO} {row:Row} {H:List Int->Prop} (h:DQ n l gs row H):Pw n l gs row:=⟨h.rl,h.r0,h.rt⟩
theorem bu {row:Row} {y:Nat} {t g t':List Int} (h1:row.getD y none=some t) (h2:row.getD (ap g y) none=some t'):Lt row (y:Int) (some g)=Ac (Ac t g) (Aj t'):=by
 unfold Lt
 rw [Int.toNat_natCast,h1,Option.getD_some,Option.getD_some,show (Md g (y:Int)).toNat=ap g y from rfl,h2,Option.getD_some]
theorem gy {n l:Nat} {gs:List PO} {row:Row} (hg:PG n l gs) (_h:Pw n l gs row) (hc: ∀y t g,row.getD y none=some t->some g∈gs->row.getD (ap g y) none≠none) {q:List Int} :
  q∈Zk row gs↔ ∃(y:Nat) (t g t':List Int),row.getD y none=some t/\some g∈gs/\row.getD (ap g y) none=some t'/\q=Ac (Ac t g) (Aj t'):=by
 unfold Zk
 rw [List.mem_flatMap]
 constructor
 ·rintro ⟨y,hy,hq⟩
  obtain ⟨o,ho,rfl⟩:=List.mem_map.1 hq
  obtain ⟨yn,rfl,HZ⟩:=Lx.1 hy
  obtain ⟨t,ht⟩:=Option.ne_none_iff_exists'.1 HZ
  obtain ⟨g,rfl,Ob,_⟩:=hg o ho
  obtain ⟨t',ya⟩:=Option.ne_none_iff_exists'.1 (hc yn t g ht ho)
  exact ⟨yn,t,g,t',ht,ho,ya,bu ht ya⟩
 ·rintro ⟨y,t,g,t',h1,h2,h3,rfl⟩
  obtain ⟨g',e,Ob,_⟩:=hg _ h2
  cases e
  exact ⟨(y:Int),Lx.2 ⟨y,rfl,by rw [h1];simp⟩,List.mem_map.2 ⟨some g,h2,bu h1 h3⟩⟩
theorem oF {n:Nat} (h1:1<=n) (h2:n<=20): ∀(k l:Nat) (p:List Int) (s:Cm×Cm),l+k=n->V n k l s->Pm n p->Fx l p->NJ n k l s p (Da k l p s)
 |0,l,p,s,hk,hv,hp,hf=>by
  have hl:l=n:=by omega
  subst hl
  exact ⟨hv,Ur.refl _ _,by rw [hf.all hp];exact .id,λo ho=> .inl ho⟩
 |k+1,l,p,s,hk,hv,hp,hf=>by
  have Ze:l<n:=by omega
  obtain ⟨v1,v2,hc,zq⟩:=hv
  have dF:=hc
  obtain ⟨c1,c2,c3⟩:=hc
  unfold Da
  by_cases hh:Hx s.2 (k+1) l p=true
  ·rw [if_pos hh]
   exact ⟨⟨v1,v2,dF,zq⟩,Ur.refl _ _,(eQ h1 h2 (k+1) l s hk dF p hp hf).1 hh,λo ho=> .inl ho⟩
  rw [if_neg hh]
  generalize x8:s.1.getD l []++ [some p]=gs
  have Wc:some p∈gs:=by rw [<-x8];simp
  have Me: ∀o∈s.1.getD l [],o∈gs:= λo ho=>by rw [<-x8];exact List.mem_append_left _ ho
  have hg:PG n l gs:= λo ho=>by
   rw [<-x8] at ho
   rcases List.mem_append.1 ho with ho|ho
   ·exact c2.pg o ho
   ·rw [List.mem_singleton] at ho;exact ⟨p,ho,hp,hf⟩
  have PS:Pw n l gs (s.2.getD l []):=⟨c2.rl,c2.r0,λy t e=>⟨(c2.rt y t e).1,(c2.rt y t e).2.1,(c2.rt y t e).2.2.1,(c2.rt y t e).2.2.2.mono λg hg=>Me _ hg⟩⟩
  obtain ⟨r1,r2,r3⟩:=sP Ze h2 hg PS
  generalize hR:Pr gs (s.2.getD l [])=R at r1 r2 r3
  have hS:xC n λg=>some g∈gs:=⟨⟨h1,h2⟩,λg Zd=>by obtain ⟨g',e,h,_⟩:=hg _ Zd;cases e;exact h⟩
  have FP: ∀i,((s.1.set l gs).getD i []=if i=l then gs else s.1.getD i [])/\(s.2.set l R).getD i []=if i=l then R else s.2.getD i []:= λi=>by
   rw [Oq,Oq]
   by_cases e:l=i
   ·subst e;rw [if_pos ⟨rfl,by omega⟩,if_pos rfl,if_pos ⟨rfl,by omega⟩,if_pos rfl];exact ⟨rfl,rfl⟩
   ·rw [if_neg (λhh=>e hh.1),if_neg (Ne.symm e),if_neg (λhh=>e hh.1),if_neg (Ne.symm e)];exact ⟨rfl,rfl⟩
  have HY: ∀i,l+1<=i->(s.1.set l gs).getD i []=s.1.getD i []/\(s.2.set l R).getD i []=s.2.getD i []:= λi hi=>by
   rw [(FP i).1,(FP i).2,if_neg (by omega),if_neg (by omega)];exact ⟨rfl,rfl⟩
  have jy:V n k (l+1) (s.1.set l gs,s.2.set l R):=⟨by simpa using v1,by simpa using v2,dy k (l+1) HY c1,ko k (l+1) HY zq.1⟩
  have JQ:Ur l s (s.1.set l gs,s.2.set l R):=by
   refine ⟨by simp,by simp,λi hi=>?_,λi o ho=>?_,λi y t e=>?_,λi=>?_⟩
   ·rw [(FP i).1,(FP i).2,if_neg (by omega),if_neg (by omega)];exact ⟨rfl,rfl⟩
   ·rw [(FP i).1]
    split
    ·rename_i hi;subst hi;exact Me o ho
    ·exact ho
   ·rw [(FP i).2]
    split
    ·rename_i hi;subst hi;exact r2 y t e
    ·exact e
   ·rw [(FP i).2]
    split
    ·rename_i hi;subst hi;rw [r1.rl,c2.rl]
    ·rfl
  have hq: ∀q∈Zk R gs,Pm n q/\Fx (l+1) q/\Gn n gs q:= λq hq=>by
   obtain ⟨y,t,g,t',e1,e2,e3,rfl⟩:=(gy hg r1 r3).1 hq
   obtain ⟨t1,t2,t3,t4⟩:=r1.rt _ _ e1
   obtain ⟨u1,u2,u3,u4⟩:=r1.rt _ _ e3
   obtain ⟨g',e,Ob,JO⟩:=hg _ e2
   cases e
   exact ⟨(t1.comp Ob).comp u1.inv,Fx.div (t1.comp Ob) u1 (Fx.comp t1 Ob t2 JO (by omega)) u2 Ze (by rw [u3,Fe t1 Ob Ze,t3]),Vi.comp hS (.mul t4 e2) (Vi.pe hS u4)⟩
  have fold: ∀(qs:List (List Int)) (s1:Cm×Cm),(∀q∈qs,Pm n q/\Fx (l+1) q)->V n k (l+1) s1->
    V n k (l+1) (qs.foldl (λs q=>Da k (l+1) q s) s1)/\Ur (l+1) s1 (qs.foldl (λs q=>Da k (l+1) q s) s1)/\
     (∀q∈qs,Gn n ((qs.foldl (λs q=>Da k (l+1) q s) s1).1.getD (l+1) []) q)/\ ∀o∈(qs.foldl (λs q=>Da k (l+1) q s) s1).1.getD (l+1) [],o∈s1.1.getD (l+1) []\/ ∃q∈qs,o=some q:=by
   intro qs
   induction qs with
   |nil=>exact λs1 _ hv=>⟨hv,Ur.refl _ _,(λq hq=>by cases hq),λo ho=>Or.inl ho⟩
   |cons q qs ih=>
    intro s1 EV hv
    have ha:=oF h1 h2 k (l+1) q s1 (by omega) hv (EV q (by simp)).1 (EV q (by simp)).2
    obtain ⟨g1,g2,g3,g4⟩:=ih (Da k (l+1) q s1) (λq' cF=>EV q' (by simp [cF])) ha.v
    simp only [List.foldl_cons]
    refine ⟨g1,ha.grow.trans g2 (Nat.le_refl _),λq' cF=>?_,λo ho=>?_⟩
    ·rcases List.mem_cons.1 cF with rfl|cF
     ·exact ha.QP.mono λg hg=>g2.wZ _ _ hg
     ·exact g3 q' cF
    ·rcases g4 o ho with h|⟨q',cF,h⟩
     ·rcases ha.gens o h with h|h
      ·exact .inl h
      ·exact .inr ⟨q,by simp,h⟩
     ·exact .inr ⟨q',by simp [cF],h⟩
  obtain ⟨f1,f2,f3,f4⟩:=fold (Zk R gs) (s.1.set l gs,s.2.set l R) (λq h=>⟨(hq q h).1,(hq q h).2.1⟩) jy
  generalize (Zk R gs).foldl (λs q=>Da k (l+1) q s) (s.1.set l gs,s.2.set l R)=s' at f1 f2 f3 f4
  obtain ⟨w1,w2,w3,w4⟩:=f1
  have NN:s'.1.getD l []=gs:=by rw [(f2.low l (by omega)).1,(FP l).1,if_pos rfl]
  have el2:s'.2.getD l []=R:=by rw [(f2.low l (by omega)).2,(FP l).2,if_pos rfl]
  have zZ:=JQ.trans f2 (by omega)
  have WN:DQ n l gs R (λq=>Hx s'.2 k (l+1) q=true):=⟨hg,r1.rl,r1.r0,r1.rt,r3,λy t g t' e1 e2 e3=>by
   have hm:=(gy hg r1 r3).2 ⟨y,t,g,t',e1,e2,e3,rfl⟩
   exact (eQ h1 h2 k (l+1) s' (by omega) w3 _ (hq _ hm).1 (hq _ hm).2.1).2 (f3 _ hm)⟩
  have HD:dm n (k+1) l s':=⟨w3,by rw [NN,el2];exact WN,λg Zd=>by
   rw [NN]
   rcases f4 _ Zd with h|⟨q,cF,h⟩
   ·rw [(HY (l+1) (Nat.le_refl _)).1] at h
    exact (c3 g h).mono λg hg=>Me _ hg
   ·cases h;exact (hq _ cF).2.2⟩
  have a5:Gn n (s'.1.getD l []) p:=by rw [NN];exact Vi.one hS Wc
  refine ⟨⟨w1,w2,HD,w4,?_⟩,zZ,a5,λo ho=>?_⟩
  ·have hold:=zq.2
   obtain ⟨p1,p2⟩:=ta zZ.LP zZ.CU (k+1) l
   have Er:dT s.2 (k+1) l≠dT s'.2 (k+1) l:= λe=>by
    have:=aI (k+1) l p (p2 e)
    rw [(eQ h1 h2 (k+1) l s' hk HD p hp hf).2 a5] at this
    exact hh this.symm
   rw [NN,<-x8,List.length_append,List.length_singleton]
   omega
  ·rw [NN,<-x8] at ho
   rcases List.mem_append.1 ho with ho|ho
   ·exact .inl ho
   ·rw [List.mem_singleton] at ho;exact .inr ho
end Go.Proofs.Ytjbdmibbbpdnnaa

namespace Go.Proofs.Ytjbdmibbbpdnnaa
open Go.RowKit
theorem BT {n l:Nat} {gs:List PO} {R:Row} (Ze:l<n) (hg:PG n l gs) (r1:Pw n l gs R) (r3: ∀y t g,R.getD y none=some t->some g∈gs->R.getD (ap g y) none≠none): ∀q∈Zk R gs,Pm n q/\Fx (l+1) q:=by
 intro q hq
 obtain ⟨y,t,g,t',e1,e2,e3,rfl⟩:=(gy hg r1 r3).1 hq
 obtain ⟨t1,t2,t3,t4⟩:=r1.rt _ _ e1
 obtain ⟨u1,u2,u3,u4⟩:=r1.rt _ _ e3
 obtain ⟨g',e,Ob,JO⟩:=hg _ e2
 cases e
 exact ⟨(t1.comp Ob).comp u1.inv,Fx.div (t1.comp Ob) u1 (Fx.comp t1 Ob t2 JO (by omega)) u2 Ze (by rw [u3,Fe t1 Ob Ze,t3])⟩
theorem V.lower {n k l:Nat} {s:Cm×Cm} (h:V n (k+1) l s) (gs:List PO) (R:Row):V n k (l+1) (s.1.set l gs,s.2.set l R):=by
 obtain ⟨v1,v2,hc,zq⟩:=h
 have HY: ∀i,l+1<=i->(s.1.set l gs).getD i []=s.1.getD i []/\(s.2.set l R).getD i []=s.2.getD i []:= λi hi=>by
  rw [Oq,Oq,if_neg (by omega),if_neg (by omega)];exact ⟨rfl,rfl⟩
 exact ⟨by simpa using v1,by simpa using v2,dy k (l+1) HY hc.1,ko k (l+1) HY zq.1⟩
theorem wV {n k l:Nat} (h1:1<=n) (h2:n<=20) (hk:l+k=n): ∀(qs:List (List Int)) (s1:Cm×Cm),(∀q∈qs,Pm n q/\Fx l q)->V n k l s1->
  V n k l (qs.foldl (λs q=>Da k l q s) s1)/\Ur l s1 (qs.foldl (λs q=>Da k l q s) s1)
 | [],s1,_,hv=>⟨hv,Ur.refl _ _⟩
 |q::qs,s1,EV,hv=>by
  have ha:=oF h1 h2 k l q s1 hk hv (EV q (by simp)).1 (EV q (by simp)).2
  obtain ⟨g1,g2⟩:=wV h1 h2 hk qs (Da k l q s1) (λq' cF=>EV q' (by simp [cF])) ha.v
  exact ⟨g1,ha.grow.trans g2 (Nat.le_refl _)⟩
theorem BV {n:Nat} {s:Cm×Cm} : ∀(k l:Nat),dm n k l s->dT s.2 k l<=n*k
 |0,_,_=>by simp [dT]
 |k+1,l,hc=>by
  have h1:=BV k (l+1) hc.1
  have h2:ry (s.2.getD l [])<=n:=by
   have:=hc.2.1.rl
   have h3:ry (s.2.getD l [])<=(s.2.getD l []).length:=List.countP_le_length
   omega
  simp only [dT]
  rw [Nat.mul_succ]
  omega
theorem DZ {n k l:Nat} {s:Cm×Cm} (h2:n<=20) (hk:l+(k+1)=n) (h:V n (k+1) l s):(s.1.getD l []).length<=400:=by
 have h3:=h.2.2.2.2
 have h4:=BV (k+1) l h.2.2.1
 have h5:n*(k+1)<=20*20:=Nat.mul_le_mul h2 (by omega)
 omega
theorem V.lvl {n k l:Nat} {s:Cm×Cm} (h:V n (k+1) l s):DQ n l (s.1.getD l []) (s.2.getD l []) (λq=>Hx s.2 k (l+1) q=true):=h.2.2.1.2.1
theorem V.pg {n k l:Nat} {s:Cm×Cm} (h:V n (k+1) l s) {p:List Int} (hp:Pm n p) (hf:Fx l p):PG n l (s.1.getD l []++ [some p]):= λo ho=>by
 rcases List.mem_append.1 ho with ho|ho
 ·exact h.lvl.pg o ho
 ·rw [List.mem_singleton] at ho;exact ⟨p,ho,hp,hf⟩
theorem V.YE {n k l:Nat} {s:Cm×Cm} (h:V n (k+1) l s) (p:List Int):Pw n l (s.1.getD l []++ [some p]) (s.2.getD l []):=
 ⟨h.lvl.rl,h.lvl.r0,λy t e=>⟨(h.lvl.rt y t e).1,(h.lvl.rt y t e).2.1,(h.lvl.rt y t e).2.2.1,(h.lvl.rt y t e).2.2.2.mono λ_ hg=>List.mem_append_left _ hg⟩⟩
theorem mN {α:Type} (xs:List (List α)) (i:Nat) (h:i<xs.length):xs.set i (xs.getD i [])=xs:=by
 refine List.ext_getElem (by simp) λj h1 h2=>?_
 rw [List.getElem_set]
 split
 ·rename_i e;subst e;rw [List.getD_eq_getElem?_getD,List.getElem?_eq_getElem h];rfl
 ·rfl
theorem cz {α:Type} (xs:List (List α)) (i:Nat) (h:i<xs.length) (r:List α):(xs.set i r).getD i []=r:=by
 rw [Oq,if_pos ⟨rfl,h⟩]
end Go.Proofs.Ytjbdmibbbpdnnaa

namespace Go.Proofs.Ytjbdmibbbpdnnaa
open Go.RowKit
noncomputable abbrev Js:MSpec:=yo [none] [(false, .Gd NF)] false [none] [.row tI 2] (λx=>List.length x.1<=20) (λx=>((Ha x.1,()),()))
noncomputable abbrev Pc:Spec:=Dx (.pair tL (.pair tL .unit)) tO false true (λx=>(0<x.1.length/\x.1.length<=20)/\Oc x.2.1.length x.1) (λx=>some (Ac x.1 x.2.1))
noncomputable abbrev Yl:Spec:=Dx (.pair tL (.pair tL .unit)) tL false false (λx=>x.1.length<=20/\Oc x.2.1.length x.1) (λx=>Ac x.1 x.2.1)
noncomputable abbrev Mu:Spec:=Dx (.pair tI .unit) tL false true (λx=>0<=x.1/\x.1<=20) (λx=>upto x.1.toNat)
noncomputable abbrev Uh:Spec:=Dx (.pair tI .unit) tO false true (λx=>1<=x.1/\x.1<=20) (λx=>some (upto x.1.toNat))
abbrev IJ:TypeId:=22
structure jC (N L:Nat) (n:Int) (G T:Cm) (l:Int) (p:List Int):Prop where
 n1:1<=N
 n2:N<=20
 en:n=N
 el:l=L
 le:L<=N
 v:V N (N-L) L (G,T)
 pm:Pm N p
 fx:Fx L p
noncomputable abbrev oc:Spec:=Dx (.pair (.ptr qw) (.pair tI (.pair tL .unit))) .bool false true (λx=> ∃N L,jC N L x.1.1 x.1.2.1 x.1.2.2.1 x.2.1 x.2.2.1) (λx=>Hx x.1.2.2.1 (x.1.1-x.2.1).toNat x.2.1.toNat x.2.2.1)
noncomputable abbrev ID:MSpec:= {ptr:=some (179,3),Gc:= [none,none],ins:= [(false, .Gd tI),(false, .Ah tO IJ true),(false, .Ah tO IJ true),(false, .Gd tI),(false, .Gd tO)],Dp:=false,Fg:= [],outs:= [.Gd tI, .Ah tO IJ false, .Ah tO IJ false],fn:= λ_=>none,keeps:= [(1,1),(2,2)],Ch:= λx=>x.2.2.2.1.toNat}
noncomputable abbrev Nr (m:Nat):MSpec:=uc ID (λx=>(∃N L q,x.2.2.2.2.1=some q/\jC N L x.1 x.2.1 x.2.2.1 x.2.2.2.1 q)/\(x.1-x.2.2.2.1).toNat<m)
 (λx=>((x.1,(Da (x.1-x.2.2.2.1).toNat x.2.2.2.1.toNat (x.2.2.2.2.1.getD []) (x.2.1,x.2.2.1)).1,(Da (x.1-x.2.2.2.1).toNat x.2.2.2.1.toNat (x.2.2.2.2.1.getD []) (x.2.1,x.2.2.1)).2,()),()))
theorem tS (n:Int) (P:List Int->Prop):(((0:Int)<=n/\n<(↑Bq:Int)+(1:Int))/\n=n/\0=0/\(List.replicate n.toNat (Int.ofNat (nat_lit 0))).length=(List.replicate n.toNat (Int.ofNat (nat_lit 0))).length/\Cl (λ(v2:Int×List Int×PUnit) (k3:Int×List Int×PUnit->Prop)=>Br (decide (v2.1<(↑(List.replicate n.toNat (Int.ofNat (nat_lit 0))).length:Int))) (((0:Int)<=v2.1/\v2.1<(↑v2.2.1.length:Int))/\0+v2.1.toNat<v2.2.1.length/\0=0/\v2.2.1.length=(v2.2.1.set (0+v2.1.toNat) v2.1).length/\k3 (IntKind.i64.wrap (v2.1+(1:Int)),v2.2.1.set (0+v2.1.toNat) v2.1,())) (P (List.take v2.2.1.length (List.drop 0 v2.2.1)))) ((0:Int),List.replicate n.toNat (Int.ofNat (nat_lit 0)),PUnit.unit))=fnW Di (look []) Mu Try.f127 (n,()) P:=by kernel_rfl
theorem zi (row:List (Option (List Int))) (P:(List Int×Unit)×Unit->Prop):(0=0/\0=([]:List Int).length/\Cl (λ(v2:Int×List Int×PUnit) (k3:Int×List Int×PUnit->Prop)=>Br (decide (v2.1<(↑row.length:Int))) (∃(y4:Option (List Int)),idx row v2.1=some y4/\Br (!y4.isNone) (0=0/\v2.2.1.length=v2.2.1.length/\v2.2.1.length+(List.take 1 (List.drop 0 [v2.1])).length<=Bq/\0=0/\(v2.2.1++List.take 1 (List.drop 0 [v2.1])).length=(v2.2.1++List.take 1 (List.drop 0 [v2.1])).length/\k3 (IntKind.i64.wrap (v2.1+(1:Int)),v2.2.1++List.take 1 (List.drop 0 [v2.1]),())) (0=0/\v2.2.1.length=v2.2.1.length/\k3 (IntKind.i64.wrap (v2.1+(1:Int)),v2.2.1,()))) (P ((List.take v2.2.1.length (List.drop 0 v2.2.1),()),()))) ((0:Int),[],PUnit.unit))=fnMW Rx (look []) Js Try.f174 (row,()) P:=by kernel_rfl
theorem RT (c:Int×List (List (Option (List Int)))×List (List (Option (List Int)))×Unit) (l:Int) (p:List Int) (P:Bool->Prop):(Cl (λ(v4:List Int×Int×PUnit) (k5:List Int×Int×PUnit->Prop)=>Br (decide (v4.2.1<c.1)) (∃(y6:List (Option (List Int))),idx c.2.2.1 v4.2.1=some y6/\ ∃(y7:Int),idx v4.1 v4.2.1=some y7/\ ∃(y8:Option (List Int)),idx y6 y7=some y8/\Br y8.isNone (P false) (∃(y9:List Int),Dy.fn (y8.getD [],())=some y9/\ ∃(zx:List Int),Yl.fn (v4.1,y9,())=some zx/\k5 (zx,IntKind.i64.wrap (v4.2.1+(1:Int)),()))) (P true)) (p,l,PUnit.unit))=fnW Rx (look [(175,Dy),(156,Yl)]) oc Try.f183 (c,l,p,()) P:=by kernel_rfl
theorem Sound.loose {P:Program} {f:FuncId} {arg res:Ty} {pre:arg.den->Prop} {val:arg.den->res.den} (h:Sound P f (Go.Proofs.Ytjbdmibbbpdnnaa.Dx arg res false true pre val)):Sound P f (Go.Proofs.Ytjbdmibbbpdnnaa.Dx arg res false false pre val):=
 ⟨h.enter,λw S vs x y h1 h2 h3=>Calls.mono (h.calls w S vs x y h1 h2 h3) λe' w' hr=>by
  obtain ⟨v,g1,g2,g3⟩:=hr
  exact ⟨v,g1,g2,Aw.Ef (S:= λb=>S b\/(true=true/\b<w.heap.size)) g3 λk _ hk=>hk.elim .inl λhh=>absurd (show false=true from hh.1) (by simp)⟩⟩
theorem lp:Sound Try.prog 156 Yl:=Sound.loose Nt
theorem lq:Sound Try.prog 156 Pc:=Sound.TW Nt λx h=>⟨⟨h.1.2,h.2⟩,λe=>by
 have:=Tu x.1 x.2.1
 rw [e] at this
 have:=h.1.1
 simp only [List.length_nil] at*
 omega⟩
theorem sS (n:Int) (h:0<=n/\n<=20):fnW Di (look []) Mu Try.f127 (n,()) (λ(z:List Int)=>z=upto n.toNat):=by
 refine Eq.mp (tS n _) ⟨⟨by omega,by show n<(4294967296:Int)+1;omega⟩,rfl,rfl,rfl,?_⟩
 refine Az n.toNat (λv=>v.1) (λj v=>v.2.1.length=n.toNat/\v.2.1.take j=upto j) rfl ⟨by simp,by simp [upto]⟩ ?_
 rintro j ⟨i,ys,⟨⟩⟩ K hj hi ⟨h1,h2⟩ hK
 dsimp only at hi h1 h2⊢
 subst hi
 rw [List.length_replicate]
 simp only [Int.toNat_natCast,Nat.zero_add]
 refine Br.dec (λhl=>⟨⟨by omega,by omega⟩,by omega,trivial,by rw [List.length_set],?_⟩) λhl=>?_
 ·rw [Au (by omega)]
  refine hK (by omega) _ rfl ⟨by rw [List.length_set];exact h1,?_⟩
  rw [List.take_add_one,List.take_set_of_le (by omega),h2,List.getElem?_set_self (by omega),Wv]
  rfl
 ·have:j=ys.length:=by omega
  subst this
  rw [List.take_length] at h2
  rw [List.drop_zero,List.take_length,h2,h1]
theorem Zp:Sound Try.prog 127 Mu:=
 Sound.Dx Ci Bb mixed Try.func127 (by kernel_rfl) (by kernel_rfl) λx h=>sS x.1 h
theorem GB {n:Int} (h:1<=n/\n<=20):(0<=n/\n<=20)/\upto n.toNat≠ []:=⟨by omega,λe=>by
 have:=congrArg List.length e
 simp [upto] at this
 omega⟩
theorem jg:Sound Try.prog 127 Uh:=Sound.TW Zp λ_ h=>GB h
theorem sO {row:Row} {j:Nat} :(upto (j+1)).filter (λy=>(row.getD y.toNat none).isSome)=(upto j).filter (λy=>(row.getD y.toNat none).isSome)++if (row.getD j none).isSome=true then [(j:Int)] else []:=by
 rw [Wv,List.filter_append]
 congr 1
 simp only [List.filter_cons,List.filter_nil,Int.toNat_natCast]
theorem yD (row:List (Option (List Int))) (h:List.length row<=20):fnMW Rx (look []) Js Try.f174 (row,()) (λ(z:(List Int×Unit)×Unit)=>z=((Ha row,()),())):=by
 refine Eq.mp (zi row _) ⟨rfl,rfl,?_⟩
 refine Az row.length (λv=>v.1) (λj v=>v.2.1=(upto j).filter (λy=>(row.getD y.toNat none).isSome)) rfl rfl ?_
 rintro j ⟨i,ys,⟨⟩⟩ K hj hi h1 hK
 dsimp only at hi h1⊢
 subst hi
 refine Br.dec (λhl=>?_) λhl=>?_
 ·have hl:j<row.length:=by omega
  have hlen:ys.length<=j:=by rw [h1];refine Nat.le_trans (List.length_filter_le _ _) (by simp [upto])
  have hg:row.getD j none=row[j]:=by rw [List.getD_eq_getElem?_getD,List.getElem?_eq_getElem hl];rfl
  refine ⟨_,Bc hl,Br.of (λhb=>⟨rfl,rfl,?_,rfl,rfl,?_⟩) λhb=>⟨rfl,rfl,?_⟩⟩
  ·show ys.length+1<=4294967296
   omega
  ·rw [Au (by omega)]
   refine hK hl _ rfl ?_
   show ys++ [(j:Int)]=_
   rw [sO,hg,h1,if_pos (by cases e:row[j] with
    |none=>rw [e] at hb;simp at hb
    |some t=>rfl)]
  ·rw [Au (by omega)]
   refine hK hl _ rfl ?_
   show ys=_
   rw [sO,hg,h1,if_neg (by cases e:row[j] with
    |none=>simp
    |some t=>rw [e] at hb;simp at hb),List.append_nil]
 ·have:j=row.length:=by omega
  subst this
  rw [List.drop_zero,List.take_length,h1]
  rfl
theorem cR:Dq Try.prog 174 Js:=
 Dq.yo hY Bb mixed Try.func174 (by kernel_rfl) (by kernel_rfl) λx h=>yD x.1 h
theorem ez {n:Nat} {s:Cm×Cm} : ∀(k l:Nat),dm n k l s-> ∀i,l<=i->i<l+k->DQ n i (s.1.getD i []) (s.2.getD i []) (λq=>Hx s.2 (l+k-i-1) (i+1) q=true)
 |0,_,_,i,h1,h2=>by omega
 |k+1,l,hc,i,h1,h2=>by
  obtain ⟨c1,c2,_⟩:=hc
  by_cases e:i=l
  ·subst e
   rw [show i+(k+1)-i-1=k by omega]
   exact c2
  ·have:=ez k (l+1) c1 i (by omega) (by omega)
   rwa [show l+1+k-i-1=l+(k+1)-i-1 by omega] at this
theorem rV {α:Type} {xs:List (List α)} {i:Nat} (h:i<xs.length):xs.getD i []=xs[i]:=by
 rw [List.getD_eq_getElem?_getD,List.getElem?_eq_getElem h];rfl
theorem zQ {α:Type} {xs:List (Option α)} {i:Nat} (h:i<xs.length):xs.getD i none=xs[i]:=by
 rw [List.getD_eq_getElem?_getD,List.getElem?_eq_getElem h];rfl
theorem Pm.row {n:Nat} {p:List Int} (h:Pm n p):Oc n p:=by
 have:=h.2.row
 rwa [h.1] at this
theorem QZ (c:Int×List (List (Option (List Int)))×List (List (Option (List Int)))×Unit) (l:Int) (p:List Int) (h: ∃N L,jC N L c.1 c.2.1 c.2.2.1 l p):
  fnW Rx (look [(175,Dy),(156,Yl)]) oc Try.f183 (c,l,p,()) (λ(z:Bool)=>z=Hx c.2.2.1 (c.1-l).toNat l.toNat p):=by
 obtain ⟨n,G,T,⟨⟩⟩:=c
 obtain ⟨N,L,h⟩:=h
 obtain ⟨n1,n2,en,el,hle,v,pm,fx⟩:=h
 dsimp only at en el v⊢
 subst en el
 refine Eq.mp (RT ((N:Int),G,T,()) (L:Int) p _) ?_
 obtain ⟨v1,v2,v3,v4⟩:=v
 dsimp only at v1 v2
 refine ⟨λv=> ∃i:Nat,L<=i/\i<=N/\v.2.1=i/\Pm N v.1/\Fx i v.1/\Hx T (N-i) i v.1=Hx T (N-L) L p,λv=>N-v.2.1.toNat,⟨L,Nat.le_refl _,hle,rfl,pm,fx,rfl⟩,?_⟩
 rintro ⟨p',i',⟨⟩⟩ ⟨i,h1,h2,h3,h4,h5,h6⟩
 dsimp only at h3 h4 h5 h6⊢
 subst h3
 rw [show (((N:Int)-(L:Int)).toNat)=N-L by omega,show ((L:Int)).toNat=L by omega,<-h6]
 refine Br.dec (λhl=>?_) λhl=>?_
 ·have hl:i<N:=by omega
  have Rp:=ez (N-L) L v3 i h1 (by omega)
  obtain ⟨a1,a2⟩:=h4.Of hl
  have hT:i<T.length:=by omega
  have hlen:T[i].length=N:=by have:=Rp.rl;dsimp only at this;rwa [rV hT] at this
  refine ⟨_,Bc hT,_,Bc (by rw [h4.1];exact hl),?_⟩
  have e1:p'[i]'(by rw [h4.1];exact hl)=(ap p' i:Int):=by rw [<-a1,Hf]
  rw [e1]
  refine ⟨_,Bc (by omega),?_⟩
  have e2:N-i=(N-i-1)+1:=by omega
  have e3:(T.getD i []).getD (Md p' (i:Int)).toNat none=T[i][ap p' i]'(by omega):=by
   rw [rV hT];exact zQ (by show ap p' i<_;omega)
  rw [e2]
  simp only [Hx,e3]
  refine Br.of (λhb=>?_) λhb=>?_
  ·cases e:T[i][ap p' i]'(by omega) with
   |none=>rfl
   |some t=>rw [e] at hb;simp at hb
  ·cases e:T[i][ap p' i]'(by omega) with
   |none=>rw [e] at hb;simp at hb
   |some t=>
    have ht:(T.getD i []).getD (ap p' i) none=some t:=by rw [<-e];exact e3
    obtain ⟨t1,t2,t3,t4⟩:=Rp.rt _ _ ht
    simp only [Option.getD_some]
    refine ⟨_,if_pos ⟨by show t.length<=20;rw [t1.1];exact n2,t1.2.row⟩,_,if_pos ⟨by show p'.length<=20;rw [h4.1];exact n2,by show Oc (Aj t).length p';rw [jz,t1.1];exact h4.row⟩,⟨i+1,by omega,by omega,Au (by omega),h4.comp t1.inv,Fx.div h4 t1 h5 t2 hl t3,?_⟩,?_⟩
    ·rw [show N-(i+1)=N-i-1 by omega]
    ·show N-(IntKind.i64.wrap ((i:Int)+1)).toNat<N-((i:Int)).toNat
     rw [Au (by omega)]
     omega
 ·rw [show N-i=0 by omega]
  rfl
theorem yT:Sound Try.prog 183 oc:=
 Sound.Dx hY (Ai Nu (Ai lp Bb)) mixed Try.func183 (by kernel_rfl) (by kernel_rfl) λx h=>QZ x.1 x.2.1 x.2.2.1 h
end Go.Proofs.Ytjbdmibbbpdnnaa

namespace Go.Proofs.Ytjbdmibbbpdnnaa
open Go.RowKit
abbrev qv:Type:=Nat×Nat×Int×List (List (Option (List Int)))×Nat×List (List (Option (List Int)))×Nat×List Int×Int×PUnit
abbrev CJ:Type:=Nat×Int×List (List (Option (List Int)))×Nat×List (List (Option (List Int)))×Nat×List Int×Int×PUnit
abbrev CL:Type:=Nat×List (List (Option (List Int)))×Nat×List (List (Option (List Int)))×Nat×List Int×Int×PUnit
abbrev Fw (G:List (List (Option (List Int)))) (l:Int) (p:Option (List Int)) (T:List (List (Option (List Int)))) (y7:Bool) (n:Int):Prop:=0=0/\(G.getD (0+l.toNat) []).length=(G.getD (0+l.toNat) []).length/\(G.getD (0+l.toNat) []).length+(List.take 1 (List.drop 0 [p])).length<=Bq/\((0:Int)<=l/\l<(↑G.length:Int))/\0=0/\(G.getD (0+l.toNat) []++List.take 1 (List.drop 0 [p])).length=(G.getD (0+l.toNat) []++List.take 1 (List.drop 0 [p])).length/\0+l.toNat=0+l.toNat/\ [(0,G.length),(0,G.length),(0,G.length),(0,T.length)]= [(0,G.length),(0,G.length),(0,G.length),(0,T.length)]/\(l,p,l,p,y7,l,l,0+l.toNat,p,List.take 1 (List.drop 0 [p]),0+l.toNat,G.set (0+l.toNat) (G.getD (0+l.toNat) []++List.take 1 (List.drop 0 [p])),min G.length (0+l.toNat),T,T.length,n,())=(l,p,l,p,y7,l,l,0+l.toNat,p,List.take 1 (List.drop 0 [p]),0+l.toNat,G.set (0+l.toNat) (G.getD (0+l.toNat) []++List.take 1 (List.drop 0 [p])),min G.length (0+l.toNat),T,T.length,n,PUnit.unit)
theorem RP {m:Nat} (n:Int) (G T:List (List (Option (List Int)))) (l:Int) (p:Option (List Int)) (P:(Int×List (List (Option (List Int)))×List (List (Option (List Int)))×Unit)×Unit->Prop):(∃(y7:Bool),oc.fn ((n,List.take G.length (List.drop 0 G),List.take T.length (List.drop 0 T),()),l,p.getD [],())=some y7/\Br y7 ((0=0/\G.length=G.length)/\(0=0/\T.length=T.length)/\(Nr (m+1)).Ch (n,G,T,l,p,())<=G.length/\(Nr (m+1)).Ch (n,G,T,l,p,())<=T.length/\P ((n,G,T,()),())) (((0:Int)<=l/\l<(↑G.length:Int))/\0=0/\(G.getD (0+l.toNat) []).length=(G.getD (0+l.toNat) []).length/\(G.getD (0+l.toNat) []).length+(List.take 1 (List.drop 0 [p])).length<=Bq/\((0:Int)<=l/\l<(↑G.length:Int))/\0=0/\(G.getD (0+l.toNat) []++List.take 1 (List.drop 0 [p])).length=(G.getD (0+l.toNat) []++List.take 1 (List.drop 0 [p])).length/\0+l.toNat=0+l.toNat/\(((0:Int)<=l/\l<(↑T.length:Int))/\ ∃(y8:(List Int×PUnit)×PUnit),Js.fn (T.getD (0+l.toNat) [],())=some y8/\0=0/\(List.take y8.1.1.length (List.drop 0 y8.1.1)).length=(List.take y8.1.1.length (List.drop 0 y8.1.1)).length/\0=0/\G.length=(G.set (0+l.toNat) (G.getD (0+l.toNat) []++List.take 1 (List.drop 0 [p]))).length/\0=0/\T.length=T.length/\Cl (λ(v9:CL) (k10:CL->Prop)=>Br (decide ((↑v9.2.2.2.2.2.1.length:Int)>(0:Int))) (((0:Int)<=l/\l<(↑v9.2.1.length:Int))/\0=0/\(List.take v9.2.2.2.2.2.1.length (List.drop 0 v9.2.2.2.2.2.1)).length=(List.take v9.2.2.2.2.2.1.length (List.drop 0 v9.2.2.2.2.2.1)).length/\0=0/\v9.2.1.length=v9.2.1.length/\0=0/\v9.2.2.2.1.length=v9.2.2.2.1.length/\Cl (λ(v11:qv) (QQ:qv->Prop)=>Br (decide (v11.2.2.1<(↑(v9.2.1.getD (0+l.toNat) []).length:Int))) (((0:Int)<=v11.2.2.1/\v11.2.2.1<(↑(v11.2.2.2.1.getD v11.2.1 []).length:Int))/\((0:Int)<=(0:Int)/\(0:Int)<(↑v11.2.2.2.2.2.2.2.1.length:Int))/\ ∃(wH:Int),v11.2.2.2.2.2.2.2.1[0+Int.toNat (0:Int)]?=some wH/\ ∃(di:Int),idx (((v11.2.2.2.1.getD v11.2.1 []).getD v11.2.2.1.toNat (none:Option (List Int))).getD []) wH=some di/\((0:Int)<=di/\di<(↑(v11.2.2.2.2.2.1.getD v11.1 []).length:Int))/\Br ((v11.2.2.2.2.2.1.getD v11.1 []).getD di.toNat (none:Option (List Int))).isNone (((0:Int)<=(0:Int)/\(0:Int)<(↑v11.2.2.2.2.2.2.2.1.length:Int))/\ ∃(lV:Int),v11.2.2.2.2.2.2.2.1[0+Int.toNat (0:Int)]?=some lV/\((0:Int)<=lV/\lV<(↑(v11.2.2.2.2.2.1.getD v11.1 []).length:Int))/\ ∃(GI:Option (List Int)),Pc.fn (((v11.2.2.2.2.2.1.getD v11.1 []).getD lV.toNat (none:Option (List Int))).getD [],((v11.2.2.2.1.getD v11.2.1 []).getD v11.2.2.1.toNat (none:Option (List Int))).getD [],())=some GI/\((0:Int)<=di/\di<(↑(v11.2.2.2.2.2.1.getD v11.1 []).length:Int))/\0=0/\v11.2.2.2.2.2.2.2.1.length=v11.2.2.2.2.2.2.2.1.length/\v11.2.2.2.2.2.2.2.1.length+(List.take 1 (List.drop 0 [di])).length<=Bq/\0=0/\(List.take (v11.2.2.2.2.2.2.2.1++List.take 1 (List.drop 0 [di])).length (List.drop 0 (v11.2.2.2.2.2.2.2.1++List.take 1 (List.drop 0 [di])))).length=(List.take (v11.2.2.2.2.2.2.2.1++List.take 1 (List.drop 0 [di])).length (List.drop 0 (v11.2.2.2.2.2.2.2.1++List.take 1 (List.drop 0 [di])))).length/\0=0/\v11.2.2.2.1.length=v11.2.2.2.1.length/\0=0/\v11.2.2.2.2.2.1.length=(v11.2.2.2.2.2.1.set v11.1 ((v11.2.2.2.2.2.1.getD v11.1 []).set di.toNat GI)).length/\QQ (v11.1,v11.2.1,IntKind.i64.wrap (v11.2.2.1+(1:Int)),v11.2.2.2.1,v11.2.2.2.2.1,v11.2.2.2.2.2.1.set v11.1 ((v11.2.2.2.2.2.1.getD v11.1 []).set di.toNat GI),v11.2.2.2.2.2.2.1,List.take (v11.2.2.2.2.2.2.2.1++List.take 1 (List.drop 0 [di])).length (List.drop 0 (v11.2.2.2.2.2.2.2.1++List.take 1 (List.drop 0 [di]))),v11.2.2.2.2.2.2.2.2.1,())) (0=0/\(List.take v11.2.2.2.2.2.2.2.1.length (List.drop 0 v11.2.2.2.2.2.2.2.1)).length=(List.take v11.2.2.2.2.2.2.2.1.length (List.drop 0 v11.2.2.2.2.2.2.2.1)).length/\0=0/\v11.2.2.2.1.length=v11.2.2.2.1.length/\0=0/\v11.2.2.2.2.2.1.length=v11.2.2.2.2.2.1.length/\QQ (v11.1,v11.2.1,IntKind.i64.wrap (v11.2.2.1+(1:Int)),v11.2.2.2.1,v11.2.2.2.2.1,v11.2.2.2.2.2.1,v11.2.2.2.2.2.2.1,List.take v11.2.2.2.2.2.2.2.1.length (List.drop 0 v11.2.2.2.2.2.2.2.1),v11.2.2.2.2.2.2.2.2.1,()))) (((0:Int)<=(1:Int)/\(1:Int)<=(↑v11.2.2.2.2.2.2.2.1.length:Int)/\(↑v11.2.2.2.2.2.2.2.1.length:Int)<=(↑v11.2.2.2.2.2.2.2.1.length:Int))/\0=0/\(List.take ((↑v11.2.2.2.2.2.2.2.1.length:Int).toNat-Int.toNat (1:Int)) (List.drop (0+Int.toNat (1:Int)) v11.2.2.2.2.2.2.2.1)).length=(List.take ((↑v11.2.2.2.2.2.2.2.1.length:Int).toNat-Int.toNat (1:Int)) (List.drop (0+Int.toNat (1:Int)) v11.2.2.2.2.2.2.2.1)).length/\0=0/\v11.2.2.2.1.length=v11.2.2.2.1.length/\0=0/\v11.2.2.2.2.2.1.length=v11.2.2.2.2.2.1.length/\k10 (v11.1,v11.2.2.2.1,v11.2.2.2.2.1,v11.2.2.2.2.2.1,v11.2.2.2.2.2.2.1,List.take ((↑v11.2.2.2.2.2.2.2.1.length:Int).toNat-Int.toNat (1:Int)) (List.drop (0+Int.toNat (1:Int)) v11.2.2.2.2.2.2.2.1),v11.2.2.2.2.2.2.2.2.1,()))) (v9.1,0+l.toNat,(0:Int),v9.2.1,v9.2.2.1,v9.2.2.2.1,v9.2.2.2.2.1,List.take v9.2.2.2.2.2.1.length (List.drop 0 v9.2.2.2.2.2.1),v9.2.2.2.2.2.2.1,PUnit.unit)) (∃(DE:(List Int×PUnit)×PUnit),Js.fn (v9.2.2.2.1.getD v9.1 [],())=some DE/\0=0/\DE.1.1.length=DE.1.1.length/\0=0/\v9.2.1.length=v9.2.1.length/\0=0/\v9.2.2.2.1.length=v9.2.2.2.1.length/\Cl (λ(e8:CJ) (k13:CJ->Prop)=>Br (decide (e8.2.1<(↑DE.1.1.length:Int))) (((0:Int)<=e8.2.1/\e8.2.1<(↑e8.2.2.2.2.2.2.1.length:Int))/\ ∃(di:Int),e8.2.2.2.2.2.2.1[0+e8.2.1.toNat]?=some di/\((0:Int)<=l/\l<(↑e8.2.2.1.length:Int))/\0=0/\e8.2.2.2.2.2.2.1.length=e8.2.2.2.2.2.2.1.length/\0=0/\e8.2.2.1.length=e8.2.2.1.length/\0=0/\e8.2.2.2.2.1.length=e8.2.2.2.2.1.length/\Cl (λ(Kd:qv) (k16:qv->Prop)=>Br (decide (Kd.2.2.1<(↑(e8.2.2.1.getD (0+l.toNat) []).length:Int))) (((0:Int)<=Kd.2.2.1/\Kd.2.2.1<(↑(Kd.2.2.2.1.getD Kd.2.1 []).length:Int))/\((0:Int)<=di/\di<(↑(Kd.2.2.2.2.2.1.getD Kd.1 []).length:Int))/\ ∃(IL:Option (List Int)),Pc.fn (((Kd.2.2.2.2.2.1.getD Kd.1 []).getD di.toNat (none:Option (List Int))).getD [],((Kd.2.2.2.1.getD Kd.2.1 []).getD Kd.2.2.1.toNat (none:Option (List Int))).getD [],())=some IL/\ ∃(TZ:Int),idx (((Kd.2.2.2.1.getD Kd.2.1 []).getD Kd.2.2.1.toNat (none:Option (List Int))).getD []) di=some TZ/\((0:Int)<=TZ/\TZ<(↑(Kd.2.2.2.2.2.1.getD Kd.1 []).length:Int))/\ ∃(y19:List Int),Dy.fn (((Kd.2.2.2.2.2.1.getD Kd.1 []).getD TZ.toNat (none:Option (List Int))).getD [],())=some y19/\ ∃(IM:Option (List Int)),Pc.fn (IL.getD [],y19,())=some IM/\0=0/\Kd.2.2.2.1.length=Kd.2.2.2.1.length/\0=0/\Kd.2.2.2.2.2.1.length=Kd.2.2.2.2.2.1.length/\ ∃(zy:(Int×List (List (Option (List Int)))×List (List (Option (List Int)))×PUnit)×PUnit),(Nr m).fn (Kd.2.2.2.2.2.2.2.2.1,Kd.2.2.2.1,Kd.2.2.2.2.2.1,IntKind.i64.wrap (l+(1:Int)),IM,())=some zy/\(Kd.1<(Nr m).Ch (Kd.2.2.2.2.2.2.2.2.1,Kd.2.2.2.1,Kd.2.2.2.2.2.1,IntKind.i64.wrap (l+(1:Int)),IM,())/\Kd.1<(List.length zy.1.2.2.1))/\(Kd.2.1<(Nr m).Ch (Kd.2.2.2.2.2.2.2.2.1,Kd.2.2.2.1,Kd.2.2.2.2.2.1,IntKind.i64.wrap (l+(1:Int)),IM,())/\Kd.2.1<(List.length zy.1.2.1))/\(Kd.1<(Nr m).Ch (Kd.2.2.2.2.2.2.2.2.1,Kd.2.2.2.1,Kd.2.2.2.2.2.1,IntKind.i64.wrap (l+(1:Int)),IM,())/\Kd.1<(List.length zy.1.2.2.1))/\(Kd.1<(Nr m).Ch (Kd.2.2.2.2.2.2.2.2.1,Kd.2.2.2.1,Kd.2.2.2.2.2.1,IntKind.i64.wrap (l+(1:Int)),IM,())/\Kd.1<(List.length zy.1.2.2.1))/\0=0/\Kd.2.2.2.2.2.2.2.1.length=Kd.2.2.2.2.2.2.2.1.length/\0=0/\zy.1.2.1.length=zy.1.2.1.length/\0=0/\zy.1.2.2.1.length=zy.1.2.2.1.length/\k16 (Kd.1,Kd.2.1,IntKind.i64.wrap (Kd.2.2.1+(1:Int)),zy.1.2.1,min Kd.2.2.2.2.1 ((Nr m).Ch (Kd.2.2.2.2.2.2.2.2.1,Kd.2.2.2.1,Kd.2.2.2.2.2.1,IntKind.i64.wrap (l+(1:Int)),IM,())),zy.1.2.2.1,min Kd.2.2.2.2.2.2.1 ((Nr m).Ch (Kd.2.2.2.2.2.2.2.2.1,Kd.2.2.2.1,Kd.2.2.2.2.2.1,IntKind.i64.wrap (l+(1:Int)),IM,())),Kd.2.2.2.2.2.2.2.1,zy.1.1,())) (0=0/\Kd.2.2.2.2.2.2.2.1.length=Kd.2.2.2.2.2.2.2.1.length/\0=0/\Kd.2.2.2.1.length=Kd.2.2.2.1.length/\0=0/\Kd.2.2.2.2.2.1.length=Kd.2.2.2.2.2.1.length/\k13 (Kd.1,IntKind.i64.wrap (e8.2.1+(1:Int)),Kd.2.2.2.1,Kd.2.2.2.2.1,Kd.2.2.2.2.2.1,Kd.2.2.2.2.2.2.1,Kd.2.2.2.2.2.2.2.1,Kd.2.2.2.2.2.2.2.2.1,()))) (e8.1,0+l.toNat,(0:Int),e8.2.2.1,e8.2.2.2.1,e8.2.2.2.2.1,e8.2.2.2.2.2.1,e8.2.2.2.2.2.2.1,e8.2.2.2.2.2.2.2.1,PUnit.unit)) ((0=0/\e8.2.2.1.length=e8.2.2.1.length)/\(0=0/\e8.2.2.2.2.1.length=e8.2.2.2.2.1.length)/\(Nr (m+1)).Ch (n,G,T,l,p,())<=e8.2.2.2.1/\(Nr (m+1)).Ch (n,G,T,l,p,())<=e8.2.2.2.2.2.1/\P ((e8.2.2.2.2.2.2.2.1,e8.2.2.1,e8.2.2.2.2.1,()),()))) (v9.1,(0:Int),v9.2.1,v9.2.2.1,v9.2.2.2.1,v9.2.2.2.2.1,DE.1.1,v9.2.2.2.2.2.2.1,PUnit.unit))) (0+l.toNat,G.set (0+l.toNat) (G.getD (0+l.toNat) []++List.take 1 (List.drop 0 [p])),min G.length (0+l.toNat),T,T.length,List.take y8.1.1.length (List.drop 0 y8.1.1),n,PUnit.unit))/\(((((0:Int)<=l/\l<(↑G.length:Int))/\((Fw G l p T y7 n))/\(Fw G l p T y7 n))/\((0:Int)<=l/\l<(↑G.length:Int))/\(Fw G l p T y7 n))/\((0:Int)<=l/\l<(↑G.length:Int))/\(Fw G l p T y7 n))/\(((((0:Int)<=l/\l<(↑G.length:Int))/\((Fw G l p T y7 n))/\(Fw G l p T y7 n))/\((0:Int)<=l/\l<(↑G.length:Int))/\(Fw G l p T y7 n))/\(((0:Int)<=l/\l<(↑G.length:Int))/\(((Fw G l p T y7 n))/\(Fw G l p T y7 n))/\(((Fw G l p T y7 n))/\((Fw G l p T y7 n))/\(Fw G l p T y7 n))/\((Fw G l p T y7 n))/\((Fw G l p T y7 n))/\(Fw G l p T y7 n))/\(((0:Int)<=l/\l<(↑G.length:Int))/\(Fw G l p T y7 n))/\((0:Int)<=l/\l<(↑G.length:Int))/\((Fw G l p T y7 n))/\((Fw G l p T y7 n))/\(Fw G l p T y7 n))/\(((0:Int)<=l/\l<(↑G.length:Int))/\(Fw G l p T y7 n))/\(((0:Int)<=l/\l<(↑G.length:Int))/\(Fw G l p T y7 n))/\((0:Int)<=l/\l<(↑G.length:Int))/\((Fw G l p T y7 n))/\((Fw G l p T y7 n))/\(Fw G l p T y7 n)))=fnMW (CP [Kl+7]) (look [(183,oc),(174,Js),(156,Pc),(175,Dy),(173,eg.m (Nr m))]) (Nr (m+1)) Try.f173 (n,G,T,l,p,()) P:=by kernel_rfl
theorem r7 {k l:Nat} {p:List Int} {s:Cm×Cm} (h:Hx s.2 k l p=true):Da k l p s=s:=by
 cases k with
 |zero=>rfl
 |succ k=>unfold Da;rw [if_pos h]
theorem r6 (k l:Nat) (p:List Int) (s:Cm×Cm):Da (k+1) l p s=if Hx s.2 (k+1) l p=true then s else
   (Zk (Pr (s.1.getD l []++ [some p]) (s.2.getD l [])) (s.1.getD l []++ [some p])).foldl (λs q=>Da k (l+1) q s)
    (s.1.set l (s.1.getD l []++ [some p]),s.2.set l (Pr (s.1.getD l []++ [some p]) (s.2.getD l []))):=rfl
theorem AQ {n:Nat} {p:List Int} (h:Pm n p) {i:Nat} (hi:i<n):idx p (i:Int)=some (ap p i:Int):=by
 have iz:i<p.length:=by rw [h.1];exact hi
 rw [Bc iz,<-(h.Of hi).1,Hf iz]
theorem uo {x:Int} {gs:List PO} {j:Nat} (hj:j<gs.length) (s:Row×List Int):Qy x (gs.take (j+1)) s=Rh x (Qy x (gs.take j) s) gs[j]:=by
 unfold Qy
 rw [List.take_add_one,List.getElem?_eq_getElem hj,Option.toList_some,List.foldl_append]
 rfl
theorem uq {gs:List PO} {f:Nat} {row:Row} :Qq gs f [] row=row:=by cases f<;>rfl
theorem dz {n:Nat} {p:List Int} (h:Pm n p):0<p.length/\p.length<=20:=⟨by rw [h.1];exact h.n1,by rw [h.1];exact h.n2⟩
theorem w5 {n:Nat} {p q:List Int} (h:Pm n p) (k:Pm n q):Oc q.length p:=by rw [k.1];exact h.row
theorem QV {m:Nat} (n:Int) (G T:List (List (Option (List Int)))) (l:Int) (p:Option (List Int)) (h:(∃N L q,p=some q/\jC N L n G T l q)/\(n-l).toNat<m+1):
  fnMW (CP [Kl+7]) (look [(183,oc),(174,Js),(156,Pc),(175,Dy),(173,eg.m (Nr m))]) (Nr (m+1)) Try.f173 (n,G,T,l,p,()) (λ(z:(Int×List (List (Option (List Int)))×List (List (Option (List Int)))×Unit)×Unit)=>z=((n,(Da (n-l).toNat l.toNat (p.getD []) (G,T)).1,(Da (n-l).toNat l.toNat (p.getD []) (G,T)).2,()),())):=by
 obtain ⟨⟨N,L,q,rfl,h⟩,hm⟩:=h
 have h':=h
 obtain ⟨n1,n2,en,el,hle,v,pm,fx⟩:=h
 subst en el
 have hk:((N:Int)-(L:Int)).toNat=N-L:=by omega
 rw [hk,Int.toNat_natCast]
 refine Eq.mp (RP (N:Int) G T (L:Int) (some q) _) ⟨_,if_pos ⟨N,L,?a⟩,?b⟩
 case a=>
  simp only [List.drop_zero,List.take_length,Option.getD_some]
  exact h'
 obtain ⟨v1,v2,v3,v4⟩:=v
 dsimp only at v1 v2
 have hw:IntKind.i64.wrap ((L:Int)+1)=((L+1:Nat):Int):=Au (by omega)
 simp only [Fw]
 simp only [List.drop_zero,List.take_length,Option.getD_some,hk,Int.toNat_natCast,Nat.zero_add,eq_self,true_and,and_true,List.take_succ_cons,List.take_zero,List.length_cons,List.length_nil,List.length_set,hw]
 refine Br.of (λhh=>⟨by show Int.toNat (L:Int)<=G.length;omega,by show Int.toNat (L:Int)<=T.length;omega,?_⟩) λhh=>?_
 ·rw [r7 (s:=(G,T)) hh]
 obtain ⟨k,ZA⟩: ∃k,N-L=k+1:=by
  cases e:N-L with
  |zero=>rw [e] at hh;simp [Hx] at hh
  |succ k=>exact ⟨k,rfl⟩
 have NX:L<N:=by omega
 have hv:V N (k+1) L (G,T):=by rw [<-ZA];exact ⟨v1,v2,v3,v4⟩
 rw [ZA] at hh⊢
 have e1:(0:Int)<=(L:Int)/\(L:Int)<(G.length:Int):=by omega
 have UE:(0:Int)<=(L:Int)/\(L:Int)<(T.length:Int):=by omega
 have hgl:(G.getD L []).length<=400:=DZ n2 (by omega) hv
 have e2:(G.getD L []).length+1<=Bq:=by show _<=4294967296;omega
 simp only [e1,UE,e2,and_self,true_and,and_true]
 generalize x8:G.getD L []++ [some q]=gs
 have Abe:gs.length<=401:=by rw [<-x8,List.length_append,List.length_singleton];omega
 have hg:PG N L gs:=by rw [<-x8];exact hv.pg pm fx
 have KG:Pw N L gs (T.getD L []):=by rw [<-x8];exact hv.YE q
 obtain ⟨r1,r2,r3⟩:=sP NX n2 hg KG
 generalize hR:Pr gs (T.getD L [])=R at r1 r2 r3
 have uX:Da (k+1) L q (G,T)=(Zk R gs).foldl (λs q=>Da k (L+1) q s) (G.set L gs,T.set L R):=by
  rw [r6,if_neg (by rw [hh];simp)]
  dsimp only
  rw [x8,hR]
 rw [uX]
 have ZC:L<T.length:=by omega
 have hGl:L<G.length:=by omega
 have SJ:(G.set L gs).getD L []=gs:=cz G L hGl gs
 have UW: ∀row:Row,(T.set L row).getD L []=row:=cz T L ZC
 refine ⟨_,if_pos (by show (T.getD L []).length<=20;rw [KG.rl];exact n2),?_⟩
 dsimp only
 have WQ:(Ha (T.getD L [])).length+Kj (T.getD L [])<=40:=by have:=pF (T.getD L []);have:=sL (T.getD L []);have:=KG.rl;omega
 have TE:xD gs (Ha (T.getD L [])) (T.getD L []):=⟨λy hy=>Lx.1 hy,λy hy=> .inl (Lx.2 ⟨y,rfl,hy⟩)⟩
 refine ⟨λv=> ∃(row:Row) (qu:List Int) (kg kt:Nat),v=(L,G.set L gs,kg,T.set L row,kt,qu,(N:Int),())/\L<=kg/\L<=kt/\qu.length+Kj row<=40/\Pw N L gs row/\xD gs qu row/\Qq gs (qu.length+Kj row) qu row=R,
  fun v=>v.2.2.2.2.2.1.length+Kj (v.2.2.2.1.getD v.1 []),⟨T.getD L [],Ha (T.getD L []),min G.length L,T.length,?_,by omega,by omega,WQ,KG,TE,?_⟩,?_⟩
 ·rw [mN T L ZC]
 ·rw [<-rk NX hg 100 _ _ (by omega) KG TE];exact hR
 rintro v ⟨row,qu,kg,kt,rfl,JU,JX,hb,AI,hqi,zU⟩
 dsimp only
 simp only [SJ,UW,List.length_set]
 refine Br.dec (λhl=>⟨e1.2,?_⟩) λhl=>?_
 ·cases qu with
  |nil=>simp at hl
  |cons x qu=>
  obtain ⟨p1,p2,xn,t,rfl,ht⟩:=vR NX hg AI hqi
  have QF:xn<N:=by rw [<-AI.rl];exact ju ht
  refine Az gs.length (λv=>v.2.2.1) (λj v=> ∃kg kt:Nat,v=(L,L,(j:Int),G.set L gs,kg,T.set L (Qy (xn:Int) (gs.take j) (row,qu)).1,kt,(xn:Int)::(Qy (xn:Int) (gs.take j) (row,qu)).2,(N:Int),())/\L<=kg/\L<=kt) rfl ⟨kg,kt,rfl,JU,JX⟩ ?_
  rintro j v K hj hi ⟨kg,kt,rfl,h1,h2⟩ hK
  dsimp only
  simp only [SJ,UW,Int.toNat_natCast]
  refine Br.dec (λhl=>?_) λhl=>?_
  ·have hl:j<gs.length:=by omega
   obtain ⟨x1,x2⟩:=BW NX hg (gs.take j) (q:=qu) (λo ho=>List.mem_of_mem_take ho) AI ht
   have Ra:=uo (x:=(xn:Int)) hl (row,qu)
   generalize Qy (xn:Int) (gs.take j) (row,qu)=s at x1 x2 Ra⊢
   obtain ⟨r,qq⟩:=s
   dsimp only at x1 x2⊢
   obtain ⟨g,mf,Ob,JO⟩:=hg gs[j] (List.getElem_mem hl)
   have XN:r.getD xn none=some t:=x1.mono _ _ ht
   obtain ⟨t1,t2,t3,t4⟩:=x1.ok.rt _ _ XN
   have PR:r.length=N:=x1.ok.rl
   have VT:gs.getD j none=some g:=by rw [zQ hl];exact mf
   have hy:=Ob.lt QF
   have SU:=(Ob.Of QF).1
   have ET:qq.length+Kj r=qu.length+Kj row:=x1.ND
   simp only [List.length_cons] at hb
   simp only [VT,Option.getD_some]
   refine ⟨⟨by omega,by omega⟩,⟨by omega,by simp only [List.length_cons];omega⟩,_,rfl,_,AQ Ob QF,⟨by omega,by omega⟩,?_⟩
   rw [mf] at Ra
   unfold Rh at Ra
   dsimp only at Ra
   rw [Option.getD_some,SU,Int.toNat_natCast,Int.toNat_natCast,XN,Option.getD_some] at Ra
   rw [Int.toNat_natCast]
   refine Br.of (λhn=>?_) λhn=>?_
   ·have hn:r.getD (ap g xn) none=none:=by
     cases e:r.getD (ap g xn) none with
     |none=>rfl
     |some u=>rw [e] at hn;simp at hn
    rw [hn] at Ra
    refine ⟨⟨by omega,by simp only [List.length_cons];omega⟩,_,rfl,⟨by omega,by omega⟩,some (Ac t g),?_,⟨by omega,by omega⟩,?_,?_⟩
    ·rw [Int.toNat_natCast,XN,Option.getD_some]
     exact if_pos ⟨dz t1,w5 t1 Ob⟩
    ·show qq.length+1+1<=4294967296
     omega
    ·rw [Au (by omega)]
     refine hK hl _ rfl ⟨kg,kt,?_,h1,h2⟩
     rw [Ra,List.set_set]
     rfl
   ·have hn: ∃u,r.getD (ap g xn) none=some u:=by
     cases e:r.getD (ap g xn) none with
     |none=>rw [e] at hn;simp at hn
     |some u=>exact ⟨u,rfl⟩
    obtain ⟨u,hn⟩:=hn
    rw [hn] at Ra
    rw [Au (by omega)]
    refine hK hl _ rfl ⟨kg,kt,?_,h1,h2⟩
    rw [Ra]
  ·have:j=gs.length:=by omega
   subst this
   rw [List.take_length]
   generalize hs:Qy (xn:Int) gs (row,qu)=s at p1 p2⊢
   obtain ⟨r,qq⟩:=s
   dsimp only at p1 p2⊢
   have ET:qq.length+Kj r=qu.length+Kj row:=p1.ND
   simp only [List.length_cons] at hb zU
   refine ⟨⟨by omega,by simp only [List.length_cons];omega,Int.le_refl _⟩,⟨r,qq,kg,kt,?_,h1,h2,by omega,p1.ok,p2,?_⟩,?_⟩
   ·simp
   ·rw [show qu.length+1+Kj row=(qu.length+Kj row)+1 by omega] at zU
    simp only [Qq,hs] at zU
    rw [ET]
    exact zU
   ·simp only [List.length_cons]
    have:(List.take (qq.length+1-Int.toNat 1) (List.drop (Int.toNat 1) ((xn:Int)::qq))).length=qq.length:=by simp
    rw [this]
    omega
 ·have:qu= []:=List.eq_nil_of_length_eq_zero (by omega)
  subst this
  rw [uq] at zU
  subst zU
  have ZU:=BT NX hg AI r3
  have QB:=hv.lower gs row
  have HI: ∀qs:List (List Int),(∀q∈qs,q∈Zk row gs)->V N k (L+1) (qs.foldl (λs q=>Da k (L+1) q s) (G.set L gs,T.set L row))/\Ur (L+1) (G.set L gs,T.set L row) (qs.foldl (λs q=>Da k (L+1) q s) (G.set L gs,T.set L row)):=
   fun qs EV=>wV n1 n2 (by omega) qs _ (λq hq=>ZU q (EV q hq)) QB
  refine ⟨_,if_pos (by show row.length<=20;rw [AI.rl];exact n2),?_⟩
  dsimp only
  have hol:=pF row
  have PR:=AI.rl
  refine Az (Ha row).length (λv=>v.2.1) (λi v=> ∃(s:Cm×Cm) (kg kt:Nat),v=(L,(i:Int),s.1,kg,s.2,kt,Ha row,(N:Int),())/\L<=kg/\L<=kt/\s=(((Ha row).take i).flatMap λy=>gs.map (Lt row y)).foldl (λs q=>Da k (L+1) q s) (G.set L gs,T.set L row)) rfl ⟨_,kg,kt,rfl,JU,JX,rfl⟩ ?_
  rintro i v K hi iz ⟨s,kg,kt,rfl,h1,h2,hs⟩ hK
  dsimp only
  have Me: ∀q∈((Ha row).take i).flatMap (λy=>gs.map (Lt row y)),q∈Zk row gs:= λq hq=>by
   obtain ⟨y,hy,hq⟩:=List.mem_flatMap.1 hq
   exact List.mem_flatMap.2 ⟨y,List.mem_of_mem_take hy,hq⟩
  refine Br.dec (λhl=>?_) λhl=>?_
  ·have hl:i<(Ha row).length:=by omega
   obtain ⟨f1,f2⟩:=HI _ Me
   rw [<-hs] at f1 f2
   have g1:s.1.getD L []=gs:=by rw [(f2.low L (by omega)).1];exact SJ
   have g2:s.1.length=N:=f1.1
   obtain ⟨yn,HZ,QG⟩:=Lx.1 (List.getElem_mem hl)
   obtain ⟨t,ht⟩:=Option.ne_none_iff_exists'.1 QG
   have hyN:yn<N:=by rw [<-PR];exact ju ht
   obtain ⟨t1,t2,t3,t4⟩:=AI.rt _ _ ht
   refine ⟨⟨by omega,by omega⟩,(yn:Int),by rw [Int.toNat_natCast,List.getElem?_eq_getElem hl,HZ],by omega,?_⟩
   rw [g1]
   refine Az gs.length (λv=>v.2.2.1) (λj v=> ∃(s':Cm×Cm) (kg kt:Nat),v=(L,L,(j:Int),s'.1,kg,s'.2,kt,Ha row,(N:Int),())/\L<=kg/\L<=kt/\s'=(((Ha row).take i).flatMap (λy=>gs.map (Lt row y))++(gs.take j).map (Lt row (yn:Int))).foldl (λs q=>Da k (L+1) q s) (G.set L gs,T.set L row)) rfl ⟨s,kg,kt,rfl,h1,h2,by simpa using hs⟩ ?_
   rintro j v K' hj xT ⟨s',kg,kt,rfl,h1,h2,zu⟩ NW
   dsimp only
   refine Br.dec (λHy=>?_) λHy=>?_
   ·have Hy:j<gs.length:=by omega
    have xh: ∀q∈((Ha row).take i).flatMap (λy=>gs.map (Lt row y))++(gs.take j).map (Lt row (yn:Int)),q∈Zk row gs:= λq hq=>by
     rcases List.mem_append.1 hq with hq|hq
     ·exact Me q hq
     ·obtain ⟨o,ho,rfl⟩:=List.mem_map.1 hq
      exact List.mem_flatMap.2 ⟨(yn:Int),Lx.2 ⟨yn,rfl,QG⟩,List.mem_map.2 ⟨o,List.mem_of_mem_take ho,rfl⟩⟩
    obtain ⟨MK,SH⟩:=HI _ xh
    rw [<-zu] at MK SH
    obtain ⟨G',T'⟩:=s'
    dsimp only at MK SH⊢
    have g1':G'.getD L []=gs:=by have:=(SH.low L (by omega)).1;dsimp only at this;rw [this];exact SJ
    have g3':T'.getD L []=row:=by have:=(SH.low L (by omega)).2;dsimp only at this;rw [this];exact UW row
    have g4':G'.length=N:=MK.1
    have g5':T'.length=N:=MK.2.1
    obtain ⟨g,mf,Ob,JO⟩:=hg gs[j] (List.getElem_mem Hy)
    have VT:gs.getD j none=some g:=by rw [zQ Hy];exact mf
    have hgm:some g∈gs:=by rw [<-mf];exact List.getElem_mem Hy
    have hy:=Ob.lt hyN
    obtain ⟨t',ya⟩:=Option.ne_none_iff_exists'.1 (r3 yn t g ht hgm)
    obtain ⟨u1,u2,u3,u4⟩:=AI.rt _ _ ya
    have PU:Lt row (yn:Int) gs[j]=Ac (Ac t g) (Aj t'):=by rw [mf];exact bu ht ya
    have HT:=ZU _ (List.mem_flatMap.2 ⟨(yn:Int),Lx.2 ⟨yn,rfl,QG⟩,List.mem_map.2 ⟨gs[j],List.getElem_mem Hy,PU⟩⟩)
    simp only [g1',g3',Int.toNat_natCast,VT,ht,Option.getD_some]
    have kB:L<Int.toNat ((L+1:Nat):Int):=by omega
    have OA:=oF n1 n2 k (L+1) _ (G',T') (by omega) MK HT.1 HT.2
    have ZD:((Da k (L+1) (Ac (Ac t g) (Aj t')) (G',T')).1).length=N:=OA.v.1
    have ZE:((Da k (L+1) (Ac (Ac t g) (Aj t')) (G',T')).2).length=N:=OA.v.2.1
    have DJ:((N:Int)-((L+1:Nat):Int)).toNat=k:=by omega
    refine ⟨⟨by omega,by omega⟩,⟨by omega,by omega⟩,some (Ac t g),if_pos ⟨dz t1,w5 t1 Ob⟩,_,AQ Ob hyN,⟨by omega,by omega⟩,Aj t',?_,some (Ac (Ac t g) (Aj t')),?_,_,if_pos ⟨⟨N,L+1,_,rfl,?pr⟩,?lt⟩,⟨kB,?k1⟩,⟨kB,?k2⟩,⟨kB,?k3⟩,⟨kB,?k4⟩,?go⟩
    case pr=>exact ⟨n1,n2,rfl,rfl,by omega,by rw [show N-(L+1)=k by omega];exact MK,HT.1,HT.2⟩
    case lt=>
     show ((N:Int)-((L+1:Nat):Int)).toNat<m
     omega
    case go=>
     dsimp only
     rw [Au (by omega)]
     refine NW Hy _ rfl ⟨_,_,_,rfl,?_,?_,?_⟩
     ·show L<=min kg (Int.toNat ((L+1:Nat):Int));omega
     ·show L<=min kt (Int.toNat ((L+1:Nat):Int));omega
     ·rw [List.take_add_one,List.getElem?_eq_getElem Hy,Option.toList_some,List.map_append,<-List.append_assoc,List.foldl_append,<-zu]
      simp only [List.map_cons,List.map_nil,List.foldl_cons,List.foldl_nil,PU,DJ,Int.toNat_natCast,Option.getD_some]
    case k1=>simp only [DJ,Int.toNat_natCast,Option.getD_some];omega
    case k2=>simp only [DJ,Int.toNat_natCast,Option.getD_some];omega
    case k3=>simp only [DJ,Int.toNat_natCast,Option.getD_some];omega
    case k4=>simp only [DJ,Int.toNat_natCast,Option.getD_some];omega
    ·rw [Int.toNat_natCast,ya,Option.getD_some]
     exact if_pos ⟨by show t'.length<=20;rw [u1.1];exact n2,u1.2.row⟩
    ·exact if_pos ⟨dz (t1.comp Ob),w5 (t1.comp Ob) u1.inv⟩
   ·have:j=gs.length:=by omega
    subst this
    rw [Au (by omega)]
    refine hK hl _ rfl ⟨s',kg,kt,rfl,h1,h2,?_⟩
    rw [zu,List.take_length,List.take_add_one,List.getElem?_eq_getElem hl,Option.toList_some,List.flatMap_append,HZ]
    simp
  ·have:i=(Ha row).length:=by omega
   subst this
   rw [List.take_length] at hs
   refine ⟨h1,h2,?_⟩
   rw [hs]
   rfl
theorem CF {m:Nat} (KT:Dq Try.prog 173 (Nr m)):Dq Try.prog 173 (Nr (m+1)):=
 Dq.uc (FX [Kl+7]) (Ai yT (Vp cR (Ai lq (Ai Nu (Vp KT Bb))))) mixed Try.func173 (by kernel_rfl) (by kernel_rfl) λx h=>QV x.1 x.2.1 x.2.2.1 x.2.2.2.1 x.2.2.2.2.1 h
theorem wc:Dq Try.prog 173 (Nr 0):=
 Dq.uc hY Bb mixed Try.func173 (by kernel_rfl) (by kernel_rfl) λ_ h=>absurd h.2 (Nat.not_lt_zero _)
theorem ll: ∀m,Dq Try.prog 173 (Nr m)
 |0=>wc
 |m+1=>CF (ll m)
noncomputable abbrev q8:MSpec:=uc ID (λx=> ∃N L q,x.2.2.2.2.1=some q/\jC N L x.1 x.2.1 x.2.2.1 x.2.2.2.1 q)
 (λx=>((x.1,(Da (x.1-x.2.2.2.1).toNat x.2.2.2.1.toNat (x.2.2.2.2.1.getD []) (x.2.1,x.2.2.1)).1,(Da (x.1-x.2.2.2.1).toNat x.2.2.2.1.toNat (x.2.2.2.2.1.getD []) (x.2.1,x.2.2.1)).2,()),()))
theorem we:Dq Try.prog 173 q8:=Dq.QT (λx=>(x.1-x.2.2.2.1).toNat) ll
end Go.Proofs.Ytjbdmibbbpdnnaa

namespace Go.Proofs.Ytjbdmibbbpdnnaa
open Go.RowKit
def Qv (n:Nat):Cm:=List.replicate n []
def Wu (n i:Nat):Row:=(List.replicate n none).set i (some (upto n))
def Vg (n:Nat):Cm:=(List.range n).map λi=>Wu n i
def Mb (n:Nat) (gens:List PO):Cm×Cm:=gens.foldl (λs o=>Da n 0 (o.getD []) s) (Qv n,Vg n)
noncomputable abbrev ve:MSpec:= {Gc:= [none,none],ins:= [(false, .Gd tI),(false, .Gd NF)],Dp:=false,Fg:= [none,none,none],outs:= [.Gd tI, .Ah tO IJ false, .Ah tO IJ false],fn:= λ_=>none,rp:=some 179}
noncomputable abbrev br:MSpec:=uc ve (λx=>(1<=x.1/\x.1<=20)/\List.length x.2.1<=4294967296/\ ∀o∈(x.2.1:List PO),∃g,o=some g/\Pm x.1.toNat g)
 (λx=>((x.1,(Mb x.1.toNat x.2.1).1,(Mb x.1.toNat x.2.1).2,()),()))
abbrev Rw:Type:=Int×List (List (Option (List Int)))×Int×List (List (Option (List Int)))×PUnit
theorem tW (n:Int) (gens:List (Option (List Int))) (P:(Int×List (List (Option (List Int)))×List (List (Option (List Int)))×Unit)×Unit->Prop):(((0:Int)<=n/\n<(↑Bq:Int)+(1:Int))/\n=n/\0=0/\(List.replicate n.toNat ([]:List (Option (List Int)))).length=(List.replicate n.toNat ([]:List (Option (List Int)))).length/\0=0/\0=([]:List Int).length/\Cl (λ(v3:Rw) (k4:Rw->Prop)=>Br (decide (v3.1<n)) (((0:Int)<=n/\n<(↑Bq:Int)+(1:Int))/\n=n/\ ∃(y5:Option (List Int)),Uh.fn (n,())=some y5/\((0:Int)<=v3.1/\v3.1<(↑(List.replicate n.toNat (none:Option (List Int))).length:Int))/\0+v3.1.toNat<(List.replicate n.toNat (none:Option (List Int))).length/\0=0/\(List.replicate n.toNat (none:Option (List Int))).length=((List.replicate n.toNat (none:Option (List Int))).set (0+v3.1.toNat) y5).length/\(0=0/\v3.2.2.2.1.length=v3.2.2.2.1.length)/\(0=0/\1= [(List.replicate n.toNat (none:Option (List Int))).set (0+v3.1.toNat) y5].length)/\0< [(List.replicate n.toNat (none:Option (List Int))).set (0+v3.1.toNat) y5].length/\v3.2.2.2.1.length+ [(List.replicate n.toNat (none:Option (List Int))).set (0+v3.1.toNat) y5].length<=Bq/\0=0/\v3.2.1.length=v3.2.1.length/\0=0/\(v3.2.2.2.1++ [(List.replicate n.toNat (none:Option (List Int))).set (0+v3.1.toNat) y5]).length=(v3.2.2.2.1++ [(List.replicate n.toNat (none:Option (List Int))).set (0+v3.1.toNat) y5]).length/\k4 (IntKind.i64.wrap (v3.1+(1:Int)),v3.2.1,v3.2.2.1,v3.2.2.2.1++ [(List.replicate n.toNat (none:Option (List Int))).set (0+v3.1.toNat) y5],())) (0=0/\v3.2.1.length=v3.2.1.length/\0=0/\v3.2.2.2.1.length=v3.2.2.2.1.length/\Cl (λ(v5:Rw) (k6:Rw->Prop)=>Br (decide (v5.1<(↑gens.length:Int))) (∃(y7:Option (List Int)),idx gens v5.1=some y7/\0=0/\v5.2.1.length=v5.2.1.length/\0=0/\v5.2.2.2.1.length=v5.2.2.2.1.length/\ ∃(y8:(Int×List (List (Option (List Int)))×List (List (Option (List Int)))×PUnit)×PUnit),q8.fn (v5.2.2.1,v5.2.1,v5.2.2.2.1,(0:Int),y7,())=some y8/\0=0/\y8.1.2.1.length=y8.1.2.1.length/\0=0/\y8.1.2.2.1.length=y8.1.2.2.1.length/\k6 (IntKind.i64.wrap (v5.1+(1:Int)),y8.1.2.1,y8.1.1,y8.1.2.2.1,())) ((0=0/\v5.2.1.length=v5.2.1.length)/\(0=0/\v5.2.2.2.1.length=v5.2.2.2.1.length)/\P ((v5.2.2.1,v5.2.1,v5.2.2.2.1,()),()))) ((0:Int),v3.2.1,v3.2.2.1,v3.2.2.2.1,PUnit.unit))) ((0:Int),List.replicate n.toNat ([]:List (Option (List Int))),n,[],PUnit.unit))=fnMW Rx (look [(127,Uh),(173,q8)]) br Try.f154 (n,gens,()) P:=by kernel_rfl
theorem Tm (n i:Nat):(Qv n).getD i []= []:=by
 unfold Qv
 rw [List.getD_eq_getElem?_getD,List.getElem?_replicate]
 split<;>rfl
theorem dY {n i:Nat} (h:i<n):(Vg n).getD i []=Wu n i:=by
 unfold Vg
 rw [List.getD_eq_getElem?_getD,List.getElem?_map,List.getElem?_range h]
 rfl
theorem fE {n i y:Nat} (h:i<n):(Wu n i).getD y none=if i=y then some (upto n) else none:=by
 unfold Wu
 rw [Oq,List.length_replicate]
 by_cases e:i=y
 ·rw [if_pos ⟨e,h⟩,if_pos e]
 ·rw [if_neg (λhh=>e hh.1),if_neg e,List.getD_eq_getElem?_getD,List.getElem?_replicate]
  split<;>rfl
theorem lE {n:Nat} (h1:1<=n) (h2:n<=20): ∀(k l:Nat),l+k=n->dm n k l (Qv n,Vg n)
 |0,l,hk=>Tm n l
 |k+1,l,hk=>by
  have hl:l<n:=by omega
  have hg: ∀(g:List Int) (j:Nat),some g∈(Qv n).getD j []->False:= λg j hg=>by rw [Tm] at hg;cases hg
  refine ⟨lE h1 h2 k (l+1) (by omega),⟨λo ho=>?_,?_,?_,λy t e0=>?_,λy t g _ Zd=>(hg _ _ Zd).elim,λy t g t' _ Zd=>(hg _ _ Zd).elim⟩,λg Zd=>(hg _ _ Zd).elim⟩
  ·have ho:o∈(Qv n).getD l []:=ho
   rw [Tm] at ho;cases ho
  ·show ((Vg n).getD l []).length=n
   rw [dY hl];simp [Wu]
  ·show ((Vg n).getD l []).getD l none=_
   rw [dY hl,fE hl,if_pos rfl]
  ·replace e0:((Vg n).getD l []).getD y none=some t:=e0
   rw [dY hl,fE hl] at e0
   by_cases hy:l=y
   ·rw [if_pos hy] at e0
    have e1:=Option.some.inj e0
    subst e1 hy
    exact ⟨Pm.id h1 h2,λi hi=>ej (by omega),ej hl, .id⟩
   ·rw [if_neg hy] at e0;cases e0
theorem tA (n:Nat): ∀(k l:Nat),NK k l (Qv n,Vg n)
 |0,_=>trivial
 |k+1,l=>⟨tA n k (l+1),by show ((Qv n).getD l []).length<=_;rw [Tm];exact Nat.zero_le _⟩
theorem xw {n:Nat} (h1:1<=n) (h2:n<=20):V n n 0 (Qv n,Vg n):=⟨by simp [Qv],by simp [Vg],lE h1 h2 n 0 (by omega),tA n n 0⟩
def SD (n:Nat) (gens:List PO):Prop:= ∀o∈gens,∃g,o=some g/\Pm n g
theorem qZ {n:Nat} {gens:List PO} {j:Nat} (hj:j<gens.length):Mb n (gens.take (j+1))=Da n 0 (gens[j].getD []) (Mb n (gens.take j)):=by
 unfold Mb
 rw [List.take_add_one,List.getElem?_eq_getElem hj,Option.toList_some,List.foldl_append]
 rfl
theorem fR {n:Nat} (h1:1<=n) (h2:n<=20): ∀(gens:List PO) (s:Cm×Cm),SD n gens->V n n 0 s->V n n 0 (gens.foldl (λs o=>Da n 0 (o.getD []) s) s)/\
  Ur 0 s (gens.foldl (λs o=>Da n 0 (o.getD []) s) s)/\(∀g,some g∈gens->Gn n ((gens.foldl (λs o=>Da n 0 (o.getD []) s) s).1.getD 0 []) g)/\ ∀o∈(gens.foldl (λs o=>Da n 0 (o.getD []) s) s).1.getD 0 [],o∈s.1.getD 0 []\/o∈gens
 | [],s,_,hv=>⟨hv,Ur.refl _ _,(λ_ hg=>by cases hg),λ_ ho=> .inl ho⟩
 |o::gens,s,hg,hv=>by
  obtain ⟨g,rfl,Ob⟩:=hg o (by simp)
  have ha:=oF h1 h2 n 0 g s (by omega) hv Ob (λi hi=>absurd hi (Nat.not_lt_zero _))
  obtain ⟨a1,a2,a3,a4⟩:=fR h1 h2 gens (Da n 0 g s) (λo ho=>hg o (by simp [ho])) ha.v
  refine ⟨a1,ha.grow.trans a2 (Nat.le_refl _),λg' Zd=>?_,λo ho=>?_⟩
  ·rcases List.mem_cons.1 Zd with e|Zd
   ·cases e;exact ha.QP.mono λg hg=>a2.wZ _ _ hg
   ·exact a3 g' Zd
  ·rcases a4 o ho with h|h
   ·rcases ha.gens o h with h|h
    ·exact .inl h
    ·exact .inr (by simp [h])
   ·exact .inr (by simp [h])
theorem qY {n:Nat} (h1:1<=n) (h2:n<=20) {gens:List PO} (hg:SD n gens):V n n 0 (Mb n gens):=(fR h1 h2 gens _ hg (xw h1 h2)).1
theorem ku {n:Nat} (h1:1<=n) (h2:n<=20) {gens:List PO} (hg:SD n gens) {p:List Int} (hp:Pm n p):Hx (Mb n gens).2 n 0 p=true↔Gn n gens p:=by
 obtain ⟨a1,a2,a3,a4⟩:=fR h1 h2 gens _ hg (xw h1 h2)
 have hS:xC n λg=>some g∈gens:=⟨⟨h1,h2⟩,λg Zd=>by obtain ⟨g',e,h⟩:=hg _ Zd;cases e;exact h⟩
 have Me: ∀g,some g∈(Mb n gens).1.getD 0 []->some g∈gens:= λg Zd=>by
  rcases a4 _ Zd with h|h
  ·have h:some g∈(Qv n).getD 0 []:=h
   rw [Tm] at h;cases h
  ·exact h
 have NY:xC n λg=>some g∈(Mb n gens).1.getD 0 []:=⟨⟨h1,h2⟩,λg Zd=>hS.2 g (Me g Zd)⟩
 refine (eQ h1 h2 n 0 (Mb n gens) (by omega) a1.2.2.1 p hp λi hi=>absurd hi (Nat.not_lt_zero _)).trans ⟨λh=>h.mono Me,λh=>h.trans NY λg Zd=>a3 g Zd⟩
theorem sW (n:Int) (gens:List (Option (List Int))) (h:(1<=n/\n<=20)/\List.length gens<=4294967296/\ ∀o∈(gens:List PO),∃g,o=some g/\Pm n.toNat g):
  fnMW Rx (look [(127,Uh),(173,q8)]) br Try.f154 (n,gens,()) (λ(z:(Int×List (List (Option (List Int)))×List (List (Option (List Int)))×Unit)×Unit)=>z=((n,(Mb n.toNat gens).1,(Mb n.toNat gens).2,()),())):=by
 obtain ⟨⟨h1,h2⟩,h3,hg⟩:=h
 obtain ⟨N,rfl⟩: ∃N:Nat,n=N:=⟨n.toNat,by omega⟩
 rw [Int.toNat_natCast] at hg⊢
 have h1:1<=N:=by omega
 have h2:N<=20:=by omega
 refine Eq.mp (tW (N:Int) gens _) ?_
 have hm:((0:Int)<=(N:Int)/\(N:Int)<(Bq:Int)+1):=⟨by omega,by show (N:Int)<(4294967296:Int)+1;omega⟩
 simp only [hm,and_self,eq_self,true_and,Int.toNat_natCast,Nat.zero_add,List.length_nil,List.length_set,List.length_replicate,List.length_cons,Nat.lt_add_one,List.length_append]
 refine Az N (λv=>v.1) (λj v=>v=((j:Int),Qv N,(N:Int),(List.range j).map (Wu N),())) rfl rfl ?_
 rintro j v K hj hi rfl hK
 dsimp only
 refine Br.dec (λhl=>?_) λhl=>?_
 ·refine ⟨_,if_pos ⟨by show (1:Int)<=N;omega,by show (N:Int)<=20;omega⟩,⟨by omega,by omega⟩,by rw [Int.toNat_natCast];omega,?_,?_⟩
  ·show _<=4294967296
   simp only [List.length_map,List.length_range]
   omega
  ·rw [Au (by omega)]
   refine hK (by omega) _ rfl ?_
   rw [List.range_succ,List.map_append]
   rfl
 ·have:j=N:=by omega
  subst this
  refine Az gens.length (λv=>v.1) (λi v=>v=((i:Int),(Mb j (gens.take i)).1,(j:Int),(Mb j (gens.take i)).2,())) rfl rfl ?_
  rintro i v K' iz Abg rfl NW
  dsimp only
  refine Br.dec (λHy=>?_) λHy=>?_
  ·have Hy:i<gens.length:=by omega
   obtain ⟨g,mf,Ob⟩:=hg gens[i] (List.getElem_mem Hy)
   have hv:=qY h1 h2 (gens:=gens.take i) λo ho=>hg o (List.mem_of_mem_take ho)
   refine ⟨_,Bc Hy,_,if_pos ⟨j,0,g,mf,h1,h2,rfl,rfl,Nat.zero_le _,hv,Ob,λi hi=>absurd hi (Nat.not_lt_zero _)⟩,?_⟩
   rw [Au (by omega)]
   refine NW Hy _ rfl ?_
   rw [qZ Hy]
   simp only [Int.sub_zero,Int.toNat_natCast]
   rfl
  ·have:i=gens.length:=by omega
   subst this
   rw [List.take_length]
theorem jk:Dq Try.prog 154 br:=
 Dq.uc hY (Ai jg (Vp we Bb)) mixed Try.func154 (by kernel_rfl) (by kernel_rfl) λx h=>sW x.1 x.2.1 h
end Go.Proofs.Ytjbdmibbbpdnnaa

namespace Go.Proofs.Ytjbdmibbbpdnnaa
open Go.RowKit
def Tg (T:Cm):Nat->Nat
 |0=>1
 |j+1=>Tg T j*(Ha (T.getD j [])).length
noncomputable abbrev cb:Spec:=Dx (.pair (.ptr qw) (.pair tI .unit)) tI false true (λx=>x.2.1=0/\ ∃N:Nat,(1<=N/\N<=20)/\x.1.1=N/\V N N 0 (x.1.2.1,x.1.2.2.1)) (λx=>(Tg x.1.2.2.1 x.1.1.toNat:Int))
noncomputable abbrev si:MSpec:= {Gc:= [none,none],ins:= [(false, .Gd tI),(false, .Gd jm)],Dp:=false,Fg:= [none,none,none],outs:= [.Gd tI, .Ah tO IJ false, .Ah tO IJ false],fn:= λ_=>none,rp:=some 179}
def Ri (n:Int) (g:List (List Int)):Cm×Cm:=Mb n.toNat (g.map some)
noncomputable abbrev Pf:MSpec:=uc si (λx=>(1<=x.1/\x.1<=20)/\List.length x.2.1<=4294967296/\ ∀g∈(x.2.1:List (List Int)),Pm x.1.toNat g)
 (λx=>((x.1,(Ri x.1 x.2.1).1,(Ri x.1 x.2.1).2,()),()))
noncomputable def Nk (p:PP):Int:=if Bp p=true then (Tg (Ri p.1 p.2.2.1).2 p.1.toNat:Int) else 0
noncomputable abbrev Kw:Spec:=Dx (.pair Cx .unit) tI false true (λx=>De x.1) (λx=>Nk x.1)
theorem GG (c:Int×List (List (Option (List Int)))×List (List (Option (List Int)))×Unit) (l:Int) (P:Int->Prop):(Cl (λ(v3:Int×Int×PUnit) (k4:Int×Int×PUnit->Prop)=>Br (decide (v3.2.1<c.1)) (∃(y5:List (Option (List Int))),idx c.2.2.1 v3.2.1=some y5/\ ∃(y6:(List Int×PUnit)×PUnit),Js.fn (y5,())=some y6/\ ∃(y7:Int),Pd.fn (List.take y6.1.1.length (List.drop 0 y6.1.1),())=some y7/\k4 (IntKind.i64.wrap (v3.1*y7),IntKind.i64.wrap (v3.2.1+(1:Int)),())) (P v3.1)) ((1:Int),l,PUnit.unit))=fnW Rx (look [(174,Js),(82,Pd)]) cb Try.f155 (c,l,()) P:=by kernel_rfl
theorem qM (p:Int×ByteArray×List (List Int)×Unit) (P:Int->Prop):(∃(y2:Bool),Ev.fn ((p.1,p.2.1,p.2.2.1,()),())=some y2/\Br (!y2) (P (0:Int)) (∃(y3:(Int×List (List (Option (List Int)))×List (List (Option (List Int)))×PUnit)×PUnit),Pf.fn (p.1,p.2.2.1,())=some y3/\ ∃(y4:Int),cb.fn ((y3.1.1,List.take y3.1.2.1.length (List.drop 0 y3.1.2.1),List.take y3.1.2.2.1.length (List.drop 0 y3.1.2.2.1),()),(0:Int),())=some y4/\P y4))=fnW Di (look [(130,Ev),(154,Pf),(155,cb)]) Kw Try.f126 (p,()) P:=by kernel_rfl
theorem GA (n i:Nat):(upto n).countP (λy=>decide ((i:Int)<=y))=n-i:=by
 induction n with
 |zero=>simp [upto]
 |succ n ih=>
  rw [Wv,List.countP_append,ih]
  simp only [List.countP_cons,List.countP_nil,decide_eq_true_eq]
  split<;>omega
theorem FH {n i:Nat} {gs:List PO} {row:Row} {H:List Int->Prop} (hi:i<n) (h:DQ n i gs row H):(Ha row).length<=n-i:=by
 rw [<-GA n i]
 unfold Ha
 rw [h.rl,<-List.countP_eq_length_filter]
 refine List.countP_mono_left λy hy hs=>?_
 obtain ⟨h1,h2⟩:=Jj.1 hy
 obtain ⟨t,ht⟩:=Option.isSome_iff_exists.1 hs
 obtain ⟨t1,t2,t3,_⟩:=h.rt _ _ ht
 refine decide_eq_true ?_
 refine Classical.byContradiction λhn=>?_
 have hy':y.toNat<i:=by omega
 have:=t1.inj hi (by omega:y.toNat<n) (by rw [t3,t2 _ hy'])
 omega
def fact:Nat->Nat
 |0=>1
 |n+1=>(n+1)*fact n
theorem rO: ∀n,1<=fact n
 |0=>Nat.le_refl _
 |n+1=>by have:=rO n;simp only [fact];exact Nat.le_trans this (Nat.le_mul_of_pos_left _ (by omega))
theorem xM {a b:Nat} (h:a<=b):fact a<=fact b:=by
 induction h with
 |refl=>exact Nat.le_refl _
 |step _ ih=>simp only [fact];exact Nat.le_trans ih (Nat.le_mul_of_pos_left _ (by omega))
theorem BN {n:Nat} {s:Cm×Cm} (hc:dm n n 0 s): ∀j,j<=n->Tg s.2 j*fact (n-j)<=fact n
 |0,_=>by simp [Tg]
 |j+1,hj=>by
  have ih:=BN hc j (by omega)
  have h1:=FH (by omega) (ez n 0 hc j (by omega) (by omega))
  have e:n-j=(n-(j+1))+1:=by omega
  simp only [Tg]
  rw [e] at ih h1
  simp only [fact] at ih
  rw [Nat.mul_assoc]
  exact Nat.le_trans (Nat.mul_le_mul_left _ (Nat.mul_le_mul_right _ h1)) ih
theorem yu {n:Nat} (h2:n<=20) {s:Cm×Cm} (hc:dm n n 0 s) {j:Nat} (hj:j<=n):Tg s.2 j<=2432902008176640000:=by
 have h1:=BN hc j hj
 have h3:=rO (n-j)
 have h4:fact n<=2432902008176640000:=Nat.le_trans (xM h2) (by decide)
 have h5:Tg s.2 j*1<=Tg s.2 j*fact (n-j):=Nat.mul_le_mul_left _ h3
 omega
theorem FL (c:Int×List (List (Option (List Int)))×List (List (Option (List Int)))×Unit) (l:Int) (h:l=0/\ ∃N:Nat,(1<=N/\N<=20)/\c.1=N/\V N N 0 (c.2.1,c.2.2.1)):
  fnW Rx (look [(174,Js),(82,Pd)]) cb Try.f155 (c,l,()) (λ(z:Int)=>z=(Tg c.2.2.1 c.1.toNat:Int)):=by
 obtain ⟨rfl,N,⟨h1,h2⟩,hN,v⟩:=h
 obtain ⟨n,G,T,⟨⟩⟩:=c
 dsimp only at hN v⊢
 subst hN
 refine Eq.mp (GG ((N:Int),G,T,()) 0 _) ?_
 obtain ⟨v1,v2,v3,v4⟩:=v
 dsimp only at v1 v2⊢
 rw [Int.toNat_natCast]
 refine Az N (λv=>v.2.1) (λj v=>v.1=(Tg T j:Int)) rfl rfl ?_
 rintro j ⟨o,i,⟨⟩⟩ K hj hi ho hK
 dsimp only at hi ho⊢
 subst hi ho
 refine Br.dec (λhl=>?_) λhl=>?_
 ·have hl:j<N:=by omega
  have hT:j<T.length:=by omega
  have Rp:=ez N 0 v3 j (by omega) (by omega)
  have PR:=Rp.rl
  dsimp only at PR
  rw [rV hT] at PR
  refine ⟨_,Bc hT,_,if_pos (by show (T[j]).length<=20;omega),_,if_pos trivial,?_⟩
  rw [List.drop_zero,List.take_length,Au (by omega)]
  have hb:=yu h2 v3 (j:=j+1) (by omega)
  simp only [Tg] at hb
  rw [rV hT] at hb
  have e:(Tg T j:Int)*((Ha T[j]).length:Int)=((Tg T j*(Ha T[j]).length:Nat):Int):=by push_cast;rfl
  show K (IntKind.i64.wrap ((Tg T j:Int)*((Ha T[j]).length:Int)),_,())
  rw [e,Bx (by omega) (by omega)]
  refine hK hl _ rfl ?_
  simp only [Tg]
  rw [rV hT]
 ·have:j=N:=by omega
  subst this
  rfl
theorem tv:Sound Try.prog 155 cb:=
 Sound.Dx hY (Vp cR (Ai dX Bb)) mixed Try.func155 (by kernel_rfl) (by kernel_rfl) λx h=>FL x.1 x.2.1 h
theorem Cells.told {w:World} {S:Nat->Prop} {e:Ty} {cs:List Value} {xs:List e.den} (h:Cells w S (.slice e) cs xs): ∃o:Option (List e.den),Cells w S (.oslice e) cs o/\o.getD []=xs:=by
 simp only [Cells] at h
 obtain ⟨a,len,cap,rfl,h1,h2,h3⟩:=h
 cases a with
 |none=>
  rcases h3 with rfl|⟨g,o,h,_⟩
  ·refine ⟨none,?_,rfl⟩
   simp only [Cells]
   exact .inl ⟨trivial,cap,by rw [h1];rfl⟩
  ·cases h
 |some ad=>
  refine ⟨some xs,?_,rfl⟩
  simp only [Cells]
  exact .inr ⟨xs,ad,len,cap,rfl,rfl,h1,h2,h3.imp id λ⟨g,o,h,h4⟩=>⟨g,o,Option.some.inj h,h4⟩⟩
theorem ui {α β:Type} (Q:Nat->α->β->Prop): ∀(xs:List α),(∀i x,xs[i]?=some x-> ∃y,Q i x y)-> ∃ys:List β,ys.length=xs.length/\ ∀i x y,xs[i]?=some x->ys[i]?=some y->Q i x y:=by
 intro xs h
 refine ⟨List.ofFn λi:Fin xs.length=>Classical.choose (h i xs[i] (List.getElem?_eq_getElem i.2)),by simp,λi x y h1 h2=>?_⟩
 obtain ⟨hi,rfl⟩:=List.getElem?_eq_some_iff.1 h1
 obtain ⟨iz,rfl⟩:=List.getElem?_eq_some_iff.1 h2
 rw [List.getElem_ofFn]
 exact Classical.choose_spec (h i xs[i] (List.getElem?_eq_getElem hi))
theorem Aw.RO {w:World} {S:Nat->Prop} {e:Ty} {v:Value} {xs:List (List e.den)} (h:Aw w S (.slice (.slice e)) v xs): ∃os:List (Option (List e.den)),Aw w S (.slice (.oslice e)) v os/\os.map (·.getD [])=xs:=by
 obtain ⟨cs,hc,rfl⟩:=h
 simp only [Cells] at hc
 obtain ⟨a,len,cap,rfl,h1,h2,h3⟩:=hc
 rcases h3 with rfl|⟨g,o,rfl,hg,hS,h4⟩
 ·refine ⟨[],⟨_,?_,rfl⟩,rfl⟩
  simp only [Cells]
  exact ⟨a,len,cap,rfl,h1,h2, .inl trivial⟩
 ·obtain ⟨os,e1,e2⟩:=ui (λi (x:List e.den) (y:Option (List e.den))=>y.getD []=x/\ ∃es:List Value,es.length=1/\(∀j u,es[j]?=some u->w.cell? ⟨g,o+i*1+j,none⟩=some u)/\Cells w S (.oslice e) es y) xs λi x hx=>by
   obtain ⟨es,k1,k2,k3⟩:=h4 i x hx
   obtain ⟨y,k4,k5⟩:=Cells.told (e:=e) (by simp only [Cells];exact k3)
   exact ⟨y,k5,es,k1,k2,k4⟩
  refine ⟨os,⟨_,?_,rfl⟩,?_⟩
  ·simp only [Cells]
   refine ⟨_,len,cap,rfl,by rw [h1,e1],h2, .inr ⟨g,o,rfl,hg,hS,λi y hy=>?_⟩⟩
   obtain ⟨hi,_⟩:=List.getElem?_eq_some_iff.1 hy
   obtain ⟨_,es,k1,k2,k3⟩:=e2 i _ y (List.getElem?_eq_getElem (by omega)) hy
   simp only [Cells] at k3
   exact ⟨es,k1,k2,k3⟩
  ·refine List.ext_getElem (by simp [e1]) λi g1 g2=>?_
   rw [List.getElem_map]
   exact (e2 i _ _ (List.getElem?_eq_getElem g2) (List.getElem?_eq_getElem (by omega))).1
theorem lv:Dq Try.prog 154 Pf:=by
 have h:=jk
 refine ⟨h.enter,λw S π us x r o g vs h1 hg h2 h3 hS h4 h5=>?_⟩
 obtain ⟨n,gens,⟨⟩⟩:=x
 match us,h2 with
 |u1::u2::us,h2=>
  obtain ⟨h6,⟨h7,h8⟩,h9⟩:=h2
  obtain ⟨os,iw,cA⟩:=Aw.RO (e:=tI) h8
  have cA:os.map (·.getD [])=(gens:List (List Int)):=cA
  have dI:(1<=n/\n<=20)/\List.length gens<=4294967296/\ ∀g∈(gens:List (List Int)),Pm n.toNat g:=Classical.byContradiction λhn=>by
   have:Pf.fn (n,gens,())=none:=if_neg hn
   rw [this] at h5;cases h5
  have WX:os=gens.map some:=by
   rw [<-cA,List.map_map]
   refine (List.map_id os).symm.trans (List.map_congr_left λx hx=>?_)
   cases x with
   |some y=>rfl
   |none=>
    have:=dI.2.2 [] (by rw [<-cA];exact List.mem_map.2 ⟨none,hx,rfl⟩)
    have h1:=this.n1
    have h2:=this.1
    simp at h2
    omega
  have hv:Pf.fn (n,gens,())=some ((n,(Ri n gens).1,(Ri n gens).2,()),()):=if_pos dI
  rw [hv] at h5
  have h5:=Option.some.inj h5
  refine h.calls w S π (u1::u2::us) (n,os,()) r o g vs h1 hg ⟨h6,⟨h7,iw⟩,h9⟩ h3 hS h4 ?_
  refine (if_pos ⟨dI.1,by rw [WX,List.length_map];exact dI.2.1,λy hy=>?pp⟩).trans (congrArg some ?qq)
  case pp=>
   replace hy:y∈os:=hy
   rw [WX] at hy
   obtain ⟨g,hg,rfl⟩:=List.mem_map.1 hy
   exact ⟨g,rfl,dI.2.2 g hg⟩
  case qq=>subst WX;exact h5
theorem jU {p:PP} (hv:Valid p):(1<=p.1/\p.1<=20)/\List.length p.2.2.1<=4294967296/\ ∀g∈p.2.2.1,Pm p.1.toNat g:=
 ⟨hv.n,by have:=hv.kh;omega,λg hg=>⟨by have:=hv.len g hg;omega,l5 (hv.perm g hg)⟩⟩
theorem sZ {n:Nat} {g:List (List Int)} (h: ∀x∈g,Pm n x):SD n (g.map some):= λo ho=>by
 obtain ⟨x,hx,rfl⟩:=List.mem_map.1 ho
 exact ⟨x,rfl,h x hx⟩
theorem oO {p:PP} (hv:Valid p):V p.1.toNat p.1.toNat 0 (Ri p.1 p.2.2.1):=by
 have:=hv.n
 exact qY (by omega) (by omega) (sZ (jU hv).2.2)
theorem pO (p:PP) (h:De p):fnW Di (look [(130,Ev),(154,Pf),(155,cb)]) Kw Try.f126 (p,()) (λ(z:Int)=>z=Nk p):=by
 refine Eq.mp (qM p _) ⟨_,if_pos h,?_⟩
 show Br (!Bp p) _ _
 unfold Nk
 cases hv:Bp p with
 |false=>exact Br.of (λ_=>rfl) λhh=>by cases hh
 |true=>
  refine Br.of (λhh=>by cases hh) λ_=>?_
  have hV:=valid hv
  have hn:=hV.n
  refine ⟨_,if_pos (jU hV),_,if_pos ⟨rfl,p.1.toNat,⟨by omega,by omega⟩,(Int.toNat_of_nonneg (by omega:(0:Int)<=p.1)).symm,?vv⟩,?_⟩
  case vv=>
   simp only [List.drop_zero,List.take_length]
   exact oO hV
  simp only [List.drop_zero,List.take_length]
  exact (if_pos trivial).symm
theorem gX:Sound Try.prog 126 Kw:=
 Sound.Dx Ci (Ai Wr (Vp lv (Ai tv Bb))) mixed Try.func126 (by kernel_rfl) (by kernel_rfl) λx h=>pO x.1 h
end Go.Proofs.Ytjbdmibbbpdnnaa

namespace Go.Proofs.Ytjbdmibbbpdnnaa
open Go.RowKit
theorem aU {α:Type} [DecidableEq α]: ∀ {l1 l2:List α},l1.Nodup->(∀x∈l1,x∈l2)->l1.length<=l2.length
 | [],_,_,_=>Nat.zero_le _
 |a::l,l2,hn,hs=>by
  obtain ⟨h1,h2⟩:=List.nodup_cons.1 hn
  have ha:=hs a (by simp)
  have:=aU (l1:=l) (l2:=l2.erase a) h2 λy hy=>by
   have XU:y≠a:= λe'=>h1 (by rw [<-e'];exact hy)
   exact (List.mem_erase_of_ne XU).2 (hs y (by simp [hy]))
  rw [List.length_erase_of_mem ha] at this
  have:=List.length_pos_of_mem ha
  simp only [List.length_cons]
  omega
def gx (n:Nat) (T:Cm):Nat->Nat->List (List Int)
 |0,_=> [upto n]
 |k+1,l=>(Ha (T.getD l [])).flatMap λy=>(gx n T k (l+1)).map λq=>Ac q (((T.getD l []).getD y.toNat none).getD [])
def o4 (T:Cm):Nat->Nat->Nat
 |0,_=>1
 |k+1,l=>(Ha (T.getD l [])).length*o4 T k (l+1)
theorem sD (n:Nat) (T:Cm): ∀k l,(gx n T k l).length=o4 T k l
 |0,_=>rfl
 |k+1,l=>by
  simp only [gx,o4,List.length_flatMap,List.length_map,sD n T k (l+1)]
  generalize Ha (T.getD l [])=o
  induction o with
  |nil=>simp
  |cons a o ih=>simp only [List.map_cons,List.sum_cons,ih,List.length_cons,Nat.succ_mul];omega
theorem nW (T:Cm): ∀k j,Tg T (j+k)=Tg T j*o4 T k j
 |0,j=>by simp [o4]
 |k+1,j=>by
  have:=nW T k (j+1)
  rw [show j+(k+1)=j+1+k by omega,this]
  simp only [Tg,o4]
  rw [Nat.mul_assoc]
theorem sQ (n:Nat) (T:Cm):(gx n T n 0).length=Tg T n:=by
 rw [sD,show Tg T n=Tg T (0+n) by rw [Nat.zero_add],nW]
 simp [Tg]
theorem kO {n:Nat} (h1:1<=n) (h2:n<=20) {s:Cm×Cm} : ∀(k l:Nat),l+k=n->dm n k l s-> ∀p,p∈gx n s.2 k l↔Pm n p/\Fx l p/\Hx s.2 k l p=true
 |0,l,hk,hc,p=>by
  have hl:l=n:=by omega
  subst hl
  simp only [gx,List.mem_singleton]
  exact ⟨λe=>by subst e;exact ⟨Pm.id h1 h2,λi hi=>ej hi,rfl⟩,λh=>h.2.1.all h.1⟩
 |k+1,l,hk,hc,p=>by
  obtain ⟨c1,c2,c3⟩:=hc
  have ih:=kO h1 h2 k (l+1) (by omega) c1
  have Ze:l<n:=by omega
  simp only [gx,List.mem_flatMap,List.mem_map]
  constructor
  ·rintro ⟨y,hy,q,hq,rfl⟩
   obtain ⟨yn,rfl,HZ⟩:=Lx.1 hy
   obtain ⟨t,ht⟩:=Option.ne_none_iff_exists'.1 HZ
   obtain ⟨t1,t2,t3,t4⟩:=c2.rt _ _ ht
   obtain ⟨q1,q2,q3⟩:=(ih q).1 hq
   rw [Int.toNat_natCast,ht,Option.getD_some]
   have hap:ap (Ac q t) l=yn:=by rw [Fe q1 t1 Ze,q2 l (by omega),t3]
   refine ⟨q1.comp t1,λi hi=>by rw [Fe q1 t1 (by omega),q2 i (by omega),t2 i hi],?_⟩
   simp only [Hx]
   rw [show (Md (Ac q t) (l:Int)).toNat=ap (Ac q t) l from rfl,hap,ht]
   show Hx s.2 k (l+1) (Ac (Ac q t) (Aj t))=true
   rw [Dj q1 t1 t1.inv,ey t1,comp_id q1]
   exact q3
  ·rintro ⟨p1,p2,p3⟩
   simp only [Hx] at p3
   rw [show (Md p (l:Int)).toNat=ap p l from rfl] at p3
   split at p3
   ·cases p3
   ·rename_i t ht
    obtain ⟨t1,t2,t3,t4⟩:=c2.rt _ _ ht
    refine ⟨(ap p l:Int),Lx.2 ⟨ap p l,rfl,by rw [ht];simp⟩,Ac p (Aj t),(ih _).2 ⟨p1.comp t1.inv,Fx.div p1 t1 p2 t2 Ze t3,p3⟩,?_⟩
    rw [Int.toNat_natCast,ht,Option.getD_some,Dj p1 t1.inv t1,Wd t1,comp_id p1]
theorem kP {n:Nat} (h1:1<=n) (h2:n<=20) {s:Cm×Cm} : ∀(k l:Nat),l+k=n->dm n k l s->(gx n s.2 k l).Nodup
 |0,l,hk,hc=>by simp [gx]
 |k+1,l,hk,hc=>by
  obtain ⟨c1,c2,c3⟩:=hc
  have ih:=kP h1 h2 k (l+1) (by omega) c1
  have hm:=kO h1 h2 k (l+1) (by omega) c1
  have Ze:l<n:=by omega
  have rep: ∀y∈Ha (s.2.getD l []),∃(yn:Nat) (t:List Int),y=yn/\((s.2.getD l []).getD y.toNat none).getD []=t/\Pm n t/\ap t l=yn:= λy hy=>by
   obtain ⟨yn,rfl,HZ⟩:=Lx.1 hy
   obtain ⟨t,ht⟩:=Option.ne_none_iff_exists'.1 HZ
   obtain ⟨t1,t2,t3,t4⟩:=c2.rt _ _ ht
   exact ⟨yn,t,rfl,by rw [Int.toNat_natCast,ht];rfl,t1,t3⟩
  simp only [gx]
  refine List.pairwise_flatMap.2 ⟨λy hy=>?_,?_⟩
  ·obtain ⟨yn,t,rfl,e,t1,t3⟩:=rep y hy
   rw [e]
   refine List.pairwise_map.2 (List.Pairwise.imp_of_mem ?_ ih)
   intro a b ha hb Er he
   have ha:=((hm a).1 ha).1
   have hb:=((hm b).1 hb).1
   have h3:=congrArg (λz=>Ac z (Aj t)) he
   simp only [Dj ha t1 t1.inv,Dj hb t1 t1.inv,ey t1,comp_id ha,comp_id hb] at h3
   exact Er h3
  ·refine List.Pairwise.imp_of_mem ?_ ((lR _).filter _)
   intro y z hy hz Er a ha b hb he
   obtain ⟨yn,t,rfl,e,t1,t3⟩:=rep y hy
   obtain ⟨zn,u,rfl,e',u1,u3⟩:=rep z hz
   rw [e] at ha
   rw [e'] at hb
   obtain ⟨q,hq,rfl⟩:=List.mem_map.1 ha
   obtain ⟨q',cF,rfl⟩:=List.mem_map.1 hb
   obtain ⟨a1,a2,_⟩:=(hm q).1 hq
   obtain ⟨b1,b2,_⟩:=(hm q').1 cF
   have h3:=congrArg (λz=>ap z l) he
   simp only [Fe a1 t1 Ze,Fe b1 u1 Ze,a2 l (by omega),b2 l (by omega),t3,u3] at h3
   exact Er (by rw [h3])
theorem fT {g:List (List Int)} (Q:List Int->Prop) {x:List Int} {d:Int} : ∀(ls:List Int) (L:List (List Int)) (D:List Int),(∀l∈ls,Q (Ac x (Af g l)))->(∀y∈L,Q y)->
  (∀y∈(Gi g x d ls L D).1,Q y)/\(∀y∈L,y∈(Gi g x d ls L D).1)/\((Gi g x d ls L D).2.2=true-> ∀l∈ls,Ac x (Af g l)∈(Gi g x d ls L D).1)/\
   ((Gi g x d ls L D).2.2=false->(Gi g x d ls L D).1.length=3000/\ ∃z,Q z/\z∉(Gi g x d ls L D).1)
 | [],L,D,_,h=>⟨h,λ_ h=>h,(λ_ l hl=>by cases hl),(λe=>by cases e)⟩
 |l::ls,L,D,hq,h=>by
  have cF: ∀l∈ls,Q (Ac x (Af g l)):= λl' h'=>hq l' (List.mem_cons_of_mem _ h')
  simp only [Gi]
  split
  ·rename_i hm
   obtain ⟨a1,a2,a3,a4⟩:=fT Q (d:=d) ls L D cF h
   refine ⟨a1,a2,λe l' Hy=>?_,a4⟩
   rcases List.mem_cons.1 Hy with rfl|Hy
   ·exact a2 _ hm
   ·exact a3 e l' Hy
  ·rename_i hn
   split
   ·rename_i hf
    exact ⟨h,λ_ h=>h,(λe=>by cases e),λ_=>⟨hf,_,hq l (by simp),hn⟩⟩
   ·obtain ⟨a1,a2,a3,a4⟩:=fT Q (d:=d) ls (L++ [Ac x (Af g l)]) (D++ [d+1]) cF λy hy=>by
     rcases List.mem_append.1 hy with hy|hy
     ·exact h y hy
     ·rw [List.mem_singleton.1 hy];exact hq l (by simp)
    refine ⟨a1,λy hy=>a2 y (List.mem_append_left _ hy),λe l' Hy=>?_,a4⟩
    rcases List.mem_cons.1 Hy with rfl|Hy
    ·exact a2 _ (List.mem_append_right _ (by simp))
    ·exact a3 e l' Hy
theorem nj {p:PP} (hV:Valid p) {m:Nat} {ls:List Int} (hl: ∀l∈ls,Gq (List.length p.2.2.1) l) (Q:List Int->Prop) (hQ: ∀x,Q x-> ∀l∈ls,Q (Ac x (Af p.2.2.1 l))):
  ∀(f k:Nat) (L:List (List Int)) (D:List Int),3001<=f+k->k<=L.length->Qw p m L D->(∀y∈L,Q y)->(∀(j:Nat) (h:j<L.length),j<k-> ∀l∈ls,Ac L[j] (Af p.2.2.1 l)∈L)->
  (∀y∈(Hw p.2.2.1 ls f k L D).1,Q y)/\((Hw p.2.2.1 ls f k L D).2.2=true-> ∀x∈(Hw p.2.2.1 ls f k L D).1,∀l∈ls,Ac x (Af p.2.2.1 l)∈(Hw p.2.2.1 ls f k L D).1)/\
   ((Hw p.2.2.1 ls f k L D).2.2=false->(Hw p.2.2.1 ls f k L D).1.length=3000/\ ∃z,Q z/\z∉(Hw p.2.2.1 ls f k L D).1)
 |0,k,L,D,hf,MT,hb,hq,hc=>by
  have:=hb.ok.kh
  omega
 |f+1,k,L,D,hf,MT,hb,hq,hc=>by
  simp only [Hw]
  split
  ·rename_i hk
   have xU:k<D.length:=by rw [hb.len];exact hk
   have hd:=hb.dep k xU
   have e:D.getD k 0=D[k]:=by rw [List.getD_eq_getElem?_getD,List.getElem?_eq_getElem xU];rfl
   rw [Ng hk,e]
   obtain ⟨k1,⟨A,k2⟩,_⟩:=eu hV (hb.row _ (List.getElem_mem hk)) (hb.ok.len _ (List.getElem_mem hk)) (d:=D[k]) ls L D hl hb ⟨by omega,by omega⟩
   obtain ⟨a1,a2,a3,a4⟩:=fT (g:=p.2.2.1) Q (x:=L[k]) (d:=D[k]) ls L D (hQ _ (hq _ (List.getElem_mem hk))) hq
   split
   ·rename_i L' D' he
    rw [he] at k1 k2 a1 a2 a3 a4
    have k2:L'=L++A:=k2
    refine nj hV hl Q hQ f (k+1) L' D' (by omega) (by rw [k2,List.length_append];omega) k1 a1 λj hj WD l Hy=>?_
    by_cases e':j<k
    ·have e2:L'[j]=L[j]:=by simp only [k2];rw [List.getElem_append_left (by omega)]
     rw [e2];exact a2 _ (hc j (by omega) e' l Hy)
    ·have:j=k:=by omega
     subst this
     have e2:L'[j]=L[j]:=by simp only [k2];rw [List.getElem_append_left (by omega)]
     rw [e2];exact a3 rfl l Hy
   ·rename_i L' D' he
    rw [he] at a1 a4
    exact ⟨a1,(λe=>by cases e),λ_=>a4 rfl⟩
  ·rename_i hk
   refine ⟨hq,λ_ x hx l Hy=>?_,λe=>by cases e⟩
   obtain ⟨j,hj,rfl⟩:=List.mem_iff_getElem.1 hx
   have hj:j<L.length:=hj
   exact hc j hj (by omega) l Hy
theorem DV {p:PP} (hv:Bp p=true) {s:List Int} (hs:s.length<=20) (hr: ∀y∈s,0<=y/\y<p.1) (Q:List Int->Prop) (hQs:Q s) (hQ: ∀x,Q x-> ∀l∈Ba p.2.2.1.length,Q (Ac x (Af p.2.2.1 l))):
  (∀y∈(Fc p.2.2.1 s).1,Q y)/\((Fc p.2.2.1 s).2.2=true-> ∀x∈(Fc p.2.2.1 s).1,∀l∈Ba p.2.2.1.length,Ac x (Af p.2.2.1 l)∈(Fc p.2.2.1 s).1)/\
   ((Fc p.2.2.1 s).2.2=false->(Fc p.2.2.1 s).1.length=3000/\ ∃z,Q z/\z∉(Fc p.2.2.1 s).1):=
 nj (valid hv) (λ_ hl=>Mr hl) Q hQ 3001 0 [s] [0] (by omega) (Nat.zero_le _) (bP hs hr) (λy hy=>by rw [List.mem_singleton.1 hy];exact hQs) λj _ hj=>absurd hj (Nat.not_lt_zero _)
theorem Wq {g:List (List Int)} {x:List Int} :some x∈g.map some↔x∈g:=by simp
theorem vq {n:Nat} {g:List (List Int)} {x:List Int} (h:Gn n (g.map some) x) {l:Int} (hl:l∈Ba g.length):Gn n (g.map some) (Ac x (Af g l)):=by
 obtain ⟨k,hk,rfl|rfl⟩:=Rr (Mr hl)
 ·rw [Td hk];exact .mul h (Wq.2 (List.getElem_mem hk))
 ·rw [Tc hk];exact .inv h (Wq.2 (List.getElem_mem hk))
theorem iD {n k:Nat} (hk:k<n):(k:Int)+1∈Ba n/\ -((k:Int)+1)∈Ba n:=by
 unfold Ba
 exact ⟨List.mem_flatMap.2 ⟨k,List.mem_range.2 hk,by simp⟩,List.mem_flatMap.2 ⟨k,List.mem_range.2 hk,by simp⟩⟩
theorem uL {n:Nat} {g:List (List Int)} {L:List (List Int)} (h0:upto n∈L) (hc: ∀x∈L,∀l∈Ba g.length,Ac x (Af g l)∈L) {p:List Int} (hp:Gn n (g.map some) p):p∈L:=by
 induction hp with
 |id=>exact h0
 |mul _ hg ih=>
  obtain ⟨k,hk,rfl⟩:=List.mem_iff_getElem.1 (Wq.1 hg)
  have:=hc _ ih _ (iD hk).1
  rwa [Td hk] at this
 |inv _ hg ih=>
  obtain ⟨k,hk,rfl⟩:=List.mem_iff_getElem.1 (Wq.1 hg)
  have:=hc _ ih _ (iD hk).2
  rwa [Tc hk] at this
structure Reach (p:PP) (L:List (List Int)) (D:List Int) (whole:Bool):Prop where
 ok:Qw p p.1.toNat L D
 nodup:L.Nodup
 first: ∃A,L=upto p.1.toNat::A
 gen: ∀x∈L,Gn p.1.toNat (p.2.2.1.map some) x
 all:whole=true-> ∀x,Gn p.1.toNat (p.2.2.1.map some) x->x∈L
 YP:whole=false->L.length=3000/\ ∃z,Gn p.1.toNat (p.2.2.1.map some) z/\z∉L
theorem Cu.nodup {m:Nat} {L:List (List Int)} {Gx:List Int} (h:Cu m L Gx):L.Nodup:=
 List.pairwise_iff_getElem.2 λi j hi hj dH e=>by have:=h.inj hi hj e;omega
theorem bg {p:PP} (hv:Bp p=true):Reach p (Fc p.2.2.1 (upto p.1.toNat)).1 (Fc p.2.2.1 (upto p.1.toNat)).2.1 (Fc p.2.2.1 (upto p.1.toNat)).2.2:=by
 have hV:=valid hv
 have hn:=hV.n
 have hl:(upto p.1.toNat).length=p.1.toNat:=Tn _
 have hr: ∀y∈upto p.1.toNat,0<=y/\y<p.1:= λy hy=>by have:=Jj.1 hy;omega
 obtain ⟨b1,b2⟩:=IU hv (by omega) hr
 rw [hl] at b1
 obtain ⟨a1,a2,a3⟩:=DV hv (by omega) hr (λx=>Gn p.1.toNat (p.2.2.1.map some) x) .id λx hx l hl=>vq hx hl
 exact ⟨b1,b1.ok.nodup,b2,a1,λhw x hx=>uL (by obtain ⟨A,e⟩:=b2;rw [e];simp) (a2 hw) hx,a3⟩
theorem Ue {p:PP} (hV:Valid p) {x:List Int} :x∈gx p.1.toNat (Ri p.1 p.2.2.1).2 p.1.toNat 0↔Gn p.1.toNat (p.2.2.1.map some) x:=by
 have hn:=hV.n
 have hg:=sZ (jU hV).2.2
 have hS:xC p.1.toNat λg=>some g∈p.2.2.1.map some:=⟨⟨by omega,by omega⟩,λg Zd=>by obtain ⟨g',e,h⟩:=hg _ Zd;cases e;exact h⟩
 refine (kO (by omega) (by omega) _ 0 (by omega) (oO hV).2.2.1 x).trans ⟨λh=>(ku (by omega) (by omega) hg h.1).1 h.2.2,λh=>?_⟩
 have hp:=Vi.pm hS h
 exact ⟨hp,λi hi=>absurd hi (Nat.not_lt_zero _),(ku (by omega) (by omega) hg hp).2 h⟩
theorem mz {p:PP} (hV:Valid p):(gx p.1.toNat (Ri p.1 p.2.2.1).2 p.1.toNat 0).Nodup:=by
 have hn:=hV.n
 exact kP (by omega) (by omega) _ 0 (by omega) (oO hV).2.2.1
theorem count_eq {p:PP} (hv:Bp p=true):Nk p=((gx p.1.toNat (Ri p.1 p.2.2.1).2 p.1.toNat 0).length:Int):=by
 unfold Nk
 rw [if_pos hv,sQ]
theorem rD {p:PP} (hv:Bp p=true):(Fc p.2.2.1 (upto p.1.toNat)).2.2=decide (1<=Nk p/\Nk p<=3000):=by
 have hV:=valid hv
 have h:=bg hv
 rw [count_eq hv]
 have zt:=mz hV
 have h1:=aU h.nodup λx hx=>(Ue hV).2 (h.gen x hx)
 obtain ⟨A,hA⟩:=h.first
 have uU:1<=(Fc p.2.2.1 (upto p.1.toNat)).1.length:=by rw [hA];simp
 cases hw:(Fc p.2.2.1 (upto p.1.toNat)).2.2 with
 |true=>
  have h2:=aU zt λx hx=>h.all hw x ((Ue hV).1 hx)
  have h3:=h.ok.ok.kh
  exact (decide_eq_true ⟨by omega,by omega⟩).symm
 |false=>
  obtain ⟨h2,z,h3,h4⟩:=h.YP hw
  have h5:=aU (l1:=z::(Fc p.2.2.1 (upto p.1.toNat)).1) (List.nodup_cons.2 ⟨h4,h.nodup⟩) λx hx=>by
   rcases List.mem_cons.1 hx with rfl|hx
   ·exact (Ue hV).2 h3
   ·exact (Ue hV).2 (h.gen x hx)
  simp only [List.length_cons] at h5
  exact (decide_eq_false (by omega)).symm
end Go.Proofs.Ytjbdmibbbpdnnaa

namespace Go.Proofs.Ytjbdmibbbpdnnaa
open Go.RowKit
def pB (g:List (List Int)) (s:List Int):List (List Int):=(Ba g.length).map λl=>Ac s (Af g l)
noncomputable abbrev ca:Spec:=Dx (.pair Cx (.pair tL .unit)) jm false true (λx=>Bp x.1=true/\List.length x.2.1<=20/\ ∀y∈x.2.1,0<=y/\y<x.1.1) (λx=>pB x.1.2.2.1 x.2.1)
abbrev EX:Type:=List (List Int)×List Int×List Int×List Int
def ke (g:List (List Int)) (k:Int) (x:List Int) (d:Int):List Int->EX->List Int->EX×List Int
 | [],s,row=>(s,row)
 |l::ls,s,row=>if Ac x (Af g l)∈s.1 then ke g k x d ls s (row++ [(s.1.idxOf (Ac x (Af g l)):Int)])
  else ke g k x d ls (s.1++ [Ac x (Af g l)],s.2.1++ [d+1],s.2.2.1++ [k],s.2.2.2++ [l]) (row++ [(s.1.length:Int)])
def mb (g:List (List Int)) (ls:List Int):Nat->Nat->EX->List (List Int)->EX×List (List Int)
 |0,_,s,N=>(s,N)
 |f+1,k,s,N=>if k<s.1.length then mb g ls f (k+1) (ke g (k:Int) (s.1.getD k []) (s.2.1.getD k 0) ls s []).1 (N++ [(ke g (k:Int) (s.1.getD k []) (s.2.1.getD k 0) ls s []).2]) else (s,N)
def aP (key:ByteArray):List (List Int)->Nat->Option Int
 | [],_=>none
 |x::r,i=>if Mo x=key then some (i:Int) else aP key r (i+1)
def Rt (L:List (List Int)):ByteArray->Option Int:= λkey=>aP key L 0
def NO (p:PP) (r:EX×List (List Int)):lN.den:=(p,r.1.1,r.1.2.1,Rt r.1.1,r.1.2.2.1,r.1.2.2.2,r.2,())
def Qs (p:PP):lN.den:=NO p (mb p.2.2.1 (Ba p.2.2.1.length) 3001 0 ([upto p.1.toNat],[0],[0],[0]) [])
noncomputable def Gv (p:PP):Bool:=Bp p&&(Fc p.2.2.1 (upto p.1.toNat)).2.2
noncomputable abbrev Jr:Spec:=Dx (.pair Cx .unit) (.pair (.optr lN) (.pair .bool .unit)) true false (λx=>De x.1) (λx=>if Gv x.1=true then (some (Qs x.1),true,()) else (none,false,()))
abbrev tF:Type:=Int×Int×ByteArray×List (List Int)×List (List Int)×PUnit
theorem GF (p:Int×ByteArray×List (List Int)×Unit) (s:List Int) (P:List (List Int)->Prop):(∃(y3:List Int),Kv.fn ((↑p.2.2.1.length:Int),())=some y3/\0=0/\0=([]:List Int).length/\Cl (λ(v4:tF) (k5:tF->Prop)=>Br (decide (v4.1<(↑y3.length:Int))) (∃(y6:Int),idx y3 v4.1=some y6/\ ∃(y7:List Int),Pe.fn (v4.2.2.2.1,y6,())=some y7/\ ∃(y8:List Int),Sb.fn (s,y7,())=some y8/\0=0/\v4.2.2.2.2.1.length=v4.2.2.2.2.1.length/\v4.2.2.2.2.1.length+(List.take 1 (List.drop 0 [y8])).length<=Bq/\0=0/\(v4.2.2.2.2.1++List.take 1 (List.drop 0 [y8])).length=(v4.2.2.2.2.1++List.take 1 (List.drop 0 [y8])).length/\k5 (IntKind.i64.wrap (v4.1+(1:Int)),v4.2.1,v4.2.2.1,v4.2.2.2.1,v4.2.2.2.2.1++List.take 1 (List.drop 0 [y8]),())) (P (List.take v4.2.2.2.2.1.length (List.drop 0 v4.2.2.2.2.1)))) ((0:Int),p.1,p.2.1,p.2.2.1,[],PUnit.unit))=fnW Di (look [(117,Kv),(157,Pe),(156,Sb)]) ca Try.f129 (p,s,()) P:=by kernel_rfl
theorem FK (p:PP) (s:List Int) (h:Bp p=true/\s.length<=20/\ ∀y∈s,0<=y/\y<p.1):fnW Di (look [(117,Kv),(157,Pe),(156,Sb)]) ca Try.f129 (p,s,()) (λ(z:List (List Int))=>z=pB p.2.2.1 s):=by
 obtain ⟨hv,hs,hr⟩:=h
 have hV:=valid hv
 have hf:=hV.kh
 refine Eq.mp (GF p s _) ⟨Ba p.2.2.1.length,if_pos ⟨Int.natCast_nonneg _,by show ((p.2.2.1.length:Nat):Int)<=8;omega⟩,rfl,rfl,?_⟩
 have hL:=Ls p.2.2.1.length
 refine Az (Ba p.2.2.1.length).length (λv=>v.1) (λj v=>v=((j:Int),p.1,p.2.1,p.2.2.1,((Ba p.2.2.1.length).take j).map (λl=>Ac s (Af p.2.2.1 l)),())) rfl (by simp) ?_
 rintro j v K hj hi rfl hK
 dsimp only
 refine Br.dec (λhl=>?_) λhl=>?_
 ·have hl:j<(Ba p.2.2.1.length).length:=by omega
  have OU:=Mr (List.getElem_mem hl)
  obtain ⟨h1,h2⟩:=gq hV OU
  refine ⟨_,Bc hl,_,if_pos ⟨OU,hf.2,hV.perm⟩,_,if_pos ⟨hs,λy hy=>by have:=hr y hy;show 0<=y/\y<((Af p.2.2.1 (Ba p.2.2.1.length)[j]).length:Int);omega⟩,rfl,rfl,?_,rfl,rfl,?_⟩
  ·show (((Ba p.2.2.1.length).take j).map _).length+1<=4294967296
   rw [List.length_map,List.length_take]
   omega
  ·rw [Au (by omega)]
   refine hK hl _ rfl ?_
   have e:(Ba p.2.2.1.length).take (j+1)=(Ba p.2.2.1.length).take j++ [(Ba p.2.2.1.length)[j]]:=by
    rw [List.take_add_one,List.getElem?_eq_getElem hl,Option.toList_some]
   rw [e,List.map_append]
   rfl
 ·have:j=(Ba p.2.2.1.length).length:=by omega
  subst this
  rw [List.drop_zero,List.take_length,List.take_length]
  rfl
theorem tu:Sound Try.prog 129 ca:=
 Sound.Dx Ci (Ai cQ (Ai lu (Ai Nt Bb))) mixed Try.func129 (by kernel_rfl) (by kernel_rfl) λx h=>FK x.1 x.2.1 h
end Go.Proofs.Ytjbdmibbbpdnnaa

namespace Go.Proofs.Ytjbdmibbbpdnnaa
open Go.RowKit
theorem bT {α:Type} {xs ys:List α} {i:Nat} {d:α} (h:i<xs.length):(xs++ys).getD i d=xs.getD i d:=by
 rw [List.getD_eq_getElem?_getD,List.getD_eq_getElem?_getD,List.getElem?_append_left h]
theorem nz {α:Type} {xs:List α} {x d:α} :(xs++ [x]).getD xs.length d=x:=by
 rw [List.getD_eq_getElem?_getD,List.getElem?_append_right (Nat.le_refl _),Nat.sub_self];rfl
theorem eO {α:Type} {xs:List α} {i:Nat} {d:α} (h:i<xs.length):xs.getD i d=xs[i]:=by
 rw [List.getD_eq_getElem?_getD,List.getElem?_eq_getElem h];rfl
structure Lv (g:List (List Int)) (ls:List Int) (k:Nat) (L:List (List Int)) (D:List Int):Prop where
 len:D.length=L.length
 pos:0<L.length
 mono: ∀i j,i<=j->j<L.length->D.getD i 0<=D.getD j 0
 KZ:k<L.length-> ∀j,j<L.length->D.getD j 0<=D.getD k 0+1
 par: ∀j,0<j->j<L.length-> ∃i l,i<j/\l∈ls/\L.getD j []=Ac (L.getD i []) (Af g l)/\D.getD j 0=D.getD i 0+1
 zero:D.getD 0 0=0
theorem Lv.add {g:List (List Int)} {ls:List Int} {k:Nat} {L:List (List Int)} {D:List Int} (h:Lv g ls k L D) (hk:k<L.length) {l:Int} (hl:l∈ls):
  Lv g ls k (L++ [Ac (L.getD k []) (Af g l)]) (D++ [D.getD k 0+1]):=by
 have hlen:=h.len
 have hD: ∀i,i<L.length->(D++ [D.getD k 0+1]).getD i 0=D.getD i 0:= λi hi=>bT (by omega)
 have GU:(D++ [D.getD k 0+1]).getD L.length 0=D.getD k 0+1:=by rw [<-hlen];exact nz
 refine ⟨by simp [hlen],by simp,λi j dH hj=>?_,λ_ j hj=>?_,λj h0 hj=>?_,?_⟩
 ·rw [List.length_append,List.length_singleton] at hj
  by_cases e:j=L.length
  ·subst e
   rw [GU]
   by_cases e':i=L.length
   ·subst e';rw [GU];exact Int.le_refl _
   ·rw [hD i (by omega)]
    exact h.KZ hk i (by omega)
  ·rw [hD i (by omega),hD j (by omega)]
   exact h.mono i j dH (by omega)
 ·rw [List.length_append,List.length_singleton] at hj
  rw [hD k hk]
  by_cases e:j=L.length
  ·subst e;rw [GU];exact Int.le_refl _
  ·rw [hD j (by omega)];exact h.KZ hk j (by omega)
 ·rw [List.length_append,List.length_singleton] at hj
  by_cases e:j=L.length
  ·subst e
   exact ⟨k,l,hk,hl,by rw [nz,bT hk],by rw [GU,hD k hk]⟩
  ·obtain ⟨i,l',h1,h2,h3,h4⟩:=h.par j h0 (by omega)
   exact ⟨i,l',h1,h2,by rw [bT (by omega),bT (by omega)];exact h3,by rw [hD j (by omega),hD i (by omega)];exact h4⟩
 ·rw [hD 0 h.pos];exact h.zero
structure Sj (g:List (List Int)) (ls:List Int) (L:List (List Int)) (S:List Int->Prop) (d:List Int->Int):Prop where
 nn: ∀x∈L,0<=d x
 zero: ∀x∈L,d x=0↔S x
 step: ∀x∈L,∀l∈ls,d (Ac x (Af g l))<=d x+1
 down: ∀x∈L,0<d x-> ∃l∈ls,d (Ac x (Af g l))=d x-1
structure ue (g:List (List Int)) (ls:List Int) (L:List (List Int)):Prop where
 next: ∀x∈L,∀l∈ls,Ac x (Af g l)∈L
 back: ∀x∈L,∀l∈ls,-l∈ls/\Ac (Ac x (Af g l)) (Af g (-l))=x
theorem Sj.le {g:List (List Int)} {ls:List Int} {L:List (List Int)} {S:List Int->Prop} {d d':List Int->Int} (hc:ue g ls L) (h:Sj g ls L S d) (h':Sj g ls L S d'):
  ∀(n:Nat) (x:List Int),x∈L->d' x=n->d x<=n
 |0,x,hx,e=>by
  have:=(h.zero x hx).2 ((h'.zero x hx).1 e)
  omega
 |n+1,x,hx,e=>by
  obtain ⟨l,hl,hd⟩:=h'.down x hx (by omega)
  obtain ⟨b1,b2⟩:=hc.back x hx l hl
  have h1:=Sj.le hc h h' n _ (hc.next x hx l hl) (by omega)
  have h2:=h.step _ (hc.next x hx l hl) _ b1
  rw [b2] at h2
  omega
theorem Sj.eq {g:List (List Int)} {ls:List Int} {L:List (List Int)} {S:List Int->Prop} {d d':List Int->Int} (hc:ue g ls L) (h:Sj g ls L S d) (h':Sj g ls L S d') {x:List Int} (hx:x∈L):d x=d' x:=by
 have n1:=h.nn x hx
 have n2:=h'.nn x hx
 have h1:=Sj.le hc h h' (d' x).toNat x hx (by omega)
 have h2:=Sj.le hc h' h (d x).toNat x hx (by omega)
 omega
theorem Sj.KZ {g:List (List Int)} {ls:List Int} {L:List (List Int)} {S:List Int->Prop} {d:List Int->Int} (hc:ue g ls L) (h:Sj g ls L S d) {x:List Int} (hx:x∈L) {l:Int} (hl:l∈ls):
  d x-1<=d (Ac x (Af g l)):=by
 obtain ⟨b1,b2⟩:=hc.back x hx l hl
 have h2:=h.step _ (hc.next x hx l hl) _ b1
 rw [b2] at h2
 omega
end Go.Proofs.Ytjbdmibbbpdnnaa

namespace Go.Proofs.Ytjbdmibbbpdnnaa
open Go.RowKit
abbrev lL:Type:=Int×Int×ByteArray×List (List Int)×List Int×List (List Int)×List Int×(ByteArray->Option Int)×List Int×List Int×Int×ByteArray×List (List Int)×List (List Int)×PUnit
abbrev lM:Type:=Int×Int×ByteArray×List (List Int)×List (List Int)×List Int×(ByteArray->Option Int)×List Int×List Int×Int×ByteArray×List (List Int)×List (List Int)×PUnit
abbrev Xt:List (Nat×Nat):= [(0,1),(0,1),(0,1),(0,1),(0,1),(0,1),(0,1),(0,1),(0,1),(0,1),(0,1),(0,1),(0,0)]
abbrev Ct (p:Int×ByteArray×List (List Int)×Unit) (y4:List Int) (y2:Int) (y3:Bool) (y6:ByteArray) (y5:ByteArray):Prop:=Xt=Xt/\(p,false,y4,p.1,p.2.1,p.2.2.1,y2,y3,!y3,p.1,y4,p.1,p.2.1,p.2.2.1,y4,y4,y6,p.1,p.2.1,p.2.2.1,p.1,p.2.1,p.2.2.1,[y4],[(0:Int)],Yt (λ(_:ByteArray)=>none) y6 (0:Int),[(0:Int)],[(0:Int)],p.1,p.2.1,p.2.2.1,([]:List (List Int)),())=(p,false,y4,p.1,p.2.1,p.2.2.1,y2,y3,!y3,p.1,y4,p.1,p.2.1,p.2.2.1,y4,y4,y5,p.1,p.2.1,p.2.2.1,p.1,p.2.1,p.2.2.1,[y4],[(0:Int)],Yt (λ(_:ByteArray)=>none) y5 (0:Int),[(0:Int)],[(0:Int)],p.1,p.2.1,p.2.2.1,([]:List (List Int)),PUnit.unit)
theorem zd (p:Int×ByteArray×List (List Int)×Unit) (P:(Option (PP×List (List Int)×List Int×(ByteArray->Option Int)×List Int×List Int×List (List Int)×Unit)×Bool×Unit)->Prop):(∃(y2:Int),Kw.fn ((p.1,p.2.1,p.2.2.1,()),())=some y2/\ ∃(y3:Bool),Bg.fn (y2,(1:Int),(3000:Int),())=some y3/\Br (!y3) (P (none,false,())) (∃(y4:List Int),Mu.fn (p.1,())=some y4/\ ∃(y5:ByteArray),Fa.fn (y4,())=some y5/\(∃(y6:List Int),Kv.fn ((↑p.2.2.1.length:Int),())=some y6/\0=0/\1= [y4].length/\0=0/\1= [(0:Int)].length/\0=0/\1= [(0:Int)].length/\0=0/\1= [(0:Int)].length/\0=0/\0=([]:List Int).length/\Cl (λ(v7:lM) (k8:lM->Prop)=>Br (decide (v7.1<(↑v7.2.2.2.2.1.length:Int))) (((0:Int)<=v7.1/\v7.1<(↑v7.2.2.2.2.1.length:Int))/\ ∃(y9:List Int),v7.2.2.2.2.1[0+v7.1.toNat]?=some y9/\ ∃(zx:List (List Int)),ca.fn ((v7.2.1,v7.2.2.1,v7.2.2.2.1,()),y9,())=some zx/\0=0/\0=([]:List Int).length/\0=0/\v7.2.2.2.2.1.length=v7.2.2.2.2.1.length/\0=0/\v7.2.2.2.2.2.1.length=v7.2.2.2.2.2.1.length/\0=0/\v7.2.2.2.2.2.2.2.1.length=v7.2.2.2.2.2.2.2.1.length/\0=0/\v7.2.2.2.2.2.2.2.2.1.length=v7.2.2.2.2.2.2.2.2.1.length/\0=0/\v7.2.2.2.2.2.2.2.2.2.2.2.2.1.length=v7.2.2.2.2.2.2.2.2.2.2.2.2.1.length/\Cl (λ(v11:lL) (QQ:lL->Prop)=>Br (decide (v11.1<(↑zx.length:Int))) (∃(wH:List Int),idx zx v11.1=some wH/\ ∃(di:ByteArray),Fa.fn (wH,())=some di/\Br (!(v11.2.2.2.2.2.2.2.1 di).isSome) (∃(lV:Int),Ku.fn (List.take v11.2.2.2.2.2.1.length (List.drop 0 v11.2.2.2.2.2.1),())=some lV/\0=0/\v11.2.2.2.2.2.1.length=v11.2.2.2.2.2.1.length/\v11.2.2.2.2.2.1.length+(List.take 1 (List.drop 0 [wH])).length<=Bq/\((0:Int)<=v7.1/\v7.1<(↑v11.2.2.2.2.2.2.1.length:Int))/\ ∃(GI:Int),v11.2.2.2.2.2.2.1[0+v7.1.toNat]?=some GI/\0=0/\v11.2.2.2.2.2.2.1.length=v11.2.2.2.2.2.2.1.length/\v11.2.2.2.2.2.2.1.length+ [IntKind.i64.wrap (GI+(1:Int))].length<=Bq/\0=0/\v11.2.2.2.2.2.2.2.2.1.length=v11.2.2.2.2.2.2.2.2.1.length/\v11.2.2.2.2.2.2.2.2.1.length+(List.take 1 (List.drop 0 [v7.1])).length<=Bq/\ ∃(IL:Int),idx y6 v11.1=some IL/\0=0/\v11.2.2.2.2.2.2.2.2.2.1.length=v11.2.2.2.2.2.2.2.2.2.1.length/\v11.2.2.2.2.2.2.2.2.2.1.length+ [IL].length<=Bq/\0=0/\v11.2.2.2.2.1.length=v11.2.2.2.2.1.length/\v11.2.2.2.2.1.length+(List.take 1 (List.drop 0 [lV])).length<=Bq/\0=0/\(v11.2.2.2.2.1++List.take 1 (List.drop 0 [lV])).length=(v11.2.2.2.2.1++List.take 1 (List.drop 0 [lV])).length/\0=0/\(v11.2.2.2.2.2.1++List.take 1 (List.drop 0 [wH])).length=(v11.2.2.2.2.2.1++List.take 1 (List.drop 0 [wH])).length/\0=0/\(v11.2.2.2.2.2.2.1++ [IntKind.i64.wrap (GI+(1:Int))]).length=(v11.2.2.2.2.2.2.1++ [IntKind.i64.wrap (GI+(1:Int))]).length/\0=0/\(v11.2.2.2.2.2.2.2.2.1++List.take 1 (List.drop 0 [v7.1])).length=(v11.2.2.2.2.2.2.2.2.1++List.take 1 (List.drop 0 [v7.1])).length/\0=0/\(v11.2.2.2.2.2.2.2.2.2.1++ [IL]).length=(v11.2.2.2.2.2.2.2.2.2.1++ [IL]).length/\0=0/\v11.2.2.2.2.2.2.2.2.2.2.2.2.2.1.length=v11.2.2.2.2.2.2.2.2.2.2.2.2.2.1.length/\QQ (IntKind.i64.wrap (v11.1+(1:Int)),v11.2.1,v11.2.2.1,v11.2.2.2.1,v11.2.2.2.2.1++List.take 1 (List.drop 0 [lV]),v11.2.2.2.2.2.1++List.take 1 (List.drop 0 [wH]),v11.2.2.2.2.2.2.1++ [IntKind.i64.wrap (GI+(1:Int))],Yt v11.2.2.2.2.2.2.2.1 di lV,v11.2.2.2.2.2.2.2.2.1++List.take 1 (List.drop 0 [v7.1]),v11.2.2.2.2.2.2.2.2.2.1++ [IL],v11.2.2.2.2.2.2.2.2.2.2.1,v11.2.2.2.2.2.2.2.2.2.2.2.1,v11.2.2.2.2.2.2.2.2.2.2.2.2.1,v11.2.2.2.2.2.2.2.2.2.2.2.2.2.1,())) (0=0/\v11.2.2.2.2.1.length=v11.2.2.2.2.1.length/\v11.2.2.2.2.1.length+(List.take 1 (List.drop 0 [(v11.2.2.2.2.2.2.2.1 di).getD (Int.ofNat (nat_lit 0))])).length<=Bq/\0=0/\(v11.2.2.2.2.1++List.take 1 (List.drop 0 [(v11.2.2.2.2.2.2.2.1 di).getD (Int.ofNat (nat_lit 0))])).length=(v11.2.2.2.2.1++List.take 1 (List.drop 0 [(v11.2.2.2.2.2.2.2.1 di).getD (Int.ofNat (nat_lit 0))])).length/\0=0/\v11.2.2.2.2.2.1.length=v11.2.2.2.2.2.1.length/\0=0/\v11.2.2.2.2.2.2.1.length=v11.2.2.2.2.2.2.1.length/\0=0/\v11.2.2.2.2.2.2.2.2.1.length=v11.2.2.2.2.2.2.2.2.1.length/\0=0/\v11.2.2.2.2.2.2.2.2.2.1.length=v11.2.2.2.2.2.2.2.2.2.1.length/\0=0/\v11.2.2.2.2.2.2.2.2.2.2.2.2.2.1.length=v11.2.2.2.2.2.2.2.2.2.2.2.2.2.1.length/\QQ (IntKind.i64.wrap (v11.1+(1:Int)),v11.2.1,v11.2.2.1,v11.2.2.2.1,v11.2.2.2.2.1++List.take 1 (List.drop 0 [(v11.2.2.2.2.2.2.2.1 di).getD (Int.ofNat (nat_lit 0))]),v11.2.2.2.2.2.1,v11.2.2.2.2.2.2.1,v11.2.2.2.2.2.2.2.1,v11.2.2.2.2.2.2.2.2.1,v11.2.2.2.2.2.2.2.2.2.1,v11.2.2.2.2.2.2.2.2.2.2.1,v11.2.2.2.2.2.2.2.2.2.2.2.1,v11.2.2.2.2.2.2.2.2.2.2.2.2.1,v11.2.2.2.2.2.2.2.2.2.2.2.2.2.1,()))) (0=0/\v11.2.2.2.2.2.2.2.2.2.2.2.2.2.1.length=v11.2.2.2.2.2.2.2.2.2.2.2.2.2.1.length/\v11.2.2.2.2.2.2.2.2.2.2.2.2.2.1.length+(List.take 1 (List.drop 0 [List.take v11.2.2.2.2.1.length (List.drop 0 v11.2.2.2.2.1)])).length<=Bq/\0=0/\v11.2.2.2.2.2.1.length=v11.2.2.2.2.2.1.length/\0=0/\v11.2.2.2.2.2.2.1.length=v11.2.2.2.2.2.2.1.length/\0=0/\v11.2.2.2.2.2.2.2.2.1.length=v11.2.2.2.2.2.2.2.2.1.length/\0=0/\v11.2.2.2.2.2.2.2.2.2.1.length=v11.2.2.2.2.2.2.2.2.2.1.length/\0=0/\(v11.2.2.2.2.2.2.2.2.2.2.2.2.2.1++List.take 1 (List.drop 0 [List.take v11.2.2.2.2.1.length (List.drop 0 v11.2.2.2.2.1)])).length=(v11.2.2.2.2.2.2.2.2.2.2.2.2.2.1++List.take 1 (List.drop 0 [List.take v11.2.2.2.2.1.length (List.drop 0 v11.2.2.2.2.1)])).length/\k8 (IntKind.i64.wrap (v7.1+(1:Int)),v11.2.1,v11.2.2.1,v11.2.2.2.1,v11.2.2.2.2.2.1,v11.2.2.2.2.2.2.1,v11.2.2.2.2.2.2.2.1,v11.2.2.2.2.2.2.2.2.1,v11.2.2.2.2.2.2.2.2.2.1,v11.2.2.2.2.2.2.2.2.2.2.1,v11.2.2.2.2.2.2.2.2.2.2.2.1,v11.2.2.2.2.2.2.2.2.2.2.2.2.1,v11.2.2.2.2.2.2.2.2.2.2.2.2.2.1++List.take 1 (List.drop 0 [List.take v11.2.2.2.2.1.length (List.drop 0 v11.2.2.2.2.1)]),()))) ((0:Int),v7.2.1,v7.2.2.1,v7.2.2.2.1,[],v7.2.2.2.2.1,v7.2.2.2.2.2.1,v7.2.2.2.2.2.2.1,v7.2.2.2.2.2.2.2.1,v7.2.2.2.2.2.2.2.2.1,v7.2.2.2.2.2.2.2.2.2.1,v7.2.2.2.2.2.2.2.2.2.2.1,v7.2.2.2.2.2.2.2.2.2.2.2.1,v7.2.2.2.2.2.2.2.2.2.2.2.2.1,PUnit.unit)) (P (some ((v7.2.2.2.2.2.2.2.2.2.1,v7.2.2.2.2.2.2.2.2.2.2.1,v7.2.2.2.2.2.2.2.2.2.2.2.1,()),List.take v7.2.2.2.2.1.length (List.drop 0 v7.2.2.2.2.1),List.take v7.2.2.2.2.2.1.length (List.drop 0 v7.2.2.2.2.2.1),v7.2.2.2.2.2.2.1,List.take v7.2.2.2.2.2.2.2.1.length (List.drop 0 v7.2.2.2.2.2.2.2.1),List.take v7.2.2.2.2.2.2.2.2.1.length (List.drop 0 v7.2.2.2.2.2.2.2.2.1),List.take v7.2.2.2.2.2.2.2.2.2.2.2.2.1.length (List.drop 0 v7.2.2.2.2.2.2.2.2.2.2.2.2.1),()),true,()))) ((0:Int),p.1,p.2.1,p.2.2.1,[y4],[(0:Int)],Yt (λ(_:ByteArray)=>none) y5 (0:Int),[(0:Int)],[(0:Int)],p.1,p.2.1,p.2.2.1,([]:List (List Int)),PUnit.unit))/\((∃(y6:ByteArray),Fa.fn (y4,())=some y6/\(Ct p y4 y2 y3 y6 y5))/\ ∃(y6:ByteArray),Fa.fn (y4,())=some y6/\((Ct p y4 y2 y3 y6 y5))/\((Ct p y4 y2 y3 y6 y5))/\(Ct p y4 y2 y3 y6 y5))/\((∃(y6:ByteArray),Fa.fn (y4,())=some y6/\(Ct p y4 y2 y3 y6 y5))/\ ∃(y6:ByteArray),Fa.fn (y4,())=some y6/\((Ct p y4 y2 y3 y6 y5))/\((Ct p y4 y2 y3 y6 y5))/\(Ct p y4 y2 y3 y6 y5))/\ ∃(y6:ByteArray),Fa.fn (y4,())=some y6/\(((Ct p y4 y2 y3 y6 y5))/\((Ct p y4 y2 y3 y6 y5))/\(Ct p y4 y2 y3 y6 y5))/\(((Ct p y4 y2 y3 y6 y5))/\((Ct p y4 y2 y3 y6 y5))/\(Ct p y4 y2 y3 y6 y5))/\(((Ct p y4 y2 y3 y6 y5))/\(Ct p y4 y2 y3 y6 y5))/\(((Ct p y4 y2 y3 y6 y5))/\(Ct p y4 y2 y3 y6 y5))/\((Ct p y4 y2 y3 y6 y5))/\Xt=Xt/\(p,false,y4,p.1,p.2.1,p.2.2.1,y2,y3,!y3,p.1,y4,p.1,p.2.1,p.2.2.1,y4,y4,y6,p.1,p.2.1,p.2.2.1,p.1,p.2.1,p.2.2.1,[y4],[(0:Int)],Yt (λ(_:ByteArray)=>none) y6 (0:Int),[(0:Int)],[(0:Int)],p.1,p.2.1,p.2.2.1,([]:List (List Int)),())=(p,false,y4,p.1,p.2.1,p.2.2.1,y2,y3,!y3,p.1,y4,p.1,p.2.1,p.2.2.1,y4,y4,y5,p.1,p.2.1,p.2.2.1,p.1,p.2.1,p.2.2.1,[y4],[(0:Int)],Yt (λ(_:ByteArray)=>none) y5 (0:Int),[(0:Int)],[(0:Int)],p.1,p.2.1,p.2.2.1,[],PUnit.unit)))=fnW Di (look [(126,Kw),(97,Bg),(127,Mu),(128,Fa),(117,Kv),(129,ca),(58,Ku)]) Jr Try.f80 (p,()) P:=by kernel_rfl
theorem kf {g:List (List Int)} {k:Int} {x:List Int} {d:Int} : ∀(ls:List Int) (s:EX) (row:List Int) (L':List (List Int)) (D':List Int),Gi g x d ls s.1 s.2.1=(L',D',true)->
  (ke g k x d ls s row).1.1=L'/\(ke g k x d ls s row).1.2.1=D'
 | [],s,row,L',D',h=>by
  simp only [Gi,Prod.mk.injEq] at h
  exact ⟨h.1,h.2.1⟩
 |l::ls,s,row,L',D',h=>by
  simp only [Gi] at h
  simp only [ke]
  by_cases hm:Ac x (Af g l)∈s.1
  ·rw [if_pos hm] at h
   rw [if_pos hm]
   exact kf ls s _ L' D' h
  ·rw [if_neg hm] at h
   rw [if_neg hm]
   by_cases hf:s.1.length=3000
   ·rw [if_pos hf] at h
    simp at h
   ·rw [if_neg hf] at h
    exact kf ls _ _ L' D' h
theorem rJ {g:List (List Int)} {ls:List Int} : ∀(f k:Nat) (s:EX) (N:List (List Int)) (L':List (List Int)) (D':List Int),Hw g ls f k s.1 s.2.1=(L',D',true)->
  (mb g ls f k s N).1.1=L'/\(mb g ls f k s N).1.2.1=D'
 |0,k,s,N,L',D',h=>by
  simp only [Hw,Prod.mk.injEq] at h
  exact ⟨h.1,h.2.1⟩
 |f+1,k,s,N,L',D',h=>by
  simp only [Hw] at h
  simp only [mb]
  by_cases hk:k<s.1.length
  ·rw [if_pos hk] at h
   rw [if_pos hk]
   split at h
   ·rename_i L1 D1 he
    obtain ⟨a1,a2⟩:=kf (k:=(k:Int)) ls s [] L1 D1 he
    refine rJ f (k+1) _ _ L' D' ?_
    rw [a1,a2]
    exact h
   ·simp at h
  ·rw [if_neg hk] at h
   rw [if_neg hk]
   simp only [Prod.mk.injEq] at h
   exact ⟨h.1,h.2.1⟩
theorem fb {key:ByteArray} {x:List Int} : ∀(L:List (List Int)) (i:Nat),aP key (L++ [x]) i=if (aP key L i).isSome=true then aP key L i else if Mo x=key then some ((i+L.length:Nat):Int) else none
 | [],i=>by simp [aP]
 |y::L,i=>by
  simp only [List.cons_append,aP]
  split
  ·rfl
  ·rw [fb L (i+1),List.length_cons,show i+1+L.length=i+(L.length+1) by omega]
theorem gp {x:List Int} (hx:So x): ∀(L:List (List Int)) (i:Nat),(∀y∈L,So y)->aP (Mo x) L i=if x∈L then some ((i+L.idxOf x:Nat):Int) else none
 | [],i,_=>by simp [aP]
 |y::L,i,h=>by
  have hy:=h y (by simp)
  simp only [aP]
  by_cases e:y=x
  ·subst e
   rw [if_pos rfl,if_pos (by simp),List.idxOf_cons_self]
   rfl
  ·rw [if_neg λhk=>e (key_inj hy hx hk),gp hx L (i+1) λz hz=>h z (List.mem_cons_of_mem _ hz),show List.idxOf x (y::L)=(List.idxOf x L).succ by rw [List.idxOf_cons,beq_false_of_ne e];rfl]
   have:(x∈y::L)↔(x∈L):=by simp [Ne.symm e]
   by_cases hm:x∈L
   ·rw [if_pos hm,if_pos (this.2 hm),show i+1+List.idxOf x L=i+(List.idxOf x L).succ by omega]
   ·rw [if_neg hm,if_neg λh=>hm (this.1 h)]
theorem ye {x:List Int} {L:List (List Int)} (hx:So x) (hL: ∀y∈L,So y):Rt L (Mo x)=if x∈L then some (L.idxOf x:Int) else none:=by
 unfold Rt
 rw [gp hx L 0 hL,Nat.zero_add]
theorem nP {x:List Int} {L:List (List Int)} (hx:So x) (hL: ∀y∈L,So y) (hn:x∉L):Yt (Rt L) (Mo x) (L.length:Int)=Rt (L++ [x]):=by
 funext key
 unfold Yt Rt
 rw [fb,Nat.zero_add]
 by_cases e:key=Mo x
 ·subst e
  rw [if_pos rfl,gp hx L 0 hL,if_neg hn,if_neg (by simp),if_pos rfl]
 ·rw [if_neg e,if_neg (c:=Mo x=key) λh=>e h.symm]
  split
  ·rfl
  ·rename_i h
   cases hk:aP key L 0 with
   |none=>rfl
   |some v=>rw [hk] at h;simp at h
theorem u5 (p:PP):Gh (Nk p) 1 3000=Gv p:=by
 unfold Gv
 by_cases hv:Bp p=true
 ·rw [hv,Bool.true_and,rD hv]
  rfl
 ·have hv:Bp p=false:=by simpa using hv
  rw [hv,Bool.false_and]
  have:Nk p=0:=by unfold Nk;rw [if_neg (by simp [hv])]
  rw [this]
  rfl
theorem yy (p:PP) (h:De p):fnW Di (look [(126,Kw),(97,Bg),(127,Mu),(128,Fa),(117,Kv),(129,ca),(58,Ku)]) Jr Try.f80 (p,()) (λ(z:Option (PP×List (List Int)×List Int×(ByteArray->Option Int)×List Int×List Int×List (List Int)×Unit)×Bool×Unit)=>z=(if Gv p=true then (some (Qs p),true,()) else (none,false,()))):=by
 refine Eq.mp (zd p _) ⟨_,if_pos h,_,if_pos trivial,?_⟩
 show Br (!Gh (Nk p) 1 3000) _ _
 rw [u5 p]
 refine Br.of (λhb=>?_) λhb=>?_
 ·rw [if_neg (by simpa using hb)]
 have hw:Gv p=true:=by simpa using hb
 rw [if_pos hw]
 obtain ⟨hv,uM⟩:=Bool.and_eq_true_iff.1 hw
 have hV:=valid hv
 have xR:=hV.kh
 have hn:=hV.n
 obtain ⟨pn,ps,g,⟨⟩⟩:=p
 dsimp only at xR hn uM⊢
 have hI:(upto pn.toNat).length<=20:=by rw [Tn];omega
 have YY: ∀y∈upto pn.toNat,0<=y/\y<pn:= λy hy=>by have:=Jj.1 hy;omega
 have JE:=bP (p:=(pn,ps,g,())) hI YY
 obtain ⟨ls,nH⟩: ∃ls,Ba g.length=ls:=⟨_,rfl⟩
 have DM:ls.length<=16:=by rw [<-nH,Ls];omega
 have kC: ∀l∈ls,Gq (List.length g) l:= λl hl=>Mr (nH▸hl)
 have x7: ∀x:List Int,(∀y∈x,0<=y/\y<pn)->So x:= λx hx y hy=>by have:=hx y hy;omega
 have uW:Hw g ls 3001 0 [upto pn.toNat] [0]=Fc g (upto pn.toNat):=by unfold Fc;rw [nH]
 have mh:Yt (λ(_:ByteArray)=>(none:Option Int)) (Mo (upto pn.toNat)) 0=Rt [upto pn.toNat]:=by
  have:=nP (L:= []) (x7 _ YY) (λy hy=>by cases hy) (by simp)
  exact this
 refine ⟨upto pn.toNat,if_pos ⟨by show (0:Int)<=pn;omega,by show pn<=20;omega⟩,Mo (upto pn.toNat),if_pos (by show short (upto pn.toNat);unfold short;omega),⟨ls,?_,rfl,rfl,rfl,rfl,rfl,rfl,rfl,rfl,rfl,rfl,?_⟩,?_⟩
 ·refine (if_pos ⟨by show (0:Int)<=((g.length:Nat):Int);omega,by show ((g.length:Nat):Int)<=8;omega⟩).trans (congrArg some ?_)
  show Ba (((g.length:Nat):Int)).toNat=ls
  rw [Int.toNat_natCast];exact nH
 ·obtain ⟨R,hR⟩: ∃R,mb g ls 3001 0 ([upto pn.toNat],[0],[0],[0]) []=R:=⟨_,rfl⟩
  have VO:Qs (pn,ps,g,())=NO (pn,ps,g,()) R:=by unfold Qs;rw [nH];exact congrArg _ hR
  rw [VO]
  refine Cl.mk (λv=> ∃(k:Nat) (s:EX) (N:List (List Int)),v=((k:Int),pn,ps,g,s.1,s.2.1,Rt s.1,s.2.2.1,s.2.2.2,pn,ps,g,N,())/\k<=s.1.length/\Qw (pn,ps,g,()) (upto pn.toNat).length s.1 s.2.1/\s.2.2.1.length=s.1.length/\s.2.2.2.length=s.1.length/\N.length=k/\
    Hw g ls (3001-k) k s.1 s.2.1=Fc g (upto pn.toNat)/\mb g ls (3001-k) k s N=R) (λv=>3001-v.1.toNat)
   ⟨0,([upto pn.toNat],[0],[0],[0]),[],?_,by simp,JE,rfl,rfl,rfl,uW,hR⟩ ?_
  ·rw [<-mh];rfl
  rintro v ⟨k,s0,N,rfl,h1,h2,h3,h4,h5,h6,h7⟩
  obtain ⟨L0,D0,P0,B0⟩:=s0
  dsimp only at h1 h2 h3 h4 h6 h7⊢
  have hL0:=h2.ok.kh
  have hD0:=h2.len
  obtain ⟨f,hf⟩: ∃f,3001-k=f+1:=⟨3000-k,by omega⟩
  refine Br.dec (λhl=>?_) λhl=>?_
  ·have hk:k<L0.length:=by omega
   have xU:k<D0.length:=by omega
   have hx: ∀y∈L0[k],0<=y/\y<pn:=h2.row _ (List.getElem_mem hk)
   have KP:L0[k].length=(upto pn.toNat).length:=h2.ok.len _ (List.getElem_mem hk)
   have hdk:=h2.dep k xU
   have hxe:L0.getD k []=L0[k]:=Ng hk
   have EI:D0.getD k 0=D0[k]:=by rw [List.getD_eq_getElem?_getD,List.getElem?_eq_getElem xU];rfl
   have OO: ∀L' D' ok,Gi g L0[k] D0[k] ls L0 D0=(L',D',ok)->Fc g (upto pn.toNat)=if ok=true then Hw g ls f (k+1) L' D' else (L',D',false):=by
    intro L' D' ok he
    rw [<-h6,hf,Hw,if_pos hk,hxe,EI,he]
    cases ok<;>rfl
   obtain ⟨E,hE⟩: ∃E,ke g (k:Int) L0[k] D0[k] ls (L0,D0,P0,B0) []=E:=⟨_,rfl⟩
   have hex:R=mb g ls f (k+1) E.1 (N++ [E.2]):=by
    rw [<-h7,hf,mb,if_pos hk]
    dsimp only
    rw [hxe,EI,hE]
   refine ⟨⟨by omega,by omega⟩,L0[k],by rw [Int.toNat_natCast,Nat.zero_add];exact List.getElem?_eq_getElem hk,ls.map (λl=>Ac L0[k] (Af g l)),?_,?_⟩
   ·refine (if_pos ⟨hv,by show L0[k].length<=20;omega,hx⟩).trans (congrArg some ?_)
    show pB g L0[k]=_
    unfold pB
    rw [nH]
   refine ⟨rfl,rfl,rfl,rfl,rfl,rfl,rfl,rfl,rfl,rfl,rfl,rfl,?_⟩
   obtain ⟨nb,WT⟩: ∃nb,ls.map (λl=>Ac L0[k] (Af g l))=nb:=⟨_,rfl⟩
   have hnl:nb.length=ls.length:=by rw [<-WT,List.length_map]
   have hni: ∀i (h:i<ls.length),nb[i]'(by omega)=Ac L0[k] (Af g ls[i]):= λi h=>by simp only [<-WT,List.getElem_map]
   rw [WT]
   refine Cl.mk (λv=> ∃(i:Nat) (row:List Int) (s:EX),v=((i:Int),pn,ps,g,row,s.1,s.2.1,Rt s.1,s.2.2.1,s.2.2.2,pn,ps,g,N,())/\i<=ls.length/\row.length=i/\Qw (pn,ps,g,()) (upto pn.toNat).length s.1 s.2.1/\s.2.2.1.length=s.1.length/\s.2.2.2.length=s.1.length/\
     (∃A,s.1=L0++A)/\(∃A,s.2.1=D0++A)/\Gi g L0[k] D0[k] (ls.drop i) s.1 s.2.1=Gi g L0[k] D0[k] ls L0 D0/\ke g (k:Int) L0[k] D0[k] (ls.drop i) s row=E) (λv=>ls.length-v.1.toNat)
    ⟨0,[],(L0,D0,P0,B0),rfl,Nat.zero_le _,rfl,h2,h3,h4,⟨[],by simp⟩,⟨[],by simp⟩,rfl,hE⟩ ?_
   rintro v ⟨i,row,s,rfl,g1,g2,g3,g4,g5,⟨A,g6⟩,⟨A',g7⟩,g8,g9⟩
   obtain ⟨L,D,Pa,By⟩:=s
   dsimp only at g3 g4 g5 g6 g7 g8 g9⊢
   have hLf:=g3.ok.kh
   have GU:=g3.len
   refine Br.dec (λWM=>?_) λWM=>?_
   ·have hi:i<ls.length:=by omega
    have MT:k<L.length:=by rw [g6,List.length_append];omega
    have JT:k<D.length:=by rw [GU];exact MT
    have UL:D[k]=D0[k]:=by simp only [g7];exact List.getElem_append_left xU
    have EO:=kC _ (List.getElem_mem hi)
    obtain ⟨nl,nr⟩:=pE hV hx EO
    dsimp only at nl nr
    rw [List.drop_eq_getElem_cons hi] at g8 g9
    simp only [Gi] at g8
    simp only [ke] at g9
    have hyb:=x7 _ nr
    refine ⟨_,Bc (by omega),?_⟩
    rw [hni i hi]
    generalize hyv:Ac L0[k] (Af g ls[i])=yv at*
    refine ⟨Mo yv,if_pos (by show short yv;unfold short;rw [nl];omega),?_⟩
    rw [ye hyb λy hy=>x7 _ (g3.row y hy)]
    refine Br.of (λa5=>?_) λa5=>?_
    ·have a5:yv∉L:= λhm=>by rw [if_pos hm] at a5;simp at a5
     rw [if_neg a5] at g8 g9
     by_cases cD:L.length=3000
     ·rw [if_pos cD] at g8
      have:=OO _ _ _ g8.symm
      rw [if_neg (by decide)] at this
      rw [this] at uM
      cases uM
     rw [if_neg cD] at g8
     refine ⟨_,if_pos trivial,rfl,rfl,?_,⟨by omega,by omega⟩,D0[k],?_,rfl,rfl,?_,rfl,rfl,?_,_,Bc hi,rfl,rfl,?_,rfl,rfl,?_,rfl,rfl,rfl,rfl,rfl,rfl,rfl,rfl,rfl,rfl,rfl,rfl,?_⟩
     ·show L.length+1<=4294967296;omega
     ·rw [Int.toNat_natCast,Nat.zero_add,List.getElem?_eq_getElem JT,UL]
     ·show D.length+1<=4294967296;omega
     ·show Pa.length+1<=4294967296;omega
     ·show By.length+1<=4294967296;omega
     ·show row.length+1<=4294967296;omega
     ·dsimp only
      rw [Dz L,Bx (n:=D0[k]+1) (by omega) (by omega),Au (by omega),nP hyb (λy hy=>x7 _ (g3.row y hy)) a5]
      refine ⟨⟨i+1,row++ [(L.length:Int)],(L++ [yv],D++ [D0[k]+1],Pa++ [(k:Int)],By++ [ls[i]]),rfl,hi,by rw [List.length_append,g2];rfl,g3.add a5 (by rw [nl,KP]) (by omega) nr ⟨by omega,by omega⟩,?_,?_,⟨A++ [yv],by rw [g6,List.append_assoc]⟩,⟨A'++ [D0[k]+1],by rw [g7,List.append_assoc]⟩,g8,g9⟩,by omega⟩
      ·simp [g4]
      ·simp [g5]
    ·have a5:yv∈L:=Classical.byContradiction λhm=>by rw [if_neg hm] at a5;simp at a5
     rw [if_pos a5] at g8 g9
     rw [if_pos a5]
     refine ⟨rfl,rfl,?_,rfl,rfl,rfl,rfl,rfl,rfl,rfl,rfl,rfl,rfl,rfl,rfl,?_⟩
     ·show row.length+1<=4294967296;omega
     ·rw [Au (by omega)]
      exact ⟨⟨i+1,row++ [(L.idxOf yv:Int)],(L,D,Pa,By),rfl,hi,by rw [List.length_append,g2];rfl,g3,g4,g5,⟨A,g6⟩,⟨A',g7⟩,g8,g9⟩,by omega⟩
   ·have:i=ls.length:=by omega
    subst this
    rw [List.drop_length,Gi] at g8
    rw [List.drop_length,ke] at g9
    have:=OO _ _ _ g8.symm
    rw [if_pos rfl] at this
    rw [Dz row,Au (by omega)]
    refine ⟨rfl,rfl,?_,rfl,rfl,rfl,rfl,rfl,rfl,rfl,rfl,rfl,rfl,⟨k+1,(L,D,Pa,By),N++ [row],rfl,by rw [g6,List.length_append];omega,g3,g4,g5,by rw [List.length_append,h5];rfl,?_,?_⟩,by omega⟩
    ·show N.length+1<=4294967296;omega
    ·rw [show 3001-(k+1)=f by omega]
     exact this.symm
    ·rw [show 3001-(k+1)=f by omega,hex,<-g9]
  ·have hk:k=L0.length:=by omega
   rw [hf,mb,if_neg (by show ¬k<L0.length;omega)] at h7
   subst h7
   simp only [List.drop_zero,List.take_length]
   rfl
 ·have uP:Fa.fn (upto pn.toNat,())=some (Mo (upto pn.toNat)):=if_pos (by show short (upto pn.toNat);unfold short;omega)
  repeat' (first|exact ⟨rfl,rfl⟩|refine ⟨_,uP,?_⟩|refine ⟨?_,?_⟩)
theorem mQ:Sound Try.prog 80 Jr:=
 Sound.Dx Ci (Ai gX (Ai Nv (Ai Zp (Ai lB (Ai cQ (Ai tu (Ai bz Bb))))))) mixed Try.func80 (by kernel_rfl) (by kernel_rfl) λx h=>yy x.1 h
end Go.Proofs.Ytjbdmibbbpdnnaa

namespace Go.Proofs.Ytjbdmibbbpdnnaa
open Go.RowKit
abbrev XP:Type:=PP×List (List Int)×List Int×(ByteArray->Option Int)×List Int×List Int×List (List Int)×Unit
noncomputable def Dt (p:PP):List (List Int):=(Fc p.2.2.1 (upto p.1.toNat)).1
noncomputable def ff (p:PP):List Int:=(Fc p.2.2.1 (upto p.1.toNat)).2.1
noncomputable def Ez (p:PP):SS×Bool×Unit:=if Bp p=true then (Ea p.2.2.1 (upto p.1.toNat),Gv p,()) else (([],[],[],false,()),false,())
noncomputable abbrev Jd:Spec:=Dx (.pair Cx .unit) (.pair Ul (.pair .bool .unit)) true false (λx=>De x.1) (λx=>Ez x.1)
abbrev Bo:Type:=List (List Int)×List Int×List Int×Bool×PUnit
theorem wF (p:Int×ByteArray×List (List Int)×Unit) (P:((List (List Int)×List Int×List Int×Bool×Unit)×Bool×Unit)->Prop):(∃(y2:Bool),Ev.fn ((p.1,p.2.1,p.2.2.1,()),())=some y2/\Br (!y2) (P ((List.take 0 (List.drop 0 []),List.take 0 (List.drop 0 []),List.take 0 (List.drop 0 []),false,()),false,())) (((((∃(y3:List Int),Bu.fn (p.1,())=some y3/\(∃(y4:Bo),Cw.fn ((p.1,p.2.1,p.2.2.1,()),y3,())=some y4/\((P ((y4.1,y4.2.1,y4.2.2.1,y4.2.2.2.1,()),y4.2.2.2.1,())/\P ((y4.1,y4.2.1,y4.2.2.1,y4.2.2.2.1,()),y4.2.2.2.1,()))/\P ((y4.1,y4.2.1,y4.2.2.1,y4.2.2.2.1,()),y4.2.2.2.1,()))/\(P ((y4.1,y4.2.1,y4.2.2.1,y4.2.2.2.1,()),y4.2.2.2.1,())/\P ((y4.1,y4.2.1,y4.2.2.1,y4.2.2.2.1,()),y4.2.2.2.1,()))/\P ((y4.1,y4.2.1,y4.2.2.1,y4.2.2.2.1,()),y4.2.2.2.1,()))/\ ∃(y4:Bo),Cw.fn ((p.1,p.2.1,p.2.2.1,()),y3,())=some y4/\((P ((y4.1,y4.2.1,y4.2.2.1,y4.2.2.2.1,()),y4.2.2.2.1,())/\P ((y4.1,y4.2.1,y4.2.2.1,y4.2.2.2.1,()),y4.2.2.2.1,()))/\P ((y4.1,y4.2.1,y4.2.2.1,y4.2.2.2.1,()),y4.2.2.2.1,()))/\(P ((y4.1,y4.2.1,y4.2.2.1,y4.2.2.2.1,()),y4.2.2.2.1,())/\P ((y4.1,y4.2.1,y4.2.2.1,y4.2.2.2.1,()),y4.2.2.2.1,()))/\P ((y4.1,y4.2.1,y4.2.2.1,y4.2.2.2.1,()),y4.2.2.2.1,()))/\ ∃(y3:List Int),Bu.fn (p.1,())=some y3/\ ∃(y4:Bo),Cw.fn ((p.1,p.2.1,p.2.2.1,()),y3,())=some y4/\((P ((y4.1,y4.2.1,y4.2.2.1,y4.2.2.2.1,()),y4.2.2.2.1,())/\P ((y4.1,y4.2.1,y4.2.2.1,y4.2.2.2.1,()),y4.2.2.2.1,()))/\P ((y4.1,y4.2.1,y4.2.2.1,y4.2.2.2.1,()),y4.2.2.2.1,()))/\(P ((y4.1,y4.2.1,y4.2.2.1,y4.2.2.2.1,()),y4.2.2.2.1,())/\P ((y4.1,y4.2.1,y4.2.2.1,y4.2.2.2.1,()),y4.2.2.2.1,()))/\P ((y4.1,y4.2.1,y4.2.2.1,y4.2.2.2.1,()),y4.2.2.2.1,()))/\ ∃(y3:List Int),Bu.fn (p.1,())=some y3/\ ∃(y4:Bo),Cw.fn ((p.1,p.2.1,p.2.2.1,()),y3,())=some y4/\((P ((y4.1,y4.2.1,y4.2.2.1,y4.2.2.2.1,()),y4.2.2.2.1,())/\P ((y4.1,y4.2.1,y4.2.2.1,y4.2.2.2.1,()),y4.2.2.2.1,()))/\P ((y4.1,y4.2.1,y4.2.2.1,y4.2.2.2.1,()),y4.2.2.2.1,()))/\(P ((y4.1,y4.2.1,y4.2.2.1,y4.2.2.2.1,()),y4.2.2.2.1,())/\P ((y4.1,y4.2.1,y4.2.2.1,y4.2.2.2.1,()),y4.2.2.2.1,()))/\P ((y4.1,y4.2.1,y4.2.2.1,y4.2.2.2.1,()),y4.2.2.2.1,()))/\ ∃(y3:List Int),Bu.fn (p.1,())=some y3/\ ∃(y4:Bo),Cw.fn ((p.1,p.2.1,p.2.2.1,()),y3,())=some y4/\((P ((y4.1,y4.2.1,y4.2.2.1,y4.2.2.2.1,()),y4.2.2.2.1,())/\P ((y4.1,y4.2.1,y4.2.2.1,y4.2.2.2.1,()),y4.2.2.2.1,()))/\P ((y4.1,y4.2.1,y4.2.2.1,y4.2.2.2.1,()),y4.2.2.2.1,()))/\(P ((y4.1,y4.2.1,y4.2.2.1,y4.2.2.2.1,()),y4.2.2.2.1,())/\P ((y4.1,y4.2.1,y4.2.2.1,y4.2.2.2.1,()),y4.2.2.2.1,()))/\P ((y4.1,y4.2.1,y4.2.2.1,y4.2.2.2.1,()),y4.2.2.2.1,()))/\((((∃(y3:List Int),Bu.fn (p.1,())=some y3/\(∃(y4:Bo),Cw.fn ((p.1,p.2.1,p.2.2.1,()),y3,())=some y4/\((P ((y4.1,y4.2.1,y4.2.2.1,y4.2.2.2.1,()),y4.2.2.2.1,())/\P ((y4.1,y4.2.1,y4.2.2.1,y4.2.2.2.1,()),y4.2.2.2.1,()))/\P ((y4.1,y4.2.1,y4.2.2.1,y4.2.2.2.1,()),y4.2.2.2.1,()))/\(P ((y4.1,y4.2.1,y4.2.2.1,y4.2.2.2.1,()),y4.2.2.2.1,())/\P ((y4.1,y4.2.1,y4.2.2.1,y4.2.2.2.1,()),y4.2.2.2.1,()))/\P ((y4.1,y4.2.1,y4.2.2.1,y4.2.2.2.1,()),y4.2.2.2.1,()))/\ ∃(y4:Bo),Cw.fn ((p.1,p.2.1,p.2.2.1,()),y3,())=some y4/\((P ((y4.1,y4.2.1,y4.2.2.1,y4.2.2.2.1,()),y4.2.2.2.1,())/\P ((y4.1,y4.2.1,y4.2.2.1,y4.2.2.2.1,()),y4.2.2.2.1,()))/\P ((y4.1,y4.2.1,y4.2.2.1,y4.2.2.2.1,()),y4.2.2.2.1,()))/\(P ((y4.1,y4.2.1,y4.2.2.1,y4.2.2.2.1,()),y4.2.2.2.1,())/\P ((y4.1,y4.2.1,y4.2.2.1,y4.2.2.2.1,()),y4.2.2.2.1,()))/\P ((y4.1,y4.2.1,y4.2.2.1,y4.2.2.2.1,()),y4.2.2.2.1,()))/\ ∃(y3:List Int),Bu.fn (p.1,())=some y3/\ ∃(y4:Bo),Cw.fn ((p.1,p.2.1,p.2.2.1,()),y3,())=some y4/\((P ((y4.1,y4.2.1,y4.2.2.1,y4.2.2.2.1,()),y4.2.2.2.1,())/\P ((y4.1,y4.2.1,y4.2.2.1,y4.2.2.2.1,()),y4.2.2.2.1,()))/\P ((y4.1,y4.2.1,y4.2.2.1,y4.2.2.2.1,()),y4.2.2.2.1,()))/\(P ((y4.1,y4.2.1,y4.2.2.1,y4.2.2.2.1,()),y4.2.2.2.1,())/\P ((y4.1,y4.2.1,y4.2.2.1,y4.2.2.2.1,()),y4.2.2.2.1,()))/\P ((y4.1,y4.2.1,y4.2.2.1,y4.2.2.2.1,()),y4.2.2.2.1,()))/\ ∃(y3:List Int),Bu.fn (p.1,())=some y3/\ ∃(y4:Bo),Cw.fn ((p.1,p.2.1,p.2.2.1,()),y3,())=some y4/\((P ((y4.1,y4.2.1,y4.2.2.1,y4.2.2.2.1,()),y4.2.2.2.1,())/\P ((y4.1,y4.2.1,y4.2.2.1,y4.2.2.2.1,()),y4.2.2.2.1,()))/\P ((y4.1,y4.2.1,y4.2.2.1,y4.2.2.2.1,()),y4.2.2.2.1,()))/\(P ((y4.1,y4.2.1,y4.2.2.1,y4.2.2.2.1,()),y4.2.2.2.1,())/\P ((y4.1,y4.2.1,y4.2.2.1,y4.2.2.2.1,()),y4.2.2.2.1,()))/\P ((y4.1,y4.2.1,y4.2.2.1,y4.2.2.2.1,()),y4.2.2.2.1,()))/\(((∃(y3:List Int),Bu.fn (p.1,())=some y3/\(∃(y4:Bo),Cw.fn ((p.1,p.2.1,p.2.2.1,()),y3,())=some y4/\((P ((y4.1,y4.2.1,y4.2.2.1,y4.2.2.2.1,()),y4.2.2.2.1,())/\P ((y4.1,y4.2.1,y4.2.2.1,y4.2.2.2.1,()),y4.2.2.2.1,()))/\P ((y4.1,y4.2.1,y4.2.2.1,y4.2.2.2.1,()),y4.2.2.2.1,()))/\(P ((y4.1,y4.2.1,y4.2.2.1,y4.2.2.2.1,()),y4.2.2.2.1,())/\P ((y4.1,y4.2.1,y4.2.2.1,y4.2.2.2.1,()),y4.2.2.2.1,()))/\P ((y4.1,y4.2.1,y4.2.2.1,y4.2.2.2.1,()),y4.2.2.2.1,()))/\ ∃(y4:Bo),Cw.fn ((p.1,p.2.1,p.2.2.1,()),y3,())=some y4/\((P ((y4.1,y4.2.1,y4.2.2.1,y4.2.2.2.1,()),y4.2.2.2.1,())/\P ((y4.1,y4.2.1,y4.2.2.1,y4.2.2.2.1,()),y4.2.2.2.1,()))/\P ((y4.1,y4.2.1,y4.2.2.1,y4.2.2.2.1,()),y4.2.2.2.1,()))/\(P ((y4.1,y4.2.1,y4.2.2.1,y4.2.2.2.1,()),y4.2.2.2.1,())/\P ((y4.1,y4.2.1,y4.2.2.1,y4.2.2.2.1,()),y4.2.2.2.1,()))/\P ((y4.1,y4.2.1,y4.2.2.1,y4.2.2.2.1,()),y4.2.2.2.1,()))/\ ∃(y3:List Int),Bu.fn (p.1,())=some y3/\ ∃(y4:Bo),Cw.fn ((p.1,p.2.1,p.2.2.1,()),y3,())=some y4/\((P ((y4.1,y4.2.1,y4.2.2.1,y4.2.2.2.1,()),y4.2.2.2.1,())/\P ((y4.1,y4.2.1,y4.2.2.1,y4.2.2.2.1,()),y4.2.2.2.1,()))/\P ((y4.1,y4.2.1,y4.2.2.1,y4.2.2.2.1,()),y4.2.2.2.1,()))/\(P ((y4.1,y4.2.1,y4.2.2.1,y4.2.2.2.1,()),y4.2.2.2.1,())/\P ((y4.1,y4.2.1,y4.2.2.1,y4.2.2.2.1,()),y4.2.2.2.1,()))/\P ((y4.1,y4.2.1,y4.2.2.1,y4.2.2.2.1,()),y4.2.2.2.1,()))/\(∃(y3:List Int),Bu.fn (p.1,())=some y3/\((∃(y4:Bo),Cw.fn ((p.1,p.2.1,p.2.2.1,()),y3,())=some y4/\((P ((y4.1,y4.2.1,y4.2.2.1,y4.2.2.2.1,()),y4.2.2.2.1,())/\P ((y4.1,y4.2.1,y4.2.2.1,y4.2.2.2.1,()),y4.2.2.2.1,()))/\P ((y4.1,y4.2.1,y4.2.2.1,y4.2.2.2.1,()),y4.2.2.2.1,()))/\(P ((y4.1,y4.2.1,y4.2.2.1,y4.2.2.2.1,()),y4.2.2.2.1,())/\P ((y4.1,y4.2.1,y4.2.2.1,y4.2.2.2.1,()),y4.2.2.2.1,()))/\P ((y4.1,y4.2.1,y4.2.2.1,y4.2.2.2.1,()),y4.2.2.2.1,()))/\ ∃(y4:Bo),Cw.fn ((p.1,p.2.1,p.2.2.1,()),y3,())=some y4/\((P ((y4.1,y4.2.1,y4.2.2.1,y4.2.2.2.1,()),y4.2.2.2.1,())/\P ((y4.1,y4.2.1,y4.2.2.1,y4.2.2.2.1,()),y4.2.2.2.1,()))/\P ((y4.1,y4.2.1,y4.2.2.1,y4.2.2.2.1,()),y4.2.2.2.1,()))/\(P ((y4.1,y4.2.1,y4.2.2.1,y4.2.2.2.1,()),y4.2.2.2.1,())/\P ((y4.1,y4.2.1,y4.2.2.1,y4.2.2.2.1,()),y4.2.2.2.1,()))/\P ((y4.1,y4.2.1,y4.2.2.1,y4.2.2.2.1,()),y4.2.2.2.1,()))/\ ∃(y4:Bo),Cw.fn ((p.1,p.2.1,p.2.2.1,()),y3,())=some y4/\((P ((y4.1,y4.2.1,y4.2.2.1,y4.2.2.2.1,()),y4.2.2.2.1,())/\P ((y4.1,y4.2.1,y4.2.2.1,y4.2.2.2.1,()),y4.2.2.2.1,()))/\P ((y4.1,y4.2.1,y4.2.2.1,y4.2.2.2.1,()),y4.2.2.2.1,()))/\(P ((y4.1,y4.2.1,y4.2.2.1,y4.2.2.2.1,()),y4.2.2.2.1,())/\P ((y4.1,y4.2.1,y4.2.2.1,y4.2.2.2.1,()),y4.2.2.2.1,()))/\P ((y4.1,y4.2.1,y4.2.2.1,y4.2.2.2.1,()),y4.2.2.2.1,()))/\(∃(y3:List Int),Bu.fn (p.1,())=some y3/\ ∃(y4:Bo),Cw.fn ((p.1,p.2.1,p.2.2.1,()),y3,())=some y4/\((P ((y4.1,y4.2.1,y4.2.2.1,y4.2.2.2.1,()),y4.2.2.2.1,())/\P ((y4.1,y4.2.1,y4.2.2.1,y4.2.2.2.1,()),y4.2.2.2.1,()))/\P ((y4.1,y4.2.1,y4.2.2.1,y4.2.2.2.1,()),y4.2.2.2.1,()))/\(P ((y4.1,y4.2.1,y4.2.2.1,y4.2.2.2.1,()),y4.2.2.2.1,())/\P ((y4.1,y4.2.1,y4.2.2.1,y4.2.2.2.1,()),y4.2.2.2.1,()))/\P ((y4.1,y4.2.1,y4.2.2.1,y4.2.2.2.1,()),y4.2.2.2.1,()))/\ ∃(y3:List Int),Bu.fn (p.1,())=some y3/\ ∃(y4:Bo),Cw.fn ((p.1,p.2.1,p.2.2.1,()),y3,())=some y4/\((P ((y4.1,y4.2.1,y4.2.2.1,y4.2.2.2.1,()),y4.2.2.2.1,())/\P ((y4.1,y4.2.1,y4.2.2.1,y4.2.2.2.1,()),y4.2.2.2.1,()))/\P ((y4.1,y4.2.1,y4.2.2.1,y4.2.2.2.1,()),y4.2.2.2.1,()))/\(P ((y4.1,y4.2.1,y4.2.2.1,y4.2.2.2.1,()),y4.2.2.2.1,())/\P ((y4.1,y4.2.1,y4.2.2.1,y4.2.2.2.1,()),y4.2.2.2.1,()))/\P ((y4.1,y4.2.1,y4.2.2.1,y4.2.2.2.1,()),y4.2.2.2.1,()))/\(∃(y3:List Int),Bu.fn (p.1,())=some y3/\ ∃(y4:Bo),Cw.fn ((p.1,p.2.1,p.2.2.1,()),y3,())=some y4/\((P ((y4.1,y4.2.1,y4.2.2.1,y4.2.2.2.1,()),y4.2.2.2.1,())/\P ((y4.1,y4.2.1,y4.2.2.1,y4.2.2.2.1,()),y4.2.2.2.1,()))/\P ((y4.1,y4.2.1,y4.2.2.1,y4.2.2.2.1,()),y4.2.2.2.1,()))/\(P ((y4.1,y4.2.1,y4.2.2.1,y4.2.2.2.1,()),y4.2.2.2.1,())/\P ((y4.1,y4.2.1,y4.2.2.1,y4.2.2.2.1,()),y4.2.2.2.1,()))/\P ((y4.1,y4.2.1,y4.2.2.1,y4.2.2.2.1,()),y4.2.2.2.1,()))/\(∃(y3:List Int),Bu.fn (p.1,())=some y3/\ ∃(y4:Bo),Cw.fn ((p.1,p.2.1,p.2.2.1,()),y3,())=some y4/\((P ((y4.1,y4.2.1,y4.2.2.1,y4.2.2.2.1,()),y4.2.2.2.1,())/\P ((y4.1,y4.2.1,y4.2.2.1,y4.2.2.2.1,()),y4.2.2.2.1,()))/\P ((y4.1,y4.2.1,y4.2.2.1,y4.2.2.2.1,()),y4.2.2.2.1,()))/\(P ((y4.1,y4.2.1,y4.2.2.1,y4.2.2.2.1,()),y4.2.2.2.1,())/\P ((y4.1,y4.2.1,y4.2.2.1,y4.2.2.2.1,()),y4.2.2.2.1,()))/\P ((y4.1,y4.2.1,y4.2.2.1,y4.2.2.2.1,()),y4.2.2.2.1,()))/\ ∃(y3:List Int),Bu.fn (p.1,())=some y3/\ ∃(y4:Bo),Cw.fn ((p.1,p.2.1,p.2.2.1,()),y3,())=some y4/\((P ((y4.1,y4.2.1,y4.2.2.1,y4.2.2.2.1,()),y4.2.2.2.1,())/\P ((y4.1,y4.2.1,y4.2.2.1,y4.2.2.2.1,()),y4.2.2.2.1,()))/\P ((y4.1,y4.2.1,y4.2.2.1,y4.2.2.2.1,()),y4.2.2.2.1,()))/\(P ((y4.1,y4.2.1,y4.2.2.1,y4.2.2.2.1,()),y4.2.2.2.1,())/\P ((y4.1,y4.2.1,y4.2.2.1,y4.2.2.2.1,()),y4.2.2.2.1,()))/\P ((y4.1,y4.2.1,y4.2.2.1,y4.2.2.2.1,()),y4.2.2.2.1,()))/\(∃(y3:List Int),Bu.fn (p.1,())=some y3/\ ∃(y4:Bo),Cw.fn ((p.1,p.2.1,p.2.2.1,()),y3,())=some y4/\((P ((y4.1,y4.2.1,y4.2.2.1,y4.2.2.2.1,()),y4.2.2.2.1,())/\P ((y4.1,y4.2.1,y4.2.2.1,y4.2.2.2.1,()),y4.2.2.2.1,()))/\P ((y4.1,y4.2.1,y4.2.2.1,y4.2.2.2.1,()),y4.2.2.2.1,()))/\(P ((y4.1,y4.2.1,y4.2.2.1,y4.2.2.2.1,()),y4.2.2.2.1,())/\P ((y4.1,y4.2.1,y4.2.2.1,y4.2.2.2.1,()),y4.2.2.2.1,()))/\P ((y4.1,y4.2.1,y4.2.2.1,y4.2.2.2.1,()),y4.2.2.2.1,()))/\(∃(y3:List Int),Bu.fn (p.1,())=some y3/\ ∃(y4:Bo),Cw.fn ((p.1,p.2.1,p.2.2.1,()),y3,())=some y4/\((P ((y4.1,y4.2.1,y4.2.2.1,y4.2.2.2.1,()),y4.2.2.2.1,())/\P ((y4.1,y4.2.1,y4.2.2.1,y4.2.2.2.1,()),y4.2.2.2.1,()))/\P ((y4.1,y4.2.1,y4.2.2.1,y4.2.2.2.1,()),y4.2.2.2.1,()))/\(P ((y4.1,y4.2.1,y4.2.2.1,y4.2.2.2.1,()),y4.2.2.2.1,())/\P ((y4.1,y4.2.1,y4.2.2.1,y4.2.2.2.1,()),y4.2.2.2.1,()))/\P ((y4.1,y4.2.1,y4.2.2.1,y4.2.2.2.1,()),y4.2.2.2.1,()))/\(∃(y3:List Int),Bu.fn (p.1,())=some y3/\ ∃(y4:Bo),Cw.fn ((p.1,p.2.1,p.2.2.1,()),y3,())=some y4/\((P ((y4.1,y4.2.1,y4.2.2.1,y4.2.2.2.1,()),y4.2.2.2.1,())/\P ((y4.1,y4.2.1,y4.2.2.1,y4.2.2.2.1,()),y4.2.2.2.1,()))/\P ((y4.1,y4.2.1,y4.2.2.1,y4.2.2.2.1,()),y4.2.2.2.1,()))/\(P ((y4.1,y4.2.1,y4.2.2.1,y4.2.2.2.1,()),y4.2.2.2.1,())/\P ((y4.1,y4.2.1,y4.2.2.1,y4.2.2.2.1,()),y4.2.2.2.1,()))/\P ((y4.1,y4.2.1,y4.2.2.1,y4.2.2.2.1,()),y4.2.2.2.1,()))/\ ∃(y3:List Int),Bu.fn (p.1,())=some y3/\ ∃(y4:Bo),Cw.fn ((p.1,p.2.1,p.2.2.1,()),y3,())=some y4/\((P ((y4.1,y4.2.1,y4.2.2.1,y4.2.2.2.1,()),y4.2.2.2.1,())/\P ((y4.1,y4.2.1,y4.2.2.1,y4.2.2.2.1,()),y4.2.2.2.1,()))/\P ((y4.1,y4.2.1,y4.2.2.1,y4.2.2.2.1,()),y4.2.2.2.1,()))/\(P ((y4.1,y4.2.1,y4.2.2.1,y4.2.2.2.1,()),y4.2.2.2.1,())/\P ((y4.1,y4.2.1,y4.2.2.1,y4.2.2.2.1,()),y4.2.2.2.1,()))/\P ((y4.1,y4.2.1,y4.2.2.1,y4.2.2.2.1,()),y4.2.2.2.1,())))=fnW Di (look [(110,Ev),(124,Bu),(112,Cw)]) Jd Try.f75 (p,()) P:=by kernel_rfl
theorem Ko {p:PP} (hw:Gv p=true):Bp p=true/\(Fc p.2.2.1 (upto p.1.toNat)).2.2=true:=Bool.and_eq_true_iff.1 hw
theorem II {p:PP} (hw:Gv p=true):Reach p (Dt p) (ff p) true:=by
 have h:=bg (Ko hw).1
 rw [(Ko hw).2] at h
 exact h
theorem LS {p:PP} (hv:Bp p=true):Qw p p.1.toNat (Dt p) (ff p):=(bg hv).ok
theorem wU {p:PP} (hw:Gv p=true):(Qs p).2.1=Dt p/\(Qs p).2.2.1=ff p:=by
 have h:=(Ko hw).2
 refine rJ 3001 0 ([upto p.1.toNat],[0],[0],[0]) [] _ _ ?_
 show Hw p.2.2.1 (Ba p.2.2.1.length) 3001 0 [upto p.1.toNat] [0]=(Dt p,ff p,true)
 rw [<-h]
 rfl
theorem vO (p:PP) (h:De p):fnW Di (look [(110,Ev),(124,Bu),(112,Cw)]) Jd Try.f75 (p,()) (λ(z:SS×Bool×Unit)=>z=Ez p):=by
 refine Eq.mp (wF p _) ⟨_,if_pos h,?_⟩
 show Br (!Bp p) _ _
 unfold Ez
 by_cases hv:Bp p=true
 ·rw [if_pos hv,hv]
  refine ⟨λhb=>by simp at hb,λ_=>?_⟩
  have hn:=(valid hv).n
  have SW:Bu.fn (p.1,())=some (upto p.1.toNat):=if_pos ⟨by show 0<=p.1;omega,by show p.1<=20;omega⟩
  have HY: ∀y∈upto p.1.toNat,0<=y/\y<p.1:= λy hy=>by have:=Jj.1 hy;omega
  have s5:Cw.fn ((p.1,p.2.1,p.2.2.1,()),upto p.1.toNat,())=some (Ea p.2.2.1 (upto p.1.toNat)):=if_pos ⟨hv,by show (upto p.1.toNat).length<=20;rw [Tn];omega,HY⟩
  have hz:(((Ea p.2.2.1 (upto p.1.toNat)).1,(Ea p.2.2.1 (upto p.1.toNat)).2.1,(Ea p.2.2.1 (upto p.1.toNat)).2.2.1,(Ea p.2.2.1 (upto p.1.toNat)).2.2.2.1,()),(Ea p.2.2.1 (upto p.1.toNat)).2.2.2.1,())=(Ea p.2.2.1 (upto p.1.toNat),Gv p,()):=by
   unfold Gv
   rw [hv,Bool.true_and]
   rfl
  repeat' (first|exact hz|refine ⟨_,SW,?_⟩|refine ⟨_,s5,?_⟩|refine ⟨?_,?_⟩)
 ·rw [if_neg hv]
  refine ⟨λ_=>rfl,λhb=>?_⟩
  exact absurd (by simpa using hb) hv
theorem lA:Sound Try.prog 75 Jd:=
 Sound.Dx Ci (Ai Wt (Ai lr (Ai tw Bb))) mixed Try.func75 (by kernel_rfl) (by kernel_rfl) λx h=>vO x.1 h
theorem tz {p:PP} (hv:Bp p=true):(Dt p).length<=3000:=(LS hv).ok.kh
theorem lD {p:PP} (hp:De p) (hw:Gv p=true):Jd.fn ((p.1,p.2.1,p.2.2.1,()),())=some (Ea p.2.2.1 (upto p.1.toNat),true,()):=
 (if_pos hp).trans (congrArg some ((if_pos (Ko hw).1).trans (by rw [<-hw])))
end Go.Proofs.Ytjbdmibbbpdnnaa

namespace Go.Proofs.Ytjbdmibbbpdnnaa
open Go.RowKit
def Nl (b:ByteArray) (t:List Int):ByteArray:=t.foldl (λa k=>a++b.extract k.toNat (k+1).toNat) ByteArray.empty
def En (p:PP) (t:List Int):PP:=(p.1,Nl p.2.1 t,t.map λk=>p.2.2.1.getD k.toNat [],())
noncomputable abbrev Ph:Spec:=Dx (.pair Cx (.pair tL .unit)) Cx false true (λx=>De x.1/\Bm x.1 x.2.1=true) (λx=>En x.1 x.2.1)
noncomputable abbrev Kx:Spec:=Dx (.pair Cx (.pair tL .unit)) Cx false true (λx=>De x.1/\Bm x.1 x.2.1=true) (λx=>En x.1 x.2.1)
abbrev HP:Type:=Option XP×List Int×Option XP×Unit
noncomputable def Uz (p:PP) (t:List Int):Bool:=Gv p&&Bm p t
noncomputable def aS (p:PP) (t:List Int):HP:=(some (Qs p),t,some (Qs (En p t)),())
noncomputable abbrev Iu:Spec:=Dx (.pair Cx (.pair tL .unit)) (.pair (.optr qy) (.pair .bool .unit)) true false (λx=>De x.1/\short x.2.1) (λx=>if Uz x.1 x.2.1=true then (some (aS x.1 x.2.1),true,()) else (none,false,()))
noncomputable def Wh (p:PP) (t:List Int):Int:=if Uz p t=true then ((Dt p).length:Int).tdiv ((Dt (En p t)).length:Int) else-1
noncomputable abbrev Jk:Spec:=Dx (.pair Cx (.pair tL .unit)) tI false true (λx=>De x.1/\short x.2.1) (λx=>Wh x.1 x.2.1)
noncomputable abbrev bq:Spec:=Dx (.pair Cx (.pair tL .unit)) (.pair Ul (.pair Ul (.pair .bool .unit))) true false (λx=>De x.1/\short x.2.1)
 (λx=>(if Uz x.1 x.2.1=true then (Ea x.1.2.2.1 (upto x.1.1.toNat),Ea (En x.1 x.2.1).2.2.1 (upto x.1.1.toNat),true,()) else ((Ez x.1).1,(Ez x.1).1,false,())))
noncomputable abbrev gN:Spec:=Dx (.pair Cx (.pair tL .unit)) .bool false true (λx=>De x.1/\short x.2.1) (λ_=>true)
abbrev iV:Type:=Int×Int×ByteArray×List (List Int)×Int×ByteArray×Int×ByteArray×List (List Int)×List (List Int)×PUnit
theorem wE (p:Int×ByteArray×List (List Int)×Unit) (t:List Int) (P:(Int×ByteArray×List (List Int)×Unit)->Prop):(0=0/\0=([]:List Int).length/\0=0/\0=([]:List Int).length/\Cl (λ(v3:iV) (k4:iV->Prop)=>Br (decide (v3.1<(↑t.length:Int))) (∃(y5:Int),idx t v3.1=some y5/\((0:Int)<=y5/\y5<=IntKind.i64.wrap (y5+(1:Int))/\IntKind.i64.wrap (y5+(1:Int))<=(↑v3.2.2.1.size:Int))/\v3.2.2.2.2.2.2.2.1.size+(v3.2.2.1.extract y5.toNat (IntKind.i64.wrap (y5+(1:Int))).toNat).size<=4294967296/\ ∃(y6:List Int),idx v3.2.2.2.1 y5=some y6/\ ∃(y7:List Int),Jc.fn (y6,())=some y7/\0=0/\v3.2.2.2.2.2.2.2.2.2.1.length=v3.2.2.2.2.2.2.2.2.2.1.length/\v3.2.2.2.2.2.2.2.2.2.1.length+ [y7].length<=Bq/\0=0/\v3.2.2.2.2.2.2.2.2.1.length=v3.2.2.2.2.2.2.2.2.1.length/\0=0/\(v3.2.2.2.2.2.2.2.2.2.1++ [y7]).length=(v3.2.2.2.2.2.2.2.2.2.1++ [y7]).length/\k4 (IntKind.i64.wrap (v3.1+(1:Int)),v3.2.1,v3.2.2.1,v3.2.2.2.1,v3.2.2.2.2.1,v3.2.2.2.2.2.1,v3.2.2.2.2.2.2.1,v3.2.2.2.2.2.2.2.1++v3.2.2.1.extract y5.toNat (IntKind.i64.wrap (y5+(1:Int))).toNat,v3.2.2.2.2.2.2.2.2.1,v3.2.2.2.2.2.2.2.2.2.1++ [y7],())) (P (v3.2.2.2.2.2.2.1,v3.2.2.2.2.2.2.2.1,List.take v3.2.2.2.2.2.2.2.2.2.1.length (List.drop 0 v3.2.2.2.2.2.2.2.2.2.1),()))) ((0:Int),p.1,p.2.1,p.2.2.1,Int.ofNat (nat_lit 0), {data:= #[]},p.1, {data:= #[]},[],[],PUnit.unit))=fnW Di (look [(123,Jc)]) Ph Try.f102 (p,t,()) P:=by kernel_rfl
abbrev cW:Type:=Int×Int×ByteArray×List (List Int)×Int×ByteArray×Int×ByteArray×List (List Int)×List (List Int)×PUnit
theorem qN (p:Int×ByteArray×List (List Int)×Unit) (t:List Int) (P:(Int×ByteArray×List (List Int)×Unit)->Prop):(0=0/\0=([]:List Int).length/\0=0/\0=([]:List Int).length/\Cl (λ(v3:cW) (k4:cW->Prop)=>Br (decide (v3.1<(↑t.length:Int))) (∃(y5:Int),idx t v3.1=some y5/\((0:Int)<=y5/\y5<=IntKind.i64.wrap (y5+(1:Int))/\IntKind.i64.wrap (y5+(1:Int))<=(↑v3.2.2.1.size:Int))/\v3.2.2.2.2.2.2.2.1.size+(v3.2.2.1.extract y5.toNat (IntKind.i64.wrap (y5+(1:Int))).toNat).size<=4294967296/\ ∃(y6:List Int),idx v3.2.2.2.1 y5=some y6/\ ∃(y7:List Int),fv.fn (y6,())=some y7/\0=0/\v3.2.2.2.2.2.2.2.2.2.1.length=v3.2.2.2.2.2.2.2.2.2.1.length/\v3.2.2.2.2.2.2.2.2.2.1.length+ [y7].length<=Bq/\0=0/\v3.2.2.2.2.2.2.2.2.1.length=v3.2.2.2.2.2.2.2.2.1.length/\0=0/\(v3.2.2.2.2.2.2.2.2.2.1++ [y7]).length=(v3.2.2.2.2.2.2.2.2.2.1++ [y7]).length/\k4 (IntKind.i64.wrap (v3.1+(1:Int)),v3.2.1,v3.2.2.1,v3.2.2.2.1,v3.2.2.2.2.1,v3.2.2.2.2.2.1,v3.2.2.2.2.2.2.1,v3.2.2.2.2.2.2.2.1++v3.2.2.1.extract y5.toNat (IntKind.i64.wrap (y5+(1:Int))).toNat,v3.2.2.2.2.2.2.2.2.1,v3.2.2.2.2.2.2.2.2.2.1++ [y7],())) (P (v3.2.2.2.2.2.2.1,v3.2.2.2.2.2.2.2.1,List.take v3.2.2.2.2.2.2.2.2.2.1.length (List.drop 0 v3.2.2.2.2.2.2.2.2.2.1),()))) ((0:Int),p.1,p.2.1,p.2.2.1,Int.ofNat (nat_lit 0), {data:= #[]},p.1, {data:= #[]},[],[],PUnit.unit))=fnW Di (look [(145,fv)]) Kx Try.f107 (p,t,()) P:=by kernel_rfl
abbrev fG:Type:=Option ((Int×ByteArray×List (List Int)×PUnit)×List (List Int)×List Int×(ByteArray->Option Int)×List Int×List Int×List (List Int)×PUnit)×Bool×PUnit
theorem iY (p:Int×ByteArray×List (List Int)×Unit) (t:List Int) (P:(Option (Option XP×List Int×Option XP×Unit)×Bool×Unit)->Prop):(∃(y3:fG),Jr.fn ((p.1,p.2.1,p.2.2.1,()),())=some y3/\Br (!y3.2.1) (P (none,false,())) (∃(y4:Bool),Ed.fn ((p.1,p.2.1,p.2.2.1,()),t,())=some y4/\Br (!y4) (P (none,false,())) (∃(y5:Int×ByteArray×List (List Int)×PUnit),Kx.fn ((p.1,p.2.1,p.2.2.1,()),t,())=some y5/\ ∃(y6:fG),Jr.fn (y5,())=some y6/\P (some (y3.1,t,y6.1,()),true,()))))=fnW Di (look [(80,Jr),(106,Ed),(107,Kx)]) Iu Try.f57 (p,t,()) P:=by kernel_rfl
abbrev xz:Type:=(List (List Int)×List Int×List Int×Bool×PUnit)×Bool×PUnit
theorem MB (p:Int×ByteArray×List (List Int)×Unit) (t:List Int) (P:(SS×SS×Bool×Unit)->Prop):(∃(y3:xz),Jd.fn ((p.1,p.2.1,p.2.2.1,()),())=some y3/\Br (!y3.2.1) ((P ((y3.1.1,y3.1.2.1,y3.1.2.2.1,y3.1.2.2.2.1,()),(y3.1.1,y3.1.2.1,y3.1.2.2.1,y3.1.2.2.2.1,()),false,())/\P ((y3.1.1,y3.1.2.1,y3.1.2.2.1,y3.1.2.2.2.1,()),(y3.1.1,y3.1.2.1,y3.1.2.2.1,y3.1.2.2.2.1,()),false,()))/\P ((y3.1.1,y3.1.2.1,y3.1.2.2.1,y3.1.2.2.2.1,()),(y3.1.1,y3.1.2.1,y3.1.2.2.1,y3.1.2.2.2.1,()),false,())) (∃(y4:Bool),Ed.fn ((p.1,p.2.1,p.2.2.1,()),t,())=some y4/\Br (!y4) ((P ((y3.1.1,y3.1.2.1,y3.1.2.2.1,y3.1.2.2.2.1,()),(y3.1.1,y3.1.2.1,y3.1.2.2.1,y3.1.2.2.2.1,()),false,())/\P ((y3.1.1,y3.1.2.1,y3.1.2.2.1,y3.1.2.2.2.1,()),(y3.1.1,y3.1.2.1,y3.1.2.2.1,y3.1.2.2.2.1,()),false,()))/\P ((y3.1.1,y3.1.2.1,y3.1.2.2.1,y3.1.2.2.2.1,()),(y3.1.1,y3.1.2.1,y3.1.2.2.1,y3.1.2.2.2.1,()),false,())) (∃(y5:Int×ByteArray×List (List Int)×PUnit),Ph.fn ((p.1,p.2.1,p.2.2.1,()),t,())=some y5/\ ∃(y6:xz),Jd.fn (y5,())=some y6/\(P ((y3.1.1,y3.1.2.1,y3.1.2.2.1,y3.1.2.2.2.1,()),(y6.1.1,y6.1.2.1,y6.1.2.2.1,y6.1.2.2.2.1,()),true,())/\P ((y3.1.1,y3.1.2.1,y3.1.2.2.1,y3.1.2.2.2.1,()),(y6.1.1,y6.1.2.1,y6.1.2.2.1,y6.1.2.2.2.1,()),true,()))/\P ((y3.1.1,y3.1.2.1,y3.1.2.2.1,y3.1.2.2.2.1,()),(y6.1.1,y6.1.2.1,y6.1.2.2.1,y6.1.2.2.2.1,()),true,()))))=fnW Di (look [(75,Jd),(101,Ed),(102,Ph)]) bq Try.f52 (p,t,()) P:=by kernel_rfl
abbrev cU:Type:=Option ((Int×ByteArray×List (List Int)×PUnit)×List (List Int)×List Int×(ByteArray->Option Int)×List Int×List Int×List (List Int)×PUnit)×List Int×Option ((Int×ByteArray×List (List Int)×PUnit)×List (List Int)×List Int×(ByteArray->Option Int)×List Int×List Int×List (List Int)×PUnit)×PUnit
abbrev cX:Type:=(Int×ByteArray×List (List Int)×PUnit)×List (List Int)×List Int×(ByteArray->Option Int)×List Int×List Int×List (List Int)×PUnit
theorem fK (p:Int×ByteArray×List (List Int)×Unit) (t:List Int) (P:Int->Prop):(∃(y3:Option (Option ((Int×ByteArray×List (List Int)×PUnit)×List (List Int)×List Int×(ByteArray->Option Int)×List Int×List Int×List (List Int)×PUnit)×List Int×Option ((Int×ByteArray×List (List Int)×PUnit)×List (List Int)×List Int×(ByteArray->Option Int)×List Int×List Int×List (List Int)×PUnit)×PUnit)×Bool×PUnit),Iu.fn ((p.1,p.2.1,p.2.2.1,()),t,())=some y3/\Br (!y3.2.1) (P (-1:Int)) (∃(y4:cU),y3.1=some y4/\ ∃(y5:cX),y4.1=some y5/\ ∃(y6:Int),Ku.fn (y5.2.1,())=some y6/\ ∃(y7:cU),y3.1=some y7/\ ∃(y8:cX),y7.2.2.1=some y8/\ ∃(y9:Int),Ku.fn (y8.2.1,())=some y9/\y9≠(0:Int)/\P (IntKind.i64.wrap (y6.tdiv y9))))=fnW Di (look [(57,Iu),(58,Ku)]) Jk Try.f22 (p,t,()) P:=by kernel_rfl
theorem fL (p:Int×ByteArray×List (List Int)×Unit) (t:List Int) (P:Int->Prop):(∃(y3:(List (List Int)×List Int×List Int×Bool×PUnit)×(List (List Int)×List Int×List Int×Bool×PUnit)×Bool×PUnit),bq.fn ((p.1,p.2.1,p.2.2.1,()),t,())=some y3/\Br (!y3.2.2.1) (P (-1:Int)) ((↑y3.2.1.1.length:Int)≠(0:Int)/\P (IntKind.i64.wrap ((↑y3.1.1.length:Int).tdiv (↑y3.2.1.1.length:Int)))))=fnW Di (look [(52,bq)]) Jk Try.f21 (p,t,()) P:=by kernel_rfl
abbrev Yq:Type:=Int×ByteArray×List (List Int)×PUnit
theorem tU (p:Int×ByteArray×List (List Int)×Unit) (a:List Int) (P:Bool->Prop):(Br (decide ((↑a.length:Int)>(1048576:Int))) (P true) (∃(y3:Int),og.fn ((p.1,p.2.1,p.2.2.1,()),(1048576:Int),())=some y3/\Br (decide (y3<(0:Int))) (P true) (∃(y4:Yq),iR.fn ((p.1,p.2.1,p.2.2.1,()),())=some y4/\ ∃(y5:List Int),bt.fn (a,())=some y5/\ ∃(y6:Int),Jk.fn (y4,y5,())=some y6/\ ∃(y7:Yq),iR.fn ((p.1,p.2.1,p.2.2.1,()),())=some y7/\ ∃(y8:List Int),bt.fn (a,())=some y8/\ ∃(y9:Int),Jk.fn ((y7.1,y7.2.1,y7.2.2.1,()),y8,())=some y9/\Br (y9 !=y6) (P false) (∃(zx:Yq),iR.fn ((p.1,p.2.1,p.2.2.1,()),())=some zx/\ ∃(DE:Bool),oa.fn ((y7.1,y7.2.1,y7.2.2.1,()),zx,())=some DE/\Br (!DE) (P false) (∃(NI:List Int),bt.fn (a,())=some NI/\ ∃(wH:Bool),Dm.fn (y8,NI,())=some wH/\Br (!wH) (P false) (P true))))))=fnW Di (look [(14,og),(21,Jk),(22,Jk),(16,iR),(17,bt),(19,oa),(20,Dm)]) gN Try.f4 (p,a,()) P:=by kernel_rfl
theorem um (b:ByteArray) (i:Nat):b[i]?=b.data[i]?:=by
 by_cases h:i<b.size
 ·rw [getElem?_pos b i h,getElem?_pos b.data i h];rfl
 ·rw [getElem?_neg b i h,getElem?_neg b.data i h]
theorem IT (a b:ByteArray) (k j:Nat) (hk:k<b.size):(a++b.extract k (k+1))[j]?=if j<a.size then a[j]? else if j=a.size then b[k]? else none:=by
 rw [um,ByteArray.data_append,ByteArray.data_extract,Array.getElem?_append]
 by_cases h:j<a.size
 ·rw [if_pos h,if_pos (show j<a.data.size from h),um]
 ·rw [if_neg h,if_neg (show ¬j<a.data.size from h)]
  have ee:k<b.data.size:=hk
  by_cases e:j=a.size
  ·rw [if_pos e,um]
   have:j-a.data.size=0:=by have:a.data.size=a.size:=rfl
                            omega
   rw [this,Array.getElem?_extract,if_pos (by omega),Nat.add_zero]
  ·rw [if_neg e,Array.getElem?_extract,if_neg]
   have:a.data.size=a.size:=rfl
   omega
theorem qp {b:ByteArray} : ∀(t:List Int) (a:ByteArray),(∀k∈t,0<=k/\k<b.size)->
  (t.foldl (λ(a:ByteArray) (k:Int)=>a++b.extract k.toNat (k+1).toNat) a).size=a.size+t.length/\
  ∀j,(t.foldl (λ(a:ByteArray) (k:Int)=>a++b.extract k.toNat (k+1).toNat) a)[j]?=if j<a.size then a[j]? else (t[j-a.size]?).bind λk=>b[k.toNat]?
 | [],a,_=>by
  refine ⟨rfl,λj=>?_⟩
  by_cases h:j<a.size
  ·rw [if_pos h];rfl
  ·rw [if_neg h]
   simp only [List.foldl_nil,List.getElem?_nil,Option.bind_none]
   exact getElem?_neg a j h
 |k::t,a,h=>by
  obtain ⟨h1,h2⟩:=h k (by simp)
  obtain ⟨kn,rfl⟩:=Int.eq_ofNat_of_zero_le h1
  have WG:kn<b.size:=by omega
  have Nx:(a++b.extract kn (kn+1)).size=a.size+1:=by rw [ByteArray.size_append,ByteArray.size_extract];omega
  obtain ⟨g1,g2⟩:=qp t (a++b.extract kn (kn+1)) λk' ee=>h k' (List.mem_cons_of_mem _ ee)
  simp only [List.foldl_cons]
  rw [show ((kn:Nat):Int).toNat=kn from Int.toNat_natCast kn,show (((kn:Nat):Int)+1).toNat=kn+1 by omega]
  refine ⟨by rw [g1,Nx,List.length_cons];omega,λj=>?_⟩
  rw [g2 j,Nx,IT a b kn j WG]
  by_cases e1:j<a.size
  ·rw [if_pos (by omega),if_pos e1,if_pos e1]
  ·rw [if_neg e1]
   by_cases e2:j=a.size
   ·subst e2
    rw [if_pos (by omega),if_pos rfl,if_neg (by omega),Nat.sub_self]
    simp
   ·rw [if_neg (by omega),if_neg e1,show j-a.size=(j-(a.size+1))+1 by omega,List.getElem?_cons_succ]
theorem cc {b:ByteArray} (t:List Int) (h: ∀k∈t,0<=k/\k<b.size):(Nl b t).size=t.length:=by
 have:=(qp t ByteArray.empty h).1
 rw [ByteArray.size_empty,Nat.zero_add] at this
 exact this
theorem tB {b:ByteArray} (t:List Int) (h: ∀k∈t,0<=k/\k<b.size) (j:Nat):(Nl b t)[j]?=(t[j]?).bind λk=>b[k.toNat]?:=by
 have:=(qp t ByteArray.empty h).2 j
 rw [ByteArray.size_empty,if_neg (Nat.not_lt_zero _),Nat.sub_zero] at this
 exact this
theorem ou (b:ByteArray) {t:List Int} {j:Nat} (hl:j<t.length):Nl b (t.take (j+1))=Nl b (t.take j)++b.extract (t[j]).toNat (t[j]+1).toNat:=by
 unfold Nl
 rw [List.take_add_one,List.getElem?_eq_getElem hl,Option.toList_some,List.foldl_append]
 rfl
structure zG (p:PP) (t:List Int):Prop where
 valid:Bp p=true
 pos:0<t.length
 kh:t.length<=p.2.2.1.length
 g8:p.2.2.1.length<=8
 size:p.2.1.size=p.2.2.1.length
 Of: ∀ {j:Nat} (h:j<t.length),∃k:Nat,t[j]=(k:Int)/\k<p.2.2.1.length
 inc: ∀ {i j:Nat} (hi:i<t.length) (hj:j<t.length),i<j->t[i]<t[j]
theorem BU {n:Int} {xs:List Int} (h:PL n xs xs.length): ∀(j i:Nat) (hi:i<xs.length) (hj:j<xs.length),i<j->xs[i]<xs[j]
 |0,_,_,_,dH=>absurd dH (Nat.not_lt_zero _)
 |j+1,i,hi,hj,dH=>by
  have h1:=(h (j+1) hj hj).2.2 (by omega)
  simp only [Nat.add_sub_cancel] at h1
  by_cases e:i=j
  ·subst e;exact h1
  ·have:=BU h j i hi (by omega) (by omega)
   omega
theorem lH {p:PP} {t:List Int} (h:Bm p t=true):zG p t:=by
 obtain ⟨hv,hp⟩:=Du.1 h
 obtain ⟨h1,h2⟩:=Du.1 hp
 have hV:=valid hv
 obtain ⟨_,_,Nx⟩:=Du.1 hv
 have MN: ∀ {j:Nat} (h:j<t.length),∃k:Nat,t[j]=(k:Int)/\k<p.2.2.1.length:= λ {j} hj=>by
  have:=h2 j hj hj
  obtain ⟨k,hk⟩:=Int.eq_ofNat_of_zero_le this.1
  exact ⟨k,hk,by omega⟩
 refine ⟨hv,h1,?_,hV.kh.2,Nx,MN,λhi hj dH=>BU h2 _ _ hi hj dH⟩
 have h5:=vQ h2 (t.length-1) (by omega)
 obtain ⟨k,e,hk⟩:=MN (show t.length-1<t.length by omega)
 omega
theorem zG.NC {p:PP} {t:List Int} (h:zG p t): ∀k∈t,0<=k/\k<p.2.1.size:= λk hk=>by
 obtain ⟨j,hj,rfl⟩:=List.mem_iff_getElem.1 hk
 obtain ⟨kn,e,mi⟩:=h.Of hj
 rw [h.size,e]
 omega
theorem lG {p:PP} {t:List Int} (h:Bm p t=true):Bp (En p t)=true:=by
 have hs:=lH h
 have hV:=valid hs.valid
 obtain ⟨hg,PB,_⟩:=Du.1 hs.valid
 obtain ⟨g1,g2,g3⟩:=Du.1 hg
 obtain ⟨n1,n2⟩:=Du.1 PB
 have Nx:=cc t hs.NC
 refine Du.2 ⟨Du.2 ⟨g1,?_,λq hq=>?_⟩,Du.2 ⟨⟨?_,?_⟩,λj hj=>?_⟩,?_⟩
 ·show (t.map _).length<=8
  rw [List.length_map]
  have:=hs.kh
  have:=hs.g8
  omega
 ·obtain ⟨k,hk,rfl⟩:=List.mem_map.1 hq
  obtain ⟨j,hj,rfl⟩:=List.mem_iff_getElem.1 hk
  obtain ⟨kn,e,mi⟩:=hs.Of hj
  rw [e,Int.toNat_natCast,eO mi]
  exact g3 _ (List.getElem_mem mi)
 ·show 1<=(Nl p.2.1 t).size
  rw [Nx];exact hs.pos
 ·show (Nl p.2.1 t).size<=8
  rw [Nx];have:=hs.kh;have:=hs.g8;omega
 ·have hj:j<t.length:=by rw [<-Nx];exact hj
  obtain ⟨kn,e,mi⟩:=hs.Of hj
  obtain ⟨c,c1,c2,c3,c4⟩:=n2 kn (by rw [hs.size];exact mi)
  refine ⟨c,?_,c2,c3,λi hi=>?_⟩
  ·show (Nl p.2.1 t)[j]?=some c
   rw [tB t hs.NC,List.getElem?_eq_getElem hj,e,Option.bind_some,Int.toNat_natCast,c1]
  ·show (Nl p.2.1 t)[i]?≠some c
   have iz:i<t.length:=by omega
   obtain ⟨k2,e2,OR⟩:=hs.Of iz
   have:=hs.inc iz hj hi
   rw [tB t hs.NC,List.getElem?_eq_getElem iz,e2,Option.bind_some,Int.toNat_natCast]
   exact c4 k2 (by omega)
 ·show (Nl p.2.1 t).size=(t.map _).length
  rw [Nx,List.length_map]
theorem lF {p:PP} {t:List Int} (hp:De p) (h:Bm p t=true):De (En p t):=by
 have hs:=lH h
 have h1:=hs.kh
 have h2:=hs.g8
 refine ⟨?_,?_,λq hq=>?_⟩
 ·show (Nl p.2.1 t).size<=4294967296
  rw [cc t hs.NC];omega
 ·show (t.map _).length<=4294967296
  rw [List.length_map];omega
 ·obtain ⟨k,hk,rfl⟩:=List.mem_map.1 hq
  obtain ⟨j,hj,rfl⟩:=List.mem_iff_getElem.1 hk
  obtain ⟨kn,e,mi⟩:=hs.Of hj
  rw [e,Int.toNat_natCast,eO mi]
  exact hp.2.2 _ (List.getElem_mem mi)
theorem xy {p:PP} {t:List Int} (h:Bm p t=true) {x:List Int} (hx:Gn p.1.toNat ((En p t).2.2.1.map some) x):Gn p.1.toNat (p.2.2.1.map some) x:=by
 refine Vi.mono (λg hg=>?_) hx
 have hg:=Wq.1 hg
 obtain ⟨k,hk,rfl⟩:=List.mem_map.1 hg
 obtain ⟨j,hj,rfl⟩:=List.mem_iff_getElem.1 hk
 obtain ⟨kn,e,mi⟩:=(lH h).Of hj
 rw [e,Int.toNat_natCast,eO mi]
 exact Wq.2 (List.getElem_mem mi)
theorem hJ {p:PP} {t:List Int} (hw:Gv p=true) (h:Bm p t=true):Gv (En p t)=true:=by
 have ub:=lG h
 have hr:=bg ub
 refine Bool.and_eq_true_iff.2 ⟨ub,Classical.byContradiction λhn=>?_⟩
 have hn:(Fc (En p t).2.2.1 (upto (En p t).1.toNat)).2.2=false:=by simpa using hn
 obtain ⟨h1,z,h2,h3⟩:=hr.YP hn
 have h5:=aU (l1:=z::(Fc (En p t).2.2.1 (upto (En p t).1.toNat)).1) (l2:=Dt p) (List.nodup_cons.2 ⟨h3,hr.nodup⟩) λx hx=>by
  rcases List.mem_cons.1 hx with rfl|hx
  ·exact (II hw).all rfl _ (xy h h2)
  ·exact (II hw).all rfl _ (xy h (hr.gen x hx))
 have h6:=tz (Ko hw).1
 simp only [List.length_cons] at h5
 omega
theorem map_take {α β:Type} (f:α->β) {xs:List α} {j:Nat} (h:j<xs.length):(xs.take (j+1)).map f=(xs.take j).map f++ [f xs[j]]:=by
 rw [List.take_add_one,List.getElem?_eq_getElem h,List.map_append];rfl
theorem vN (p:PP) (t:List Int) (h:De p/\Bm p t=true):fnW Di (look [(123,Jc)]) Ph Try.f102 (p,t,()) (λ(z:PP)=>z=En p t):=by
 obtain ⟨hp,Me⟩:=h
 have hs:=lH Me
 refine Eq.mp (wE p t _) ⟨rfl,rfl,rfl,rfl,?_⟩
 refine Az t.length (λv=>v.1) (λj v=>v=((j:Int),p.1,p.2.1,p.2.2.1,0,ByteArray.empty,p.1,Nl p.2.1 (t.take j),[],(t.take j).map λk=>p.2.2.1.getD k.toNat [],())) rfl rfl ?_
 rintro j v K hj hi hR hK
 subst hR
 dsimp only
 have hlen:=hs.kh
 have hg8:=hs.g8
 refine Br.dec (λhl=>?_) λhl=>?_
 ·have hl:j<t.length:=by omega
  obtain ⟨kn,hk,mi⟩:=hs.Of hl
  have WG:kn<p.2.1.size:=by rw [hs.size];exact mi
  have hw:IntKind.i64.wrap ((kn:Int)+1)=(kn:Int)+1:=Bx (by have:=hs.g8;omega) (by have:=hs.g8;omega)
  have Nx:=cc (b:=p.2.1) (t.take j) λk ee=>hs.NC k (List.mem_of_mem_take ee)
  have hex:(p.2.1.extract kn (kn+1)).size=1:=by rw [ByteArray.size_extract];omega
  refine ⟨_,Bc hl,?_⟩
  rw [hk,hw]
  refine ⟨⟨by omega,by omega,by omega⟩,by rw [show ((kn:Int)+1).toNat=kn+1 by omega,Int.toNat_natCast,hex,Nx];have:=List.length_take_le j t;omega,_,Bc mi,_,if_pos (hp.2.2 _ (List.getElem_mem mi)),rfl,rfl,?_,rfl,rfl,rfl,rfl,?_⟩
  ·show ((t.take j).map _).length+1<=4294967296
   rw [List.length_map];have:=List.length_take_le j t;have:=hs.g8;omega
  ·rw [Au (by omega),show ((kn:Int)+1).toNat=kn+1 by omega,Int.toNat_natCast]
   refine hK hl _ rfl ?_
   rw [ou _ hl,map_take _ hl,hk,Int.toNat_natCast,show ((kn:Int)+1).toNat=kn+1 by omega,eO mi]
 ·have:j=t.length:=by omega
  subst this
  rw [List.take_length,Dz]
  rfl
theorem ly:Sound Try.prog 102 Ph:=
 Sound.Dx Ci (Ai bw Bb) mixed Try.func102 (by kernel_rfl) (by kernel_rfl) λx h=>vN x.1 x.2.1 h
theorem pP (p:PP) (t:List Int) (h:De p/\Bm p t=true):fnW Di (look [(145,fv)]) Kx Try.f107 (p,t,()) (λ(z:PP)=>z=En p t):=by
 obtain ⟨hp,Me⟩:=h
 have hs:=lH Me
 refine Eq.mp (qN p t _) ⟨rfl,rfl,rfl,rfl,?_⟩
 refine Az t.length (λv=>v.1) (λj v=>v=((j:Int),p.1,p.2.1,p.2.2.1,0,ByteArray.empty,p.1,Nl p.2.1 (t.take j),[],(t.take j).map λk=>p.2.2.1.getD k.toNat [],())) rfl rfl ?_
 rintro j v K hj hi hR hK
 subst hR
 dsimp only
 have hlen:=hs.kh
 have hg8:=hs.g8
 refine Br.dec (λhl=>?_) λhl=>?_
 ·have hl:j<t.length:=by omega
  obtain ⟨kn,hk,mi⟩:=hs.Of hl
  have WG:kn<p.2.1.size:=by rw [hs.size];exact mi
  have hw:IntKind.i64.wrap ((kn:Int)+1)=(kn:Int)+1:=Bx (by have:=hs.g8;omega) (by have:=hs.g8;omega)
  have Nx:=cc (b:=p.2.1) (t.take j) λk ee=>hs.NC k (List.mem_of_mem_take ee)
  have hex:(p.2.1.extract kn (kn+1)).size=1:=by rw [ByteArray.size_extract];omega
  refine ⟨_,Bc hl,?_⟩
  rw [hk,hw]
  refine ⟨⟨by omega,by omega,by omega⟩,by rw [show ((kn:Int)+1).toNat=kn+1 by omega,Int.toNat_natCast,hex,Nx];have:=List.length_take_le j t;omega,_,Bc mi,_,if_pos (hp.2.2 _ (List.getElem_mem mi)),rfl,rfl,?_,rfl,rfl,rfl,rfl,?_⟩
  ·show ((t.take j).map _).length+1<=4294967296
   rw [List.length_map];have:=List.length_take_le j t;have:=hs.g8;omega
  ·rw [Au (by omega),show ((kn:Int)+1).toNat=kn+1 by omega,Int.toNat_natCast]
   refine hK hl _ rfl ?_
   rw [ou _ hl,map_take _ hl,hk,Int.toNat_natCast,show ((kn:Int)+1).toNat=kn+1 by omega,eO mi]
 ·have:j=t.length:=by omega
  subst this
  rw [List.take_length,Dz]
  rfl
theorem gY:Sound Try.prog 107 Kx:=
 Sound.Dx Ci (Ai qf Bb) mixed Try.func107 (by kernel_rfl) (by kernel_rfl) λx h=>pP x.1 x.2.1 h
theorem Qk {p:PP} {t:List Int} :Uz p t=true↔Gv p=true/\Bm p t=true:=by unfold Uz;rw [Bool.and_eq_true]
theorem sX (p:PP) (t:List Int) (h:De p/\short t):fnW Di (look [(80,Jr),(106,Ed),(107,Kx)]) Iu Try.f57 (p,t,()) (λ(z:Option (Option XP×List Int×Option XP×Unit)×Bool×Unit)=>z=(if Uz p t=true then (some (aS p t),true,()) else (none,false,()))):=by
 obtain ⟨hp,ht⟩:=h
 by_cases hw:Gv p=true
 ·have he:Jr.fn ((p.1,p.2.1,p.2.2.1,()),())=some (some (Qs p),true,()):=(if_pos hp).trans (congrArg some (if_pos hw))
  refine Eq.mp (iY p t _) ⟨_,he,λhb=>by simp at hb,λ_=>⟨_,if_pos ⟨hp,ht⟩,Br.of (λhm=>?_) λhm=>?_⟩⟩
  ·have hm: ¬Bm p t=true:=Ej hm
   rw [if_neg λh=>hm (Qk.1 h).2]
  have hm:Bm p t=true:=by simpa using hm
  have hws:=hJ hw hm
  have Wx:Jr.fn (En p t,())=some (some (Qs (En p t)),true,()):=(if_pos (lF hp hm)).trans (congrArg some (if_pos hws))
  rw [if_pos (Qk.2 ⟨hw,hm⟩)]
  exact ⟨_,if_pos ⟨hp,hm⟩,_,Wx,rfl⟩
 ·have he:Jr.fn ((p.1,p.2.1,p.2.2.1,()),())=some (none,false,()):=(if_pos hp).trans (congrArg some (if_neg hw))
  rw [if_neg λh=>hw (Qk.1 h).1]
  exact Eq.mp (iY p t _) ⟨_,he,λ_=>rfl,λhb=>by simp at hb⟩
theorem jl:Sound Try.prog 57 Iu:=
 Sound.Dx Ci (Ai mQ (Ai bx (Ai gY Bb))) mixed Try.func57 (by kernel_rfl) (by kernel_rfl) λx h=>sX x.1 x.2.1 h
theorem LH (p:PP) (t:List Int) (h:De p/\short t):fnW Di (look [(75,Jd),(101,Ed),(102,Ph)]) bq Try.f52 (p,t,()) (λ(z:SS×SS×Bool×Unit)=>z=(if Uz p t=true then (Ea p.2.2.1 (upto p.1.toNat),Ea (En p t).2.2.1 (upto p.1.toNat),true,()) else ((Ez p).1,(Ez p).1,false,()))):=by
 obtain ⟨hp,ht⟩:=h
 refine Eq.mp (MB p t _) ⟨_,if_pos hp,?_⟩
 have hz: ∀(x:SS),((x.1,x.2.1,x.2.2.1,x.2.2.2.1,()),(x.1,x.2.1,x.2.2.1,x.2.2.2.1,()),false,())=(x,x,false,()):= λx=>rfl
 dsimp only
 by_cases hw:Gv p=true
 ·have hv:=(Ko hw).1
  have e1:Ez (p.1,p.2.1,p.2.2.1,())=(Ea p.2.2.1 (upto p.1.toNat),true,()):=(if_pos hv).trans (by rw [<-hw])
  rw [e1]
  refine ⟨λhb=>by simp at hb,λ_=>⟨_,if_pos ⟨hp,ht⟩,Br.of (λhm=>?_) λhm=>?_⟩⟩
  ·have hm: ¬Bm p t=true:=Ej hm
   rw [if_neg λh=>hm (Qk.1 h).2]
   exact ⟨⟨rfl,rfl⟩,rfl⟩
  have hm:Bm p t=true:=by simpa using hm
  rw [if_pos (Qk.2 ⟨hw,hm⟩)]
  have Wx:Jd.fn (En p t,())=some (Ea (En p t).2.2.1 (upto p.1.toNat),true,()):=lD (p:=En p t) (lF hp hm) (hJ hw hm)
  exact ⟨_,if_pos ⟨hp,hm⟩,_,Wx,⟨rfl,rfl⟩,rfl⟩
 ·have hwf:(Ez (p.1,p.2.1,p.2.2.1,())).2.1=false:=by
   show (Ez p).2.1=false
   unfold Ez
   split
   ·exact Bool.not_eq_true _|>.mp hw
   ·rfl
  rw [hwf,if_neg λh=>hw (Qk.1 h).1]
  exact ⟨λ_=>⟨⟨rfl,rfl⟩,rfl⟩,λhb=>by simp at hb⟩
theorem wg:Sound Try.prog 52 bq:=
 Sound.Dx Ci (Ai lA (Ai bA (Ai ly Bb))) mixed Try.func52 (by kernel_rfl) (by kernel_rfl) λx h=>LH x.1 x.2.1 h
theorem LU {p:PP} (hv:Bp p=true):1<=(Dt p).length:=by
 obtain ⟨A,h⟩:=(bg hv).first
 show 1<=(Fc p.2.2.1 (upto p.1.toNat)).1.length
 rw [h];simp
theorem jX {p:PP} {t:List Int} (hw:Uz p t=true):((Dt (En p t)).length:Int)≠0/\IntKind.i64.wrap (((Dt p).length:Int).tdiv ((Dt (En p t)).length:Int))=((Dt p).length:Int).tdiv ((Dt (En p t)).length:Int):=by
 obtain ⟨TG,hm⟩:=Qk.1 hw
 have h1:=LU (lG hm)
 have h2:=tz (Ko TG).1
 refine ⟨by omega,?_⟩
 have h3:((Dt p).length:Int).tdiv ((Dt (En p t)).length:Int)=(((Dt p).length/(Dt (En p t)).length:Nat):Int):=by
  rw [Int.tdiv_eq_ediv_of_nonneg (by omega)];rfl
 have h4:=Nat.div_le_self (Dt p).length (Dt (En p t)).length
 rw [h3]
 generalize (Dt p).length/(Dt (En p t)).length=q at*
 exact Bx (by omega) (by omega)
theorem pG (p:PP) (t:List Int) (h:De p/\short t):fnW Di (look [(57,Iu),(58,Ku)]) Jk Try.f22 (p,t,()) (λ(z:Int)=>z=Wh p t):=by
 unfold Wh
 by_cases hw:Uz p t=true
 ·have he:Iu.fn ((p.1,p.2.1,p.2.2.1,()),t,())=some (some (aS p t),true,()):=(if_pos h).trans (congrArg some (if_pos hw))
  obtain ⟨TG,hm⟩:=Qk.1 hw
  obtain ⟨c1,c2⟩:=jX hw
  rw [if_pos hw]
  refine Eq.mp (fK p t _) ⟨_,he,λhb=>by simp at hb,λ_=>⟨aS p t,rfl,Qs p,rfl,_,if_pos trivial,aS p t,rfl,Qs (En p t),rfl,_,if_pos trivial,?_⟩⟩
  dsimp only
  rw [(wU TG).1,(wU (hJ TG hm)).1]
  exact ⟨c1,c2⟩
 ·have he:Iu.fn ((p.1,p.2.1,p.2.2.1,()),t,())=some (none,false,()):=(if_pos h).trans (congrArg some (if_neg hw))
  rw [if_neg hw]
  exact Eq.mp (fK p t _) ⟨_,he,λ_=>rfl,λhb=>by simp at hb⟩
theorem gS:Sound Try.prog 22 Jk:=
 Sound.Dx Ci (Ai jl (Ai bz Bb)) mixed Try.func22 (by kernel_rfl) (by kernel_rfl) λx h=>pG x.1 x.2.1 h
theorem pK (p:PP) (t:List Int) (h:De p/\short t):fnW Di (look [(52,bq)]) Jk Try.f21 (p,t,()) (λ(z:Int)=>z=Wh p t):=by
 unfold Wh
 by_cases hw:Uz p t=true
 ·have he:bq.fn ((p.1,p.2.1,p.2.2.1,()),t,())=some (Ea p.2.2.1 (upto p.1.toNat),Ea (En p t).2.2.1 (upto p.1.toNat),true,()):=(if_pos h).trans (congrArg some (if_pos hw))
  rw [if_pos hw]
  exact Eq.mp (fL p t _) ⟨_,he,λhb=>by simp at hb,λ_=>jX hw⟩
 ·have he:bq.fn ((p.1,p.2.1,p.2.2.1,()),t,())=some ((Ez p).1,(Ez p).1,false,()):=(if_pos h).trans (congrArg some (if_neg hw))
  rw [if_neg hw]
  exact Eq.mp (fL p t _) ⟨_,he,λ_=>rfl,λhb=>by simp at hb⟩
theorem gV:Sound Try.prog 21 Jk:=
 Sound.Dx Ci (Ai wg Bb) mixed Try.func21 (by kernel_rfl) (by kernel_rfl) λx h=>pK x.1 x.2.1 h
theorem sU (p:PP) (a:List Int) (h:De p/\short a):fnW Di (look [(14,og),(21,Jk),(22,Jk),(16,iR),(17,bt),(19,oa),(20,Dm)]) gN Try.f4 (p,a,()) (λ(z:Bool)=>z=true):=by
 have h0:De (p.1,p.2.1,p.2.2.1,()):=h.1
 have h1:short a:=h.2
 refine Eq.mp (tU p a _) ?_
 refine Br.dec (λ_=>rfl) λAbo=>?_
 refine ⟨_,if_pos ⟨h0,tf⟩,Br.dec (λ_=>rfl) λXG=>?_⟩
 have QH:(((Ru p.2.2.1:Nat):Nat):Int)<=(1048576)-(aT (p.1,p.2.1,p.2.2.1,()) (1048576))/\roomy (aT (p.1,p.2.1,p.2.2.1,()) (1048576)):=CH tf XG
 have Acp:=QH.1
 have Ac2:0<=aT (p.1,p.2.1,p.2.2.1,()) (1048576)/\aT (p.1,p.2.1,p.2.2.1,()) (1048576)<=4294967296:=QH.2
 have l0:low (1+(Ru p.2.2.1:Nat)):=⟨by omega,by omega⟩
 have l1:low (1+(Ru p.2.2.1:Nat)+(a.length:Nat)):=⟨by omega,by omega⟩
 refine ⟨_,if_pos h0,_,if_pos h1,?_⟩
 refine ⟨_,if_pos ⟨h0,h1⟩,_,if_pos h0,_,if_pos h1,?_⟩
 generalize he0:Wh p a=g0
 refine ⟨_,if_pos ⟨h0,h1⟩,?_⟩
 simp only [he0]
 refine ⟨λhe=>AU he,λ_=>?_⟩
 refine ⟨_,if_pos h0,_,if_pos h0,⟨λhe=>absurd (vu _) (Ej he),λ_=>?_⟩⟩
 refine ⟨_,if_pos h1,?_⟩
 refine ⟨_,if_pos h1,⟨λhe=>absurd (gu _) (Ej he),λ_=>?_⟩⟩
 first|rfl|trivial
theorem ji:Sound Try.prog 4 gN:=
 Sound.Dx Ci (Ai yW (Ai gV (Ai gS (Ai yX (Ai oq (Ai yS (Ai oo Bb))))))) mixed Try.func4 (by kernel_rfl) (by kernel_rfl) λx h=>sU x.1 x.2.1 h
end Go.Proofs.Ytjbdmibbbpdnnaa
