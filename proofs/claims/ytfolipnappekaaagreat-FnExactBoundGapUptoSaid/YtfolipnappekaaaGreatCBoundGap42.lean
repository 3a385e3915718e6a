/-
  Part 43 of the proof that the statement FnExactBoundGap holds.
-/
import Derived.Test.YtfolipnappekaaaGreatCBoundGap41
namespace Go.Proofs.YtfolipnappekaaaGreat
open Go.RowKit
def ap (p:List Int) (i:Nat):Nat:=(It p (i:Int)).toNat
def Pm (n:Nat) (p:List Int):Prop:=p.length=n/\Vx p
theorem Pm.n1 {n:Nat} {p:List Int} (h:Pm n p):1<=n:=h.1▸h.2.pos
theorem Pm.n2 {n:Nat} {p:List Int} (h:Pm n p):n<=20:=h.1▸h.2.len
theorem Pm.Ur {n:Nat} {p:List Int} (h:Pm n p) {i:Nat} (hi:i<n):It p (i:Int)=(ap p i:Int)/\ap p i<n:=by
 have lX:i<p.length:=by rw [h.1];exact hi
 have:=h.2.row _ (List.getElem_mem lX)
 unfold ap
 rw [Ib lX]
 have h1:=h.1
 omega
theorem Pm.lt {n:Nat} {p:List Int} (h:Pm n p) {i:Nat} (hi:i<n):ap p i<n:=(h.Ur hi).2
theorem Pm.ext {n:Nat} {p q:List Int} (h:Pm n p) (k:Pm n q) (e: ∀i,i<n->ap p i=ap q i):p=q:=by
 refine List.ext_getElem (by rw [h.1,k.1]) λi h1 h2=>?_
 have hi:i<n:=by rw [<-h.1];exact h1
 have a:=(h.Ur hi).1
 have b:=(k.Ur hi).1
 rw [Ib h1] at a
 rw [Ib h2] at b
 rw [a,b,e i hi]
theorem Pm.inj {n:Nat} {p:List Int} (h:Pm n p) {i j:Nat} (hi:i<n) (hj:j<n) (e:ap p i=ap p j):i=j:=
 h.2.inj i j (by rw [h.1];exact hi) (by rw [h.1];exact hj) e
theorem Pm.QS {n:Nat} {p:List Int} (h:Pm n p) {k:Nat} (hk:k<n): ∃i,i<n/\ap p i=k:=by
 obtain ⟨i,h1,h2⟩:=h.2.QS k (by rw [h.1];exact hk)
 exact ⟨i,by rw [<-h.1];exact h1,h2⟩
theorem Pm.of {n:Nat} {p:List Int} (hl:p.length=n) (h1:1<=n) (h2:n<=20) (f:Nat->Nat) (hf: ∀i,i<n->p[i]?=some (f i:Int)/\f i<n) (hi: ∀i j,i<n->j<n->f i=f j->i=j):Pm n p:=by
 refine ⟨hl,by omega,by omega,λy hy=>?_,?_⟩
 ·obtain ⟨i,hi,rfl⟩:=List.mem_iff_getElem.1 hy
  obtain ⟨h3,h4⟩:=hf i (by omega)
  rw [List.getElem?_eq_getElem hi] at h3
  rw [Option.some.inj h3]
  omega
 ·refine List.pairwise_iff_getElem.2 λi j h3 h4 h5 h6=>?_
  have a:=(hf i (by omega)).1
  have b:=(hf j (by omega)).1
  rw [List.getElem?_eq_getElem h3] at a
  rw [List.getElem?_eq_getElem h4] at b
  rw [Option.some.inj a,Option.some.inj b] at h6
  have:=hi i j (by omega) (by omega) (by omega)
  omega
theorem xC {n:Nat} {p q:List Int} (hp:Pm n p) (hq:Pm n q) {i:Nat} (hi:i<n):(Aa p q)[i]?=some (ap q (ap p i):Int):=by
 have h1:i<p.length:=by rw [hp.1];exact hi
 unfold Aa
 rw [List.getElem?_map,List.getElem?_eq_getElem h1]
 have a:=(hp.Ur hi).1
 rw [Ib h1] at a
 simp only [Option.map_some,a]
 rw [(hq.Ur (hp.Ur hi).2).1]
theorem Pm.comp {n:Nat} {p q:List Int} (hp:Pm n p) (hq:Pm n q):Pm n (Aa p q):=
 Pm.of (by rw [Ke,hp.1]) hp.n1 hp.n2 (λi=>ap q (ap p i)) (λi hi=>⟨xC hp hq hi,hq.lt (hp.lt hi)⟩) λi j hi hj e=>hp.inj hi hj (hq.inj (hp.lt hi) (hp.lt hj) e)
theorem NO {p:List Int} {i k:Nat} (h:p[i]?=some (k:Int)):ap p i=k:=by
 unfold ap It
 rw [Int.toNat_natCast,List.getD_eq_getElem?_getD,h]
 simp
theorem Fp {n:Nat} {p q:List Int} (hp:Pm n p) (hq:Pm n q) {i:Nat} (hi:i<n):ap (Aa p q) i=ap q (ap p i):=NO (xC hp hq hi)
theorem qy {n i:Nat} (hi:i<n):(upto n)[i]?=some (i:Int):=by simp [upto,hi]
theorem cK {n i:Nat} (hi:i<n):ap (upto n) i=i:=NO (qy hi)
theorem Pm.id {n:Nat} (h1:1<=n) (h2:n<=20):Pm n (upto n):=Pm.of (by simp [upto]) h1 h2 (λi=>i) (λi hi=>⟨qy hi,hi⟩) λ_ _ _ _ e=>e
theorem HH {n:Nat} {p:List Int} (hp:Pm n p) {i:Nat} (hi:i<n):(Ag p)[ap p i]?=some (i:Int):=PT hp.2 (by rw [hp.1];exact hi)
theorem ey {n:Nat} {p:List Int} (hp:Pm n p) {i:Nat} (hi:i<n):ap (Ag p) (ap p i)=i:=NO (HH hp hi)
theorem uq {n:Nat} {p:List Int} (hp:Pm n p) {k:Nat} (hk:k<n):ap p (ap (Ag p) k)=k:=by
 obtain ⟨i,hi,rfl⟩:=hp.QS hk
 rw [ey hp hi]
theorem Pm.inv {n:Nat} {p:List Int} (hp:Pm n p):Pm n (Ag p):=by
 refine Pm.of (by rw [j9,hp.1]) hp.n1 hp.n2 (λk=>ap (Ag p) k) (λk hk=>?_) λi j hi hj e=>?_
 ·obtain ⟨i,hi,rfl⟩:=hp.QS hk
  rw [ey hp hi]
  exact ⟨HH hp hi,hi⟩
 ·rw [<-uq hp hi,<-uq hp hj,e]
theorem Ek {n:Nat} {p q r:List Int} (hp:Pm n p) (hq:Pm n q) (hr:Pm n r):Aa (Aa p q) r=Aa p (Aa q r):=
 ((hp.comp hq).comp hr).ext (hp.comp (hq.comp hr)) λi hi=>by rw [Fp (hp.comp hq) hr hi,Fp hp hq hi,Fp hp (hq.comp hr) hi,Fp hq hr (hp.lt hi)]
theorem comp_id {n:Nat} {p:List Int} (hp:Pm n p):Aa p (upto n)=p:=
 (hp.comp (Pm.id hp.n1 hp.n2)).ext hp λi hi=>by rw [Fp hp (Pm.id hp.n1 hp.n2) hi,cK (hp.lt hi)]
theorem id_comp {n:Nat} {p:List Int} (hp:Pm n p):Aa (upto n) p=p:=
 ((Pm.id hp.n1 hp.n2).comp hp).ext hp λi hi=>by rw [Fp (Pm.id hp.n1 hp.n2) hp hi,cK hi]
theorem Zq {n:Nat} {p:List Int} (hp:Pm n p):Aa p (Ag p)=upto n:=
 (hp.comp hp.inv).ext (Pm.id hp.n1 hp.n2) λi hi=>by rw [Fp hp hp.inv hi,ey hp hi,cK hi]
theorem Wp {n:Nat} {p:List Int} (hp:Pm n p):Aa (Ag p) p=upto n:=
 (hp.inv.comp hp).ext (Pm.id hp.n1 hp.n2) λi hi=>by rw [Fp hp.inv hp hi,uq hp hi,cK hi]
theorem oS {n:Nat} {p q:List Int} (hp:Pm n p) (hq:Pm n q) (h:Aa p q=upto n):Ag p=q:=by
 rw [<-comp_id hp.inv,<-h,<-Ek hp.inv hp hq,Wp hp,id_comp hq]
theorem inv_mul {n:Nat} {p q:List Int} (hp:Pm n p) (hq:Pm n q):Ag (Aa p q)=Aa (Ag q) (Ag p):=
 oS (hp.comp hq) (hq.inv.comp hp.inv) (by
  rw [Ek hp hq (hq.inv.comp hp.inv),<-Ek hq hq.inv hp.inv,Zq hq,id_comp hp.inv,Zq hp])
theorem inv_inv {n:Nat} {p:List Int} (hp:Pm n p):Ag (Ag p)=p:=oS hp.inv hp (Wp hp)
theorem PU {n:Nat} (h1:1<=n) (h2:n<=20):Ag (upto n)=upto n:=oS (Pm.id h1 h2) (Pm.id h1 h2) (comp_id (Pm.id h1 h2))
inductive Vw (n:Nat) (S:List Int->Prop):List Int->Prop where
 |id:Vw n S (upto n)
 |mul {p g:List Int} :Vw n S p->S g->Vw n S (Aa p g)
 |inv {p g:List Int} :Vw n S p->S g->Vw n S (Aa p (Ag g))
def x4 (n:Nat) (S:List Int->Prop):Prop:=(1<=n/\n<=20)/\ ∀g,S g->Pm n g
theorem Vw.pm {n:Nat} {S:List Int->Prop} (hS:x4 n S) {p:List Int} (h:Vw n S p):Pm n p:=by
 induction h with
 |id=>exact Pm.id hS.1.1 hS.1.2
 |mul _ hg ih=>exact ih.comp (hS.2 _ hg)
 |inv _ hg ih=>exact ih.comp (hS.2 _ hg).inv
theorem Vw.comp {n:Nat} {S:List Int->Prop} (hS:x4 n S) {p q:List Int} (hp:Vw n S p) (hq:Vw n S q):Vw n S (Aa p q):=by
 induction hq with
 |id=>rw [comp_id (hp.pm hS)];exact hp
 |mul hq hg ih=>rw [<-Ek (hp.pm hS) (hq.pm hS) (hS.2 _ hg)];exact .mul ih hg
 |inv hq hg ih=>rw [<-Ek (hp.pm hS) (hq.pm hS) (hS.2 _ hg).inv];exact .inv ih hg
theorem Vw.one {n:Nat} {S:List Int->Prop} (hS:x4 n S) {g:List Int} (hg:S g):Vw n S g:=by
 have:=Vw.mul (n:=n) (S:=S) .id hg
 rwa [id_comp (hS.2 g hg)] at this
theorem Vw.Abf {n:Nat} {S:List Int->Prop} (hS:x4 n S) {g:List Int} (hg:S g):Vw n S (Ag g):=by
 have:=Vw.inv (n:=n) (S:=S) .id hg
 rwa [id_comp (hS.2 g hg).inv] at this
theorem Vw.nC {n:Nat} {S:List Int->Prop} (hS:x4 n S) {p:List Int} (hp:Vw n S p):Vw n S (Ag p):=by
 induction hp with
 |id=>rw [PU hS.1.1 hS.1.2];exact .id
 |mul hq hg ih=>rw [inv_mul (hq.pm hS) (hS.2 _ hg)];exact (Vw.Abf hS hg).comp hS ih
 |inv hq hg ih=>rw [inv_mul (hq.pm hS) (hS.2 _ hg).inv,inv_inv (hS.2 _ hg)];exact (Vw.one hS hg).comp hS ih
theorem Vw.trans {n:Nat} {S S':List Int->Prop} (ZX:x4 n S') (h: ∀g,S g->Vw n S' g) {p:List Int} (hp:Vw n S p):Vw n S' p:=by
 induction hp with
 |id=>exact .id
 |mul _ hg ih=>exact ih.comp ZX (h _ hg)
 |inv _ hg ih=>exact ih.comp ZX ((h _ hg).nC ZX)
abbrev PO:=Option (List Int)
abbrev Row:=List PO
abbrev As:=List Row
def Iv (row:Row):List Int:=(upto row.length).filter λy=>(row.getD y.toNat none).isSome
def Du (T:As):Nat->Nat->List Int->Bool
 |0,_,_=>true
 |k+1,i,p=>match (T.getD i []).getD (It p (i:Int)).toNat none with
  |none=>false
  |some t=>Du T k (i+1) (Aa p (Ag t))
def Hq (row:Row):Nat:=row.countP (·.isNone)
def Ut (x:Int) (s:Row×List Int) (o:PO):Row×List Int:=
 match s.1.getD (It (o.getD []) x).toNat none with
 |some _=>s
 |none=>(s.1.set (It (o.getD []) x).toNat (some (Aa ((s.1.getD x.toNat none).getD []) (o.getD []))),s.2++ [It (o.getD []) x])
def Uj (x:Int) (gs:List PO) (s:Row×List Int):Row×List Int:=gs.foldl (Ut x) s
def Tz (gs:List PO):Nat->List Int->Row->Row
 |0,_,row=>row
 |_+1,[],row=>row
 |f+1,x::q,row=>Tz gs f (Uj x gs (row,q)).2 (Uj x gs (row,q)).1
def Ta (gs:List PO) (row:Row):Row:=Tz gs 100 (Iv row) row
def Oe (row:Row) (y:Int) (g:PO):List Int:=
 Aa (Aa ((row.getD y.toNat none).getD []) (g.getD [])) (Ag ((row.getD (It (g.getD []) y).toNat none).getD []))
def c9 (row:Row) (gs:List PO):List (List Int):=(Iv row).flatMap λy=>gs.map λg=>Oe row y g
def Dz:Nat->Nat->List Int->As×As->As×As
 |0,_,_,s=>s
 |k+1,l,p,s=>
  if Du s.2 (k+1) l p=true then s else
   (c9 (Ta (s.1.getD l []++ [some p]) (s.2.getD l [])) (s.1.getD l []++ [some p])).foldl (λs q=>Dz k (l+1) q s)
    (s.1.set l (s.1.getD l []++ [some p]),s.2.set l (Ta (s.1.getD l []++ [some p]) (s.2.getD l [])))
def Fx (l:Nat) (p:List Int):Prop:= ∀i,i<l->ap p i=i
def Gn (n:Nat) (gs:List PO):List Int->Prop:=Vw n λg=>some g∈gs
structure TL (n l:Nat) (gs:List PO) (row:Row) (H:List Int->Prop):Prop where
 pg: ∀o∈gs,∃g,o=some g/\Pm n g/\Fx l g
 rl:row.length=n
 r0:row.getD l none=some (upto n)
 rt: ∀y t,row.getD y none=some t->Pm n t/\Fx l t/\ap t l=y/\Gn n gs t
 cl: ∀y t g,row.getD y none=some t->some g∈gs->row.getD (ap g y) none≠none
 sg: ∀y t g t',row.getD y none=some t->some g∈gs->row.getD (ap g y) none=some t'->H (Aa (Aa t g) (Ag t'))
def Zj (n:Nat):Nat->Nat->As×As->Prop
 |0,l,s=>s.1.getD l []= []
 |k+1,l,s=>Zj n k (l+1) s/\TL n l (s.1.getD l []) (s.2.getD l []) (λq=>Du s.2 k (l+1) q=true)/\ ∀g,some g∈s.1.getD (l+1) []->Gn n (s.1.getD l []) g
theorem WH {l1 l2:List Nat} (hn:l1.Nodup) (hs: ∀x∈l1,x∈l2) (hl:l2.length<=l1.length): ∀x∈l2,x∈l1:=by
 induction l1 generalizing l2 with
 |nil=>
  intro x hx
  have:l2= []:=List.eq_nil_of_length_eq_zero (by simpa using hl)
  rw [this] at hx;cases hx
 |cons a l ih=>
  intro x hx
  obtain ⟨h1,h2⟩:=List.nodup_cons.1 hn
  have ha:=hs a (by simp)
  by_cases e:x=a
  ·subst e;simp
  ·refine List.mem_cons_of_mem _ (ih (l2:=l2.erase a) h2 (λy hy=>?_) ?_ x ((List.mem_erase_of_ne e).2 hx))
   ·have hya:y≠a:= λe'=>h1 (by rw [<-e'];exact hy)
    exact (List.mem_erase_of_ne hya).2 (hs y (by simp [hy]))
   ·rw [List.length_erase_of_mem ha]
    simp only [List.length_cons] at hl
    omega
theorem DH {n:Nat} {g:List Int} (hg:Pm n g) (D:Nat->Bool) (h: ∀y,y<n->D y=true->D (ap g y)=true) {y:Nat} (hy:y<n) (hD:D y=true): ∃x,x<n/\D x=true/\ap g x=y:=by
 have:=WH (l1:=((List.range n).filter D).map (ap g)) (l2:=(List.range n).filter D) ?_ ?_ (by simp) y (List.mem_filter.2 ⟨List.mem_range.2 hy,hD⟩)
 ·obtain ⟨x,hx,e⟩:=List.mem_map.1 this
  obtain ⟨h1,h2⟩:=List.mem_filter.1 hx
  exact ⟨x,List.mem_range.1 h1,h2,e⟩
 ·refine List.pairwise_map.2 (List.Pairwise.imp_of_mem ?_ (List.nodup_range.filter D))
  intro a b ha hb Ff e
  exact Ff (hg.inj (List.mem_range.1 (List.mem_filter.1 ha).1) (List.mem_range.1 (List.mem_filter.1 hb).1) e)
 ·intro x hx
  obtain ⟨z,hz,rfl⟩:=List.mem_map.1 hx
  obtain ⟨h1,h2⟩:=List.mem_filter.1 hz
  exact List.mem_filter.2 ⟨List.mem_range.2 (hg.lt (List.mem_range.1 h1)),h z (List.mem_range.1 h1) h2⟩
theorem iY {row:Row} {y:Nat} {t:List Int} (h:row.getD y none=some t):y<row.length:=by
 rw [List.getD_eq_getElem?_getD] at h
 refine Classical.byContradiction λhn=>?_
 rw [List.getElem?_eq_none (by omega)] at h
 cases h
theorem TL.pms {n l:Nat} {gs:List PO} {row:Row} {H:List Int->Prop} (h:TL n l gs row H):x4 n λg=>some g∈gs:=by
 refine ⟨?_,λg hg=>?_⟩
 ·have:=(h.rt l _ h.r0).1
  exact ⟨this.n1,this.n2⟩
 ·obtain ⟨g',e,h1,_⟩:=h.pg _ hg
  cases e;exact h1
theorem Fx.inv {n l:Nat} {p:List Int} (hp:Pm n p) (h:Fx l p) (hl:l<=n):Fx l (Ag p):= λi hi=>by
 have:=ey hp (i:=i) (by omega)
 rwa [h i hi] at this
theorem Fx.comp {n l:Nat} {p q:List Int} (hp:Pm n p) (hq:Pm n q) (h1:Fx l p) (h2:Fx l q) (hl:l<=n):Fx l (Aa p q):= λi hi=>by
 rw [Fp hp hq (by omega),h1 i hi,h2 i hi]
theorem Fx.all {n:Nat} {p:List Int} (hp:Pm n p) (h:Fx n p):p=upto n:=hp.ext (Pm.id hp.n1 hp.n2) λi hi=>by rw [h i hi,cK hi]
theorem Fx.div {n l:Nat} {p t:List Int} (hp:Pm n p) (ht:Pm n t) (h1:Fx l p) (h2:Fx l t) (hl:l<n) (e:ap t l=ap p l):Fx (l+1) (Aa p (Ag t)):= λi hi=>by
 rw [Fp hp ht.inv (by omega)]
 by_cases hil:i<l
 ·rw [h1 i hil];exact h2.inv ht (by omega) i hil
 ·have:i=l:=by omega
  subst this
  rw [<-e,ey ht hl]
theorem Oh {n:Nat} (h1:1<=n) (h2:n<=20): ∀(k l:Nat) (s:As×As),l+k=n->Zj n k l s-> ∀p,Pm n p->Fx l p->(Du s.2 k l p=true↔Gn n (s.1.getD l []) p)
 |0,l,s,hk,hc,p,hp,hf=>by
  have hl:l=n:=by omega
  subst hl
  rw [hf.all hp]
  exact ⟨λ_=> .id,λ_=>rfl⟩
 |k+1,l,s,hk,hc,p,hp,hf=>by
  obtain ⟨c1,c2,c3⟩:=hc
  have hS:=c2.pms
  have ih:=Oh h1 h2 k (l+1) s (by omega) c1
  have hS1:x4 n λg=>some g∈s.1.getD (l+1) []:=⟨⟨h1,h2⟩,λg hg=>(c3 g hg).pm hS⟩
  have bX:l<n:=by omega
  constructor
  ·intro h
   simp only [Du] at h
   rw [show (It p (l:Int)).toNat=ap p l from rfl] at h
   split at h
   ·cases h
   ·rename_i t ht
    obtain ⟨t1,t2,t3,t4⟩:=c2.rt _ _ ht
    have AH:=Fx.div hp t1 hf t2 bX t3
    have hg:=((ih _ (hp.comp t1.inv) AH).1 h).trans hS c3
    have:=Vw.comp hS hg t4
    rwa [Ek hp t1.inv t1,Wp t1,comp_id hp] at this
  ·intro h
   have key: ∀q,Gn n (s.1.getD l []) q-> ∃t,(s.2.getD l []).getD (ap q l) none=some t/\Gn n (s.1.getD (l+1) []) (Aa q (Ag t)):=by
    intro q hq
    induction hq with
    |id=>
     refine ⟨upto n,by rw [cK bX];exact c2.r0,?_⟩
     rw [PU h1 h2,comp_id (Pm.id h1 h2)]
     exact .id
    | @mul q g hq hg ihq=>
     obtain ⟨t,e1,e2⟩:=ihq
     have YH:=Vw.pm hS hq
     have Ny:=hS.2 _ hg
     obtain ⟨t1,t2,t3,t4⟩:=c2.rt _ _ e1
     cases e3:(s.2.getD l []).getD (ap g (ap q l)) none with
     |none=>exact absurd e3 (c2.cl _ _ _ e1 hg)
     |some t'=>
      obtain ⟨u1,u2,u3,u4⟩:=c2.rt _ _ e3
      have hsg:=c2.sg _ _ _ _ e1 hg e3
      have hfg:Fx (l+1) (Aa (Aa t g) (Ag t')):=Fx.div (t1.comp Ny) u1 (Fx.comp t1 Ny t2 (by obtain ⟨g',e,_,h⟩:=c2.pg _ hg;cases e;exact h) (by omega)) u2 bX (by rw [u3,Fp t1 Ny bX,t3])
      have AI:=(ih _ ((t1.comp Ny).comp u1.inv) hfg).1 hsg
      refine ⟨t',by rw [Fp YH Ny bX];exact e3,?_⟩
      have:=Vw.comp hS1 e2 AI
      rwa [show Aa (Aa q (Ag t)) (Aa (Aa t g) (Ag t'))=Aa (Aa q g) (Ag t') by
       rw [Ek YH t1.inv ((t1.comp Ny).comp u1.inv),Ek t1 Ny u1.inv,<-Ek t1.inv t1 (Ny.comp u1.inv),Wp t1,id_comp (Ny.comp u1.inv),Ek YH Ny u1.inv]] at this
    | @inv q g hq hg ihq=>
     obtain ⟨t,e1,e2⟩:=ihq
     have YH:=Vw.pm hS hq
     have Ny:=hS.2 _ hg
     obtain ⟨t1,t2,t3,t4⟩:=c2.rt _ _ e1
     have hy:ap q l<n:=YH.lt bX
     obtain ⟨x,hx,hD,he⟩:=DH Ny (λy=>((s.2.getD l []).getD y none).isSome) (λy hy hd=>by
      obtain ⟨t0,ht0⟩:=Option.isSome_iff_exists.1 hd
      exact Option.ne_none_iff_isSome.1 (c2.cl _ _ _ ht0 hg)) hy (by rw [e1];rfl)
     obtain ⟨t',e3⟩:=Option.isSome_iff_exists.1 hD
     obtain ⟨u1,u2,u3,u4⟩:=c2.rt _ _ e3
     have hsg:=c2.sg _ _ _ _ e3 hg (by rw [he];exact e1)
     have hfg:Fx (l+1) (Aa (Aa t' g) (Ag t)):=Fx.div (u1.comp Ny) t1 (Fx.comp u1 Ny u2 (by obtain ⟨g',e,_,h⟩:=c2.pg _ hg;cases e;exact h) (by omega)) t2 bX (by rw [t3,Fp u1 Ny bX,u3,he])
     have AI:=Vw.nC hS1 ((ih _ ((u1.comp Ny).comp t1.inv) hfg).1 hsg)
     have hax:ap (Ag g) (ap q l)=x:=by rw [<-he,ey Ny hx]
     refine ⟨t',by rw [Fp YH Ny.inv bX,hax];exact e3,?_⟩
     have:=Vw.comp hS1 e2 AI
     rwa [show Aa (Aa q (Ag t)) (Ag (Aa (Aa t' g) (Ag t)))=Aa (Aa q (Ag g)) (Ag t') by
      rw [inv_mul (u1.comp Ny) t1.inv,inv_inv t1,inv_mul u1 Ny,Ek YH t1.inv (t1.comp (Ny.inv.comp u1.inv)),<-Ek t1.inv t1 (Ny.inv.comp u1.inv),Wp t1,id_comp (Ny.inv.comp u1.inv),Ek YH Ny.inv u1.inv]] at this
   obtain ⟨t,e1,e2⟩:=key p h
   obtain ⟨t1,t2,t3,t4⟩:=c2.rt _ _ e1
   simp only [Du]
   rw [show (It p (l:Int)).toNat=ap p l from rfl,e1]
   exact (ih _ (hp.comp t1.inv) (Fx.div hp t1 hf t2 bX t3)).2 e2
end Go.Proofs.YtfolipnappekaaaGreat

namespace Go.Proofs.YtfolipnappekaaaGreat
open Go.RowKit
theorem Gz {α:Type} (xs:List α) (i j:Nat) (x d:α):(xs.set i x).getD j d=if i=j/\i<xs.length then x else xs.getD j d:=by
 rw [List.getD_eq_getElem?_getD,List.getElem?_set,List.getD_eq_getElem?_getD]
 by_cases e:i=j
 ·subst e
  by_cases h:i<xs.length
  ·rw [if_pos rfl,if_pos h,if_pos ⟨rfl,h⟩];rfl
  ·rw [if_pos rfl,if_neg h,if_neg (λhh=>h hh.2),List.getElem?_eq_none (by omega)]
 ·rw [if_neg e,if_neg (λhh=>e hh.1)]
theorem Vw.mono {n:Nat} {S S':List Int->Prop} (h: ∀g,S g->S' g) {p:List Int} (hp:Vw n S p):Vw n S' p:=by
 induction hp with
 |id=>exact .id
 |mul _ hg ih=>exact .mul ih (h _ hg)
 |inv _ hg ih=>exact .inv ih (h _ hg)
structure Pf (n l:Nat) (gs:List PO) (row:Row):Prop where
 rl:row.length=n
 r0:row.getD l none=some (upto n)
 rt: ∀y t,row.getD y none=some t->Pm n t/\Fx l t/\ap t l=y/\Gn n gs t
def PG (n l:Nat) (gs:List PO):Prop:= ∀o∈gs,∃g,o=some g/\Pm n g/\Fx l g
structure Ext (n l:Nat) (gs:List PO) (row:Row) (q:List Int) (s':Row×List Int):Prop where
 ok:Pf n l gs s'.1
 mono: ∀y t,row.getD y none=some t->s'.1.getD y none=some t
 phi:s'.2.length+Hq s'.1=q.length+Hq row
 qM: ∀y∈q,y∈s'.2
 new: ∀y∈s'.2,y∈q\/ ∃yn:Nat,y=yn/\s'.1.getD yn none≠none
 src: ∀y:Nat,s'.1.getD y none≠none->row.getD y none≠none\/(y:Int)∈s'.2
theorem Ext.refl {n l:Nat} {gs:List PO} {row:Row} {q:List Int} (h:Pf n l gs row):Ext n l gs row q (row,q):=⟨h,λ_ _ h=>h,rfl,λ_ h=>h,λ_ h=> .inl h,λ_ h=> .inl h⟩
theorem bk {a b:Row} (h: ∀y t,a.getD y none=some t->b.getD y none=some t) {y:Nat} (hy:a.getD y none≠none):b.getD y none≠none:=by
 cases e:a.getD y none with
 |none=>exact absurd e hy
 |some t=>rw [h y t e];simp
theorem Ext.trans {n l:Nat} {gs:List PO} {row:Row} {q:List Int} {s1 s2:Row×List Int} (h:Ext n l gs row q s1) (k:Ext n l gs s1.1 s1.2 s2):Ext n l gs row q s2:=by
 refine ⟨k.ok,λy t e=>k.mono y t (h.mono y t e),k.phi.trans h.phi,λy hy=>k.qM y (h.qM y hy),λy hy=>?_,λy hy=>?_⟩
 ·rcases k.new y hy with h1|h1
  ·rcases h.new y h1 with h2|⟨yn,h2,h3⟩
   ·exact .inl h2
   ·exact .inr ⟨yn,h2,bk k.mono h3⟩
  ·exact .inr h1
 ·rcases k.src y hy with h1|h1
  ·exact (h.src y h1).imp id λh2=>k.qM _ h2
  ·exact .inr h1
theorem kQ {row:Row} {i:Nat} {t:List Int} (h:row.getD i none=none) (hi:i<row.length):Hq (row.set i (some t))+1=Hq row:=by
 unfold Hq
 have e:row[i]=none:=by
  rw [List.getD_eq_getElem?_getD,List.getElem?_eq_getElem hi] at h
  exact h
 have h1:=List.countP_set (p:= λo:PO=>o.isNone) (l:=row) (i:=i) (a:=some t) hi
 have CB:0<row.countP (·.isNone):=List.countP_pos_iff.2 ⟨row[i],List.getElem_mem hi,by rw [e];rfl⟩
 rw [h1,e]
 simp
 omega
theorem WG {n l:Nat} {gs:List PO} (bX:l<n) (hg:PG n l gs) {row:Row} {q:List Int} (h:Pf n l gs row) {x:Nat} {t:List Int} (hx:row.getD x none=some t) {g:List Int} (ho:some g∈gs):
  Ext n l gs row q (Ut (x:Int) (row,q) (some g))/\(Ut (x:Int) (row,q) (some g)).1.getD (ap g x) none≠none:=by
 obtain ⟨g',e,Ny,XV⟩:=hg _ ho
 cases e
 obtain ⟨t1,t2,t3,t4⟩:=h.rt _ _ hx
 have TW:x<n:=by rw [<-h.rl];exact iY hx
 obtain ⟨a1,a2⟩:=Ny.Ur TW
 unfold Ut
 simp only [Option.getD_some,a1,Int.toNat_natCast]
 cases e:row.getD (ap g x) none with
 |some u=>exact ⟨Ext.refl h,by simp only;rw [e];simp⟩
 |none=>
  simp only [hx,Option.getD_some]
  have hl:ap g x<row.length:=by rw [h.rl];exact a2
  have hS:x4 n λg=>some g∈gs:=⟨⟨t1.n1,t1.n2⟩,λg Mo=>by obtain ⟨g',e,h1,_⟩:=hg _ Mo;cases e;exact h1⟩
  have Ad: ∀y,(row.set (ap g x) (some (Aa t g))).getD y none=if ap g x=y/\ap g x<row.length then some (Aa t g) else row.getD y none:= λy=>Gz _ _ _ _ _
  have Ff: ∀y u,row.getD y none=some u->ap g x≠y:= λy u hu e'=>by rw [<-e',e] at hu;cases hu
  refine ⟨⟨⟨by simp [h.rl],?_,λy u hu=>?_⟩,λy u hu=>?_,?_,λy hy=>List.mem_append_left _ hy,λy hy=>?_,λy hy=>?_⟩,?_⟩
  ·rw [Ad,if_neg (λhh=>Ff l _ h.r0 hh.1)];exact h.r0
  ·rw [Ad] at hu
   split at hu
   ·rename_i hc
    cases hu
    exact ⟨t1.comp Ny,Fx.comp t1 Ny t2 XV (by omega),by rw [Fp t1 Ny bX,t3];exact hc.1, .mul t4 ho⟩
   ·exact h.rt y u hu
  ·show (row.set (ap g x) (some (Aa t g))).getD y none=some u
   rw [Ad,if_neg (λhh=>Ff y u hu hh.1)];exact hu
  ·have:=kQ (t:=Aa t g) e hl
   simp only [List.length_append,List.length_cons,List.length_nil]
   omega
  ·rcases List.mem_append.1 hy with hy|hy
   ·exact .inl hy
   ·simp only [List.mem_singleton] at hy
    exact .inr ⟨ap g x,hy,by show (row.set (ap g x) (some (Aa t g))).getD (ap g x) none≠none;rw [Ad,if_pos ⟨rfl,hl⟩];simp⟩
  ·have hy:(row.set (ap g x) (some (Aa t g))).getD y none≠none:=hy
   rw [Ad] at hy
   split at hy
   ·rename_i hc
    exact .inr (by show (y:Int)∈q++ [(ap g x:Int)];rw [<-hc.1];simp)
   ·exact .inl hy
  ·show (row.set (ap g x) (some (Aa t g))).getD (ap g x) none≠none
   rw [Ad,if_pos ⟨rfl,hl⟩];simp
theorem RJ {n l:Nat} {gs:List PO} (bX:l<n) (hg:PG n l gs): ∀(XI:List PO) {row:Row} {q:List Int},(∀o∈XI,o∈gs)->Pf n l gs row-> ∀ {x:Nat} {t:List Int},row.getD x none=some t->
  Ext n l gs row q (Uj (x:Int) XI (row,q))/\ ∀g,some g∈XI->(Uj (x:Int) XI (row,q)).1.getD (ap g x) none≠none
 | [],row,q,_,h,x,t,hx=>⟨Ext.refl h,λg hg=>by cases hg⟩
 |o::XI,row,q,hs,h,x,t,hx=>by
  obtain ⟨g,rfl,_,_⟩:=hg o (hs o (by simp))
  obtain ⟨e1,e2⟩:=WG (q:=q) bX hg h hx (hs (some g) (by simp))
  obtain ⟨f1,f2⟩:=RJ bX hg XI (q:=(Ut (x:Int) (row,q) (some g)).2) (λo ho=>hs o (by simp [ho])) e1.ok (e1.mono x t hx)
  have hb:Uj (x:Int) (some g::XI) (row,q)=Uj (x:Int) XI ((Ut (x:Int) (row,q) (some g)).1,(Ut (x:Int) (row,q) (some g)).2):=rfl
  rw [hb]
  refine ⟨e1.trans f1,λg' Mo=>?_⟩
  rcases List.mem_cons.1 Mo with e|Mo
  ·cases e;exact bk f1.mono e2
  ·exact f2 g' Mo
def IB (gs:List PO) (q:List Int) (row:Row):Prop:=
 (∀y∈q,∃yn:Nat,y=yn/\row.getD yn none≠none)/\ ∀y:Nat,row.getD y none≠none->(y:Int)∈q\/ ∀g,some g∈gs->row.getD (ap g y) none≠none
theorem DW {n l:Nat} {gs:List PO} (bX:l<n) (hg:PG n l gs) {x:Int} {q:List Int} {row:Row} (h:Pf n l gs row) (hq:IB gs (x::q) row):
  Ext n l gs row q (Uj x gs (row,q))/\IB gs (Uj x gs (row,q)).2 (Uj x gs (row,q)).1/\ ∃(xn:Nat) (t:List Int),x=xn/\row.getD xn none=some t:=by
 obtain ⟨xn,rfl,hx⟩:=hq.1 x (by simp)
 cases e:row.getD xn none with
 |none=>exact absurd e hx
 |some t=>
  obtain ⟨e1,e2⟩:=RJ bX hg gs (q:=q) (λo ho=>ho) h e
  refine ⟨e1,⟨λy hy=>?_,λy hy=>?_⟩,xn,t,rfl,e⟩
  ·rcases e1.new y hy with h1|h1
   ·obtain ⟨yn,h2,h3⟩:=hq.1 y (by simp [h1])
    exact ⟨yn,h2,bk e1.mono h3⟩
   ·exact h1
  ·rcases e1.src y hy with h1|h1
   ·rcases hq.2 y h1 with h2|h2
    ·rcases List.mem_cons.1 h2 with h2|h2
     ·have:y=xn:=by omega
      subst this
      exact .inr λg Mo=>e2 g Mo
     ·exact .inl (e1.qM _ h2)
    ·exact .inr λg Mo=>bk e1.mono (h2 g Mo)
   ·exact .inl h1
theorem RR {n l:Nat} {gs:List PO} (bX:l<n) (hg:PG n l gs): ∀(f:Nat) (q:List Int) (row:Row),q.length+Hq row<=f->Pf n l gs row->IB gs q row->
  Pf n l gs (Tz gs f q row)/\(∀y t,row.getD y none=some t->(Tz gs f q row).getD y none=some t)/\ ∀y t g,(Tz gs f q row).getD y none=some t->some g∈gs->(Tz gs f q row).getD (ap g y) none≠none
 |0,q,row,hf,h,hq=>by
  have:q= []:=List.eq_nil_of_length_eq_zero (by omega)
  subst this
  exact ⟨h,λ_ _ h=>h,λy t g e Mo=>by
   rcases hq.2 y (by rw [show row.getD y none=some t from e];simp) with h1|h1
   ·cases h1
   ·exact h1 g Mo⟩
 |f+1,[],row,hf,h,hq=>⟨h,λ_ _ h=>h,λy t g e Mo=>by
   rcases hq.2 y (by rw [show row.getD y none=some t from e];simp) with h1|h1
   ·cases h1
   ·exact h1 g Mo⟩
 |f+1,x::q,row,hf,h,hq=>by
  obtain ⟨e1,e2,_⟩:=DW bX hg h hq
  obtain ⟨r1,r2,r3⟩:=RR bX hg f _ _ (by have:=e1.phi;simp only [List.length_cons] at hf;omega) e1.ok e2
  exact ⟨r1,λy t e=>r2 y t (e1.mono y t e),r3⟩
theorem Ok {row:Row} {y:Int} :y∈Iv row↔ ∃yn:Nat,y=yn/\row.getD yn none≠none:=by
 unfold Iv
 rw [List.mem_filter,Jx]
 constructor
 ·rintro ⟨h1,h2⟩
  exact ⟨y.toNat,by omega,Option.ne_none_iff_isSome.2 h2⟩
 ·rintro ⟨yn,rfl,h⟩
  obtain ⟨t,ht⟩:=Option.ne_none_iff_exists'.1 h
  exact ⟨by have:=iY ht;omega,by simpa using Option.ne_none_iff_isSome.1 h⟩
theorem vH (row:Row):(Iv row).length<=row.length:=by
 unfold Iv
 refine Nat.le_trans (List.length_filter_le _ _) (by simp [upto])
theorem dD (row:Row):Hq row<=row.length:=List.countP_le_length
theorem yY {n l:Nat} {gs:List PO} (bX:l<n) (h2:n<=20) (hg:PG n l gs) {row:Row} (h:Pf n l gs row):
  Pf n l gs (Ta gs row)/\(∀y t,row.getD y none=some t->(Ta gs row).getD y none=some t)/\ ∀y t g,(Ta gs row).getD y none=some t->some g∈gs->(Ta gs row).getD (ap g y) none≠none:=
 RR bX hg 100 _ _ (by have:=vH row;have:=dD row;have:=h.rl;omega) h ⟨λy hy=>Ok.1 hy,λy hy=> .inl (Ok.2 ⟨y,rfl,hy⟩)⟩
theorem xw {n l:Nat} {gs:List PO} (bX:l<n) (hg:PG n l gs): ∀(f:Nat) (q:List Int) (row:Row),q.length+Hq row<=f->Pf n l gs row->IB gs q row->Tz gs f q row=Tz gs (q.length+Hq row) q row
 |0,q,row,hf,_,_=>by
  have:q.length+Hq row=0:=by omega
  rw [this]
 |f+1,[],row,hf,_,_=>by
  cases h:([]:List Int).length+Hq row with
  |zero=>rfl
  |succ m=>rfl
 |f+1,x::q,row,hf,h,hq=>by
  obtain ⟨e1,e2,_⟩:=DW bX hg h hq
  have VC:=e1.phi
  have:(x::q).length+Hq row=(q.length+Hq row)+1:=by simp only [List.length_cons];omega
  rw [this]
  simp only [Tz]
  rw [xw bX hg f _ _ (by simp only [List.length_cons] at hf;omega) e1.ok e2,VC]
def qQ (row:Row):Nat:=row.countP (·.isSome)
theorem kf: ∀(a b:Row),a.length=b.length->(∀y t,a.getD y none=some t->b.getD y none=some t)->qQ a<=qQ b/\(qQ a=qQ b->a=b)
 | [],[],_,_=>⟨Nat.le_refl _,λ_=>rfl⟩
 | [],_::_,h,_=>by simp at h
 |_::_,[],h,_=>by simp at h
 |x::a,y::b,h,hm=>by
  obtain ⟨h1,h2⟩:=kf a b (by simpa using h) λi t e=>by simpa using hm (i+1) t (by simpa using e)
  unfold qQ at h1 h2⊢
  cases x with
  |none=>
   cases y with
   |none=>simp only [List.countP_cons];exact ⟨by simpa using h1,λe=>by rw [h2 (by simpa using e)]⟩
   |some u=>
    simp only [List.countP_cons,Option.isSome_none,Option.isSome_some]
    simp only [if_true,Bool.false_eq_true,if_false]
    exact ⟨by omega,λe=>by omega⟩
  |some t=>
   have:=hm 0 t (by simp)
   simp only [List.getD_cons_zero] at this
   subst this
   simp only [List.countP_cons]
   exact ⟨by simpa using h1,λe=>by rw [h2 (by simpa using e)]⟩
def dG (T:As):Nat->Nat->Nat
 |0,_=>0
 |k+1,l=>qQ (T.getD l [])+dG T k (l+1)
def GBf:Nat->Nat->As×As->Prop
 |0,_,_=>True
 |k+1,l,s=>GBf k (l+1) s/\(s.1.getD l []).length<=dG s.2 (k+1) l
structure Qg (l0:Nat) (s s':As×As):Prop where
 Afi:s'.1.length=s.1.length
 oX:s'.2.length=s.2.length
 low: ∀i,i<l0->s'.1.getD i []=s.1.getD i []/\s'.2.getD i []=s.2.getD i []
 sS: ∀i o,o∈s.1.getD i []->o∈s'.1.getD i []
 qw: ∀i y t,(s.2.getD i []).getD y none=some t->(s'.2.getD i []).getD y none=some t
 RQ: ∀i,(s'.2.getD i []).length=(s.2.getD i []).length
theorem Qg.refl (l0:Nat) (s:As×As):Qg l0 s s:=⟨rfl,rfl,λ_ _=>⟨rfl,rfl⟩,λ_ _ h=>h,λ_ _ _ h=>h,λ_=>rfl⟩
theorem Qg.trans {l0 l1:Nat} {a b c:As×As} (h:Qg l0 a b) (k:Qg l1 b c) (hl:l0<=l1):Qg l0 a c:=
 ⟨k.Afi.trans h.Afi,k.oX.trans h.oX,λi hi=>⟨(k.low i (by omega)).1.trans (h.low i hi).1,(k.low i (by omega)).2.trans (h.low i hi).2⟩,λi o ho=>k.sS i o (h.sS i o ho),λi y t e=>k.qw i y t (h.qw i y t e),λi=>(k.RQ i).trans (h.RQ i)⟩
theorem Qg.Ex {l0 l1:Nat} {a b:As×As} (h:Qg l1 a b) (hl:l0<=l1):Qg l0 a b:=(Qg.refl l0 a).trans h hl
theorem Xx {T T':As} : ∀(k l:Nat) (p:List Int),(∀i,l<=i->i<l+k->T'.getD i []=T.getD i [])->Du T' k l p=Du T k l p
 |0,_,_,_=>rfl
 |k+1,l,p,h=>by
  simp only [Du]
  rw [h l (Nat.le_refl _) (by omega)]
  split
  ·rfl
  ·exact Xx k (l+1) _ λi h1 h2=>h i (by omega) (by omega)
theorem Ou {n:Nat} {s s':As×As} : ∀(k l:Nat),(∀i,l<=i->s'.1.getD i []=s.1.getD i []/\s'.2.getD i []=s.2.getD i [])->Zj n k l s->Zj n k l s'
 |0,l,h,hc=>by simp only [Zj] at hc⊢;rw [(h l (Nat.le_refl _)).1];exact hc
 |k+1,l,h,hc=>by
  simp only [Zj] at hc⊢
  obtain ⟨c1,c2,c3⟩:=hc
  refine ⟨Ou k (l+1) (λi hi=>h i (by omega)) c1,?_,?_⟩
  ·rw [(h l (Nat.le_refl _)).1,(h l (Nat.le_refl _)).2]
   have e:(λq=>Du s'.2 k (l+1) q=true)= λq=>Du s.2 k (l+1) q=true:=funext λq=>by rw [Xx k (l+1) q λi h1 h2=>(h i (by omega)).2]
   rw [e];exact c2
  ·rw [(h (l+1) (by omega)).1,(h l (Nat.le_refl _)).1];exact c3
theorem tM {T T':As} : ∀(k l:Nat),(∀i,l<=i->T'.getD i []=T.getD i [])->dG T' k l=dG T k l
 |0,_,_=>rfl
 |k+1,l,h=>by simp only [dG];rw [h l (Nat.le_refl _),tM k (l+1) λi hi=>h i (by omega)]
theorem Wk {s s':As×As} : ∀(k l:Nat),(∀i,l<=i->s'.1.getD i []=s.1.getD i []/\s'.2.getD i []=s.2.getD i [])->GBf k l s->GBf k l s'
 |0,_,_,_=>trivial
 |k+1,l,h,hg=>⟨Wk k (l+1) (λi hi=>h i (by omega)) hg.1,by
  rw [(h l (Nat.le_refl _)).1,tM (k+1) l λi hi=>(h i hi).2];exact hg.2⟩
theorem pB {T T':As} (hl: ∀i,(T'.getD i []).length=(T.getD i []).length) (hm: ∀i y t,(T.getD i []).getD y none=some t->(T'.getD i []).getD y none=some t):
  ∀(k l:Nat),dG T k l<=dG T' k l/\(dG T k l=dG T' k l-> ∀i,l<=i->i<l+k->T'.getD i []=T.getD i [])
 |0,l=>⟨Nat.le_refl _,λ_ i h1 h2=>by omega⟩
 |k+1,l=>by
  obtain ⟨h1,h2⟩:=pB hl hm k (l+1)
  obtain ⟨h3,h4⟩:=kf (T.getD l []) (T'.getD l []) (hl l).symm (hm l)
  simp only [dG]
  refine ⟨by omega,λe i g1 g2=>?_⟩
  by_cases hi:i=l
  ·subst hi;exact (h4 (by omega)).symm
  ·exact h2 (by omega) i (by omega) (by omega)
def V (n k l:Nat) (s:As×As):Prop:=s.1.length=n/\s.2.length=n/\Zj n k l s/\GBf k l s
structure NB (n k l:Nat) (s:As×As) (p:List Int) (s':As×As):Prop where
 v:V n k l s'
 grow:Qg l s s'
 Ab5:Gn n (s'.1.getD l []) p
 gens: ∀o∈s'.1.getD l [],o∈s.1.getD l []\/o=some p
theorem TL.row {n l:Nat} {gs:List PO} {row:Row} {H:List Int->Prop} (h:TL n l gs row H):Pf n l gs row:=⟨h.rl,h.r0,h.rt⟩
theorem dX {row:Row} {y:Nat} {t g t':List Int} (h1:row.getD y none=some t) (h2:row.getD (ap g y) none=some t'):Oe row (y:Int) (some g)=Aa (Aa t g) (Ag t'):=by
 unfold Oe
 rw [Int.toNat_natCast,h1,Option.getD_some,Option.getD_some,show (It g (y:Int)).toNat=ap g y from rfl,h2,Option.getD_some]
theorem kN {n l:Nat} {gs:List PO} {row:Row} (hg:PG n l gs) (_h:Pf n l gs row) (hc: ∀y t g,row.getD y none=some t->some g∈gs->row.getD (ap g y) none≠none) {q:List Int} :
  q∈c9 row gs↔ ∃(y:Nat) (t g t':List Int),row.getD y none=some t/\some g∈gs/\row.getD (ap g y) none=some t'/\q=Aa (Aa t g) (Ag t'):=by
 unfold c9
 rw [List.mem_flatMap]
 constructor
 ·rintro ⟨y,hy,hq⟩
  obtain ⟨o,ho,rfl⟩:=List.mem_map.1 hq
  obtain ⟨yn,rfl,YL⟩:=Ok.1 hy
  obtain ⟨t,ht⟩:=Option.ne_none_iff_exists'.1 YL
  obtain ⟨g,rfl,Ny,_⟩:=hg o ho
  obtain ⟨t',td⟩:=Option.ne_none_iff_exists'.1 (hc yn t g ht ho)
  exact ⟨yn,t,g,t',ht,ho,td,dX ht td⟩
 ·rintro ⟨y,t,g,t',h1,h2,h3,rfl⟩
  obtain ⟨g',e,Ny,_⟩:=hg _ h2
  cases e
  exact ⟨(y:Int),Ok.2 ⟨y,rfl,by rw [h1];simp⟩,List.mem_map.2 ⟨some g,h2,dX h1 h3⟩⟩
theorem um {n:Nat} (h1:1<=n) (h2:n<=20): ∀(k l:Nat) (p:List Int) (s:As×As),l+k=n->V n k l s->Pm n p->Fx l p->NB n k l s p (Dz k l p s)
 |0,l,p,s,hk,hv,hp,hf=>by
  have hl:l=n:=by omega
  subst hl
  exact ⟨hv,Qg.refl _ _,by rw [hf.all hp];exact .id,λo ho=> .inl ho⟩
 |k+1,l,p,s,hk,hv,hp,hf=>by
  have bX:l<n:=by omega
  obtain ⟨v1,v2,hc,sZ⟩:=hv
  have fJ:=hc
  obtain ⟨c1,c2,c3⟩:=hc
  unfold Dz
  by_cases hh:Du s.2 (k+1) l p=true
  ·rw [if_pos hh]
   exact ⟨⟨v1,v2,fJ,sZ⟩,Qg.refl _ _,(Oh h1 h2 (k+1) l s hk fJ p hp hf).1 hh,λo ho=> .inl ho⟩
  rw [if_neg hh]
  generalize j5:s.1.getD l []++ [some p]=gs
  have Ub:some p∈gs:=by rw [<-j5];simp
  have Kq: ∀o∈s.1.getD l [],o∈gs:= λo ho=>by rw [<-j5];exact List.mem_append_left _ ho
  have hg:PG n l gs:= λo ho=>by
   rw [<-j5] at ho
   rcases List.mem_append.1 ho with ho|ho
   ·exact c2.pg o ho
   ·rw [List.mem_singleton] at ho;exact ⟨p,ho,hp,hf⟩
  have Aev:Pf n l gs (s.2.getD l []):=⟨c2.rl,c2.r0,λy t e=>⟨(c2.rt y t e).1,(c2.rt y t e).2.1,(c2.rt y t e).2.2.1,(c2.rt y t e).2.2.2.mono λg hg=>Kq _ hg⟩⟩
  obtain ⟨r1,r2,r3⟩:=yY bX h2 hg Aev
  generalize hR:Ta gs (s.2.getD l [])=R at r1 r2 r3
  have hS:x4 n λg=>some g∈gs:=⟨⟨h1,h2⟩,λg Mo=>by obtain ⟨g',e,h,_⟩:=hg _ Mo;cases e;exact h⟩
  have pL: ∀i,((s.1.set l gs).getD i []=if i=l then gs else s.1.getD i [])/\(s.2.set l R).getD i []=if i=l then R else s.2.getD i []:= λi=>by
   rw [Gz,Gz]
   by_cases e:l=i
   ·subst e;rw [if_pos ⟨rfl,by omega⟩,if_pos rfl,if_pos ⟨rfl,by omega⟩,if_pos rfl];exact ⟨rfl,rfl⟩
   ·rw [if_neg (λhh=>e hh.1),if_neg (Ne.symm e),if_neg (λhh=>e hh.1),if_neg (Ne.symm e)];exact ⟨rfl,rfl⟩
  have qL: ∀i,l+1<=i->(s.1.set l gs).getD i []=s.1.getD i []/\(s.2.set l R).getD i []=s.2.getD i []:= λi hi=>by
   rw [(pL i).1,(pL i).2,if_neg (by omega),if_neg (by omega)];exact ⟨rfl,rfl⟩
  have iv:V n k (l+1) (s.1.set l gs,s.2.set l R):=⟨by simpa using v1,by simpa using v2,Ou k (l+1) qL c1,Wk k (l+1) qL sZ.1⟩
  have gR:Qg l s (s.1.set l gs,s.2.set l R):=by
   refine ⟨by simp,by simp,λi hi=>?_,λi o ho=>?_,λi y t e=>?_,λi=>?_⟩
   ·rw [(pL i).1,(pL i).2,if_neg (by omega),if_neg (by omega)];exact ⟨rfl,rfl⟩
   ·rw [(pL i).1]
    split
    ·rename_i hi;subst hi;exact Kq o ho
    ·exact ho
   ·rw [(pL i).2]
    split
    ·rename_i hi;subst hi;exact r2 y t e
    ·exact e
   ·rw [(pL i).2]
    split
    ·rename_i hi;subst hi;rw [r1.rl,c2.rl]
    ·rfl
  have hq: ∀q∈c9 R gs,Pm n q/\Fx (l+1) q/\Gn n gs q:= λq hq=>by
   obtain ⟨y,t,g,t',e1,e2,e3,rfl⟩:=(kN hg r1 r3).1 hq
   obtain ⟨t1,t2,t3,t4⟩:=r1.rt _ _ e1
   obtain ⟨u1,u2,u3,u4⟩:=r1.rt _ _ e3
   obtain ⟨g',e,Ny,XV⟩:=hg _ e2
   cases e
   exact ⟨(t1.comp Ny).comp u1.inv,Fx.div (t1.comp Ny) u1 (Fx.comp t1 Ny t2 XV (by omega)) u2 bX (by rw [u3,Fp t1 Ny bX,t3]),Vw.comp hS (.mul t4 e2) (Vw.nC hS u4)⟩
  have fold: ∀(qs:List (List Int)) (s1:As×As),(∀q∈qs,Pm n q/\Fx (l+1) q)->V n k (l+1) s1->
    V n k (l+1) (qs.foldl (λs q=>Dz k (l+1) q s) s1)/\Qg (l+1) s1 (qs.foldl (λs q=>Dz k (l+1) q s) s1)/\
     (∀q∈qs,Gn n ((qs.foldl (λs q=>Dz k (l+1) q s) s1).1.getD (l+1) []) q)/\ ∀o∈(qs.foldl (λs q=>Dz k (l+1) q s) s1).1.getD (l+1) [],o∈s1.1.getD (l+1) []\/ ∃q∈qs,o=some q:=by
   intro qs
   induction qs with
   |nil=>exact λs1 _ hv=>⟨hv,Qg.refl _ _,(λq hq=>by cases hq),λo ho=>Or.inl ho⟩
   |cons q qs ih=>
    intro s1 JF hv
    have ha:=um h1 h2 k (l+1) q s1 (by omega) hv (JF q (by simp)).1 (JF q (by simp)).2
    obtain ⟨g1,g2,g3,g4⟩:=ih (Dz k (l+1) q s1) (λq' cD=>JF q' (by simp [cD])) ha.v
    simp only [List.foldl_cons]
    refine ⟨g1,ha.grow.trans g2 (Nat.le_refl _),λq' cD=>?_,λo ho=>?_⟩
    ·rcases List.mem_cons.1 cD with rfl|cD
     ·exact ha.Ab5.mono λg hg=>g2.sS _ _ hg
     ·exact g3 q' cD
    ·rcases g4 o ho with h|⟨q',cD,h⟩
     ·rcases ha.gens o h with h|h
      ·exact .inl h
      ·exact .inr ⟨q,by simp,h⟩
     ·exact .inr ⟨q',by simp [cD],h⟩
  obtain ⟨f1,f2,f3,f4⟩:=fold (c9 R gs) (s.1.set l gs,s.2.set l R) (λq h=>⟨(hq q h).1,(hq q h).2.1⟩) iv
  generalize (c9 R gs).foldl (λs q=>Dz k (l+1) q s) (s.1.set l gs,s.2.set l R)=s' at f1 f2 f3 f4
  obtain ⟨w1,w2,w3,w4⟩:=f1
  have el1:s'.1.getD l []=gs:=by rw [(f2.low l (by omega)).1,(pL l).1,if_pos rfl]
  have el2:s'.2.getD l []=R:=by rw [(f2.low l (by omega)).2,(pL l).2,if_pos rfl]
  have oF:=gR.trans f2 (by omega)
  have Aae:TL n l gs R (λq=>Du s'.2 k (l+1) q=true):=⟨hg,r1.rl,r1.r0,r1.rt,r3,λy t g t' e1 e2 e3=>by
   have hm:=(kN hg r1 r3).2 ⟨y,t,g,t',e1,e2,e3,rfl⟩
   exact (Oh h1 h2 k (l+1) s' (by omega) w3 _ (hq _ hm).1 (hq _ hm).2.1).2 (f3 _ hm)⟩
  have ya:Zj n (k+1) l s':=⟨w3,by rw [el1,el2];exact Aae,λg Mo=>by
   rw [el1]
   rcases f4 _ Mo with h|⟨q,cD,h⟩
   ·rw [(qL (l+1) (Nat.le_refl _)).1] at h
    exact (c3 g h).mono λg hg=>Kq _ hg
   ·cases h;exact (hq _ cD).2.2⟩
  have Vf:Gn n (s'.1.getD l []) p:=by rw [el1];exact Vw.one hS Ub
  refine ⟨⟨w1,w2,ya,w4,?_⟩,oF,Vf,λo ho=>?_⟩
  ·have hold:=sZ.2
   obtain ⟨p1,p2⟩:=pB oF.RQ oF.qw (k+1) l
   have Ff:dG s.2 (k+1) l≠dG s'.2 (k+1) l:= λe=>by
    have:=Xx (k+1) l p (p2 e)
    rw [(Oh h1 h2 (k+1) l s' hk ya p hp hf).2 Vf] at this
    exact hh this.symm
   rw [el1,<-j5,List.length_append,List.length_singleton]
   omega
  ·rw [el1,<-j5] at ho
   rcases List.mem_append.1 ho with ho|ho
   ·exact .inl ho
   ·rw [List.mem_singleton] at ho;exact .inr ho
end Go.Proofs.YtfolipnappekaaaGreat

namespace Go.Proofs.YtfolipnappekaaaGreat
open Go.RowKit
theorem RG {n l:Nat} {gs:List PO} {R:Row} (bX:l<n) (hg:PG n l gs) (r1:Pf n l gs R) (r3: ∀y t g,R.getD y none=some t->some g∈gs->R.getD (ap g y) none≠none): ∀q∈c9 R gs,Pm n q/\Fx (l+1) q:=by
 intro q hq
 obtain ⟨y,t,g,t',e1,e2,e3,rfl⟩:=(kN hg r1 r3).1 hq
 obtain ⟨t1,t2,t3,t4⟩:=r1.rt _ _ e1
 obtain ⟨u1,u2,u3,u4⟩:=r1.rt _ _ e3
 obtain ⟨g',e,Ny,XV⟩:=hg _ e2
 cases e
 exact ⟨(t1.comp Ny).comp u1.inv,Fx.div (t1.comp Ny) u1 (Fx.comp t1 Ny t2 XV (by omega)) u2 bX (by rw [u3,Fp t1 Ny bX,t3])⟩
theorem V.lower {n k l:Nat} {s:As×As} (h:V n (k+1) l s) (gs:List PO) (R:Row):V n k (l+1) (s.1.set l gs,s.2.set l R):=by
 obtain ⟨v1,v2,hc,sZ⟩:=h
 have qL: ∀i,l+1<=i->(s.1.set l gs).getD i []=s.1.getD i []/\(s.2.set l R).getD i []=s.2.getD i []:= λi hi=>by
  rw [Gz,Gz,if_neg (by omega),if_neg (by omega)];exact ⟨rfl,rfl⟩
 exact ⟨by simpa using v1,by simpa using v2,Ou k (l+1) qL hc.1,Wk k (l+1) qL sZ.1⟩
theorem GM {n k l:Nat} (h1:1<=n) (h2:n<=20) (hk:l+k=n): ∀(qs:List (List Int)) (s1:As×As),(∀q∈qs,Pm n q/\Fx l q)->V n k l s1->
  V n k l (qs.foldl (λs q=>Dz k l q s) s1)/\Qg l s1 (qs.foldl (λs q=>Dz k l q s) s1)
 | [],s1,_,hv=>⟨hv,Qg.refl _ _⟩
 |q::qs,s1,JF,hv=>by
  have ha:=um h1 h2 k l q s1 hk hv (JF q (by simp)).1 (JF q (by simp)).2
  obtain ⟨g1,g2⟩:=GM h1 h2 hk qs (Dz k l q s1) (λq' cD=>JF q' (by simp [cD])) ha.v
  exact ⟨g1,ha.grow.trans g2 (Nat.le_refl _)⟩
theorem RI {n:Nat} {s:As×As} : ∀(k l:Nat),Zj n k l s->dG s.2 k l<=n*k
 |0,_,_=>by simp [dG]
 |k+1,l,hc=>by
  have h1:=RI k (l+1) hc.1
  have h2:qQ (s.2.getD l [])<=n:=by
   have:=hc.2.1.rl
   have h3:qQ (s.2.getD l [])<=(s.2.getD l []).length:=List.countP_le_length
   omega
  simp only [dG]
  rw [Nat.mul_succ]
  omega
theorem GQ {n k l:Nat} {s:As×As} (h2:n<=20) (hk:l+(k+1)=n) (h:V n (k+1) l s):(s.1.getD l []).length<=400:=by
 have h3:=h.2.2.2.2
 have h4:=RI (k+1) l h.2.2.1
 have h5:n*(k+1)<=20*20:=Nat.mul_le_mul h2 (by omega)
 omega
theorem V.lvl {n k l:Nat} {s:As×As} (h:V n (k+1) l s):TL n l (s.1.getD l []) (s.2.getD l []) (λq=>Du s.2 k (l+1) q=true):=h.2.2.1.2.1
theorem V.pg {n k l:Nat} {s:As×As} (h:V n (k+1) l s) {p:List Int} (hp:Pm n p) (hf:Fx l p):PG n l (s.1.getD l []++ [some p]):= λo ho=>by
 rcases List.mem_append.1 ho with ho|ho
 ·exact h.lvl.pg o ho
 ·rw [List.mem_singleton] at ho;exact ⟨p,ho,hp,hf⟩
theorem V.Al3 {n k l:Nat} {s:As×As} (h:V n (k+1) l s) (p:List Int):Pf n l (s.1.getD l []++ [some p]) (s.2.getD l []):=
 ⟨h.lvl.rl,h.lvl.r0,λy t e=>⟨(h.lvl.rt y t e).1,(h.lvl.rt y t e).2.1,(h.lvl.rt y t e).2.2.1,(h.lvl.rt y t e).2.2.2.mono λ_ hg=>List.mem_append_left _ hg⟩⟩
theorem rQ {α:Type} (xs:List (List α)) (i:Nat) (h:i<xs.length):xs.set i (xs.getD i [])=xs:=by
 refine List.ext_getElem (by simp) λj h1 h2=>?_
 rw [List.getElem_set]
 split
 ·rename_i e;subst e;rw [List.getD_eq_getElem?_getD,List.getElem?_eq_getElem h];rfl
 ·rfl
theorem Yw {α:Type} (xs:List (List α)) (i:Nat) (h:i<xs.length) (r:List α):(xs.set i r).getD i []=r:=by
 rw [Gz,if_pos ⟨rfl,h⟩]
end Go.Proofs.YtfolipnappekaaaGreat

namespace Go.Proofs.YtfolipnappekaaaGreat
open Go.RowKit
noncomputable abbrev Li:MSpec:=nD [none] [(false, .Er WI)] false [none] [.row tI 2] (λx=>List.length x.1<=20) (λx=>((Iv x.1,()),()))
noncomputable abbrev Fw:Spec:=Cp (.pair tL (.pair tL .unit)) tO false true (λx=>(0<x.1.length/\x.1.length<=20)/\Ie x.2.1.length x.1) (λx=>some (Aa x.1 x.2.1))
noncomputable abbrev Ij:Spec:=Cp (.pair tL (.pair tL .unit)) tL false false (λx=>x.1.length<=20/\Ie x.2.1.length x.1) (λx=>Aa x.1 x.2.1)
noncomputable abbrev Ps:Spec:=Cp (.pair tI .unit) tL false true (λx=>0<=x.1/\x.1<=20) (λx=>upto x.1.toNat)
noncomputable abbrev Km:Spec:=Cp (.pair tI .unit) tO false true (λx=>1<=x.1/\x.1<=20) (λx=>some (upto x.1.toNat))
abbrev qN:TypeId:=22
structure Qf (N L:Nat) (n:Int) (G T:As) (l:Int) (p:List Int):Prop where
 n1:1<=N
 n2:N<=20
 en:n=N
 el:l=L
 le:L<=N
 v:V N (N-L) L (G,T)
 pm:Pm N p
 fx:Fx L p
noncomputable abbrev tW:Spec:=Cp (.pair (.ptr fc) (.pair tI (.pair tL .unit))) .bool false true (λx=> ∃N L,Qf N L x.1.1 x.1.2.1 x.1.2.2.1 x.2.1 x.2.2.1) (λx=>Du x.1.2.2.1 (x.1.1-x.2.1).toNat x.2.1.toNat x.2.2.1)
noncomputable abbrev YP:MSpec:= {ptr:=some (141,3),Fz:= [none,none],ins:= [(false, .Er tI),(false, .Ak tO qN true),(false, .Ak tO qN true),(false, .Er tI),(false, .Er tO)],Dv:=false,Es:= [],outs:= [.Er tI, .Ak tO qN false, .Ak tO qN false],fn:= λ_=>none,keeps:= [(1,1),(2,2)],Cs:= λx=>x.2.2.2.1.toNat}
noncomputable abbrev Qv (m:Nat):MSpec:=ix YP (λx=>(∃N L q,x.2.2.2.2.1=some q/\Qf N L x.1 x.2.1 x.2.2.1 x.2.2.2.1 q)/\(x.1-x.2.2.2.1).toNat<m)
 (λx=>((x.1,(Dz (x.1-x.2.2.2.1).toNat x.2.2.2.1.toNat (x.2.2.2.2.1.getD []) (x.2.1,x.2.2.1)).1,(Dz (x.1-x.2.2.2.1).toNat x.2.2.2.1.toNat (x.2.2.2.2.1.getD []) (x.2.1,x.2.2.1)).2,()),()))
theorem zQ (n:Int) (P:List Int->Prop):(((0:Int)<=n/\n<(↑Bh:Int)+(1:Int))/\n=n/\0=0/\(List.replicate n.toNat (Int.ofNat (nat_lit 0))).length=(List.replicate n.toNat (Int.ofNat (nat_lit 0))).length/\Bm (λ(v2:Int×List Int×PUnit) (k3:Int×List Int×PUnit->Prop)=>Br (decide (v2.1<(↑(List.replicate n.toNat (Int.ofNat (nat_lit 0))).length:Int))) (((0:Int)<=v2.1/\v2.1<(↑v2.2.1.length:Int))/\0+v2.1.toNat<v2.2.1.length/\0=0/\v2.2.1.length=(v2.2.1.set (0+v2.1.toNat) v2.1).length/\k3 (IntKind.i64.wrap (v2.1+(1:Int)),v2.2.1.set (0+v2.1.toNat) v2.1,())) (P (List.take v2.2.1.length (List.drop 0 v2.2.1)))) ((0:Int),List.replicate n.toNat (Int.ofNat (nat_lit 0)),PUnit.unit))=fnW Cf (look []) Ps Tryz.f105 (n,()) P:=by kernel_rfl
theorem MK (row:List (Option (List Int))) (P:(List Int×Unit)×Unit->Prop):(0=0/\0=([]:List Int).length/\Bm (λ(v2:Int×List Int×PUnit) (k3:Int×List Int×PUnit->Prop)=>Br (decide (v2.1<(↑row.length:Int))) (∃(y4:Option (List Int)),idx row v2.1=some y4/\Br (!y4.isNone) (0=0/\v2.2.1.length=v2.2.1.length/\v2.2.1.length+(List.take 1 (List.drop 0 [v2.1])).length<=Bh/\0=0/\(v2.2.1++List.take 1 (List.drop 0 [v2.1])).length=(v2.2.1++List.take 1 (List.drop 0 [v2.1])).length/\k3 (IntKind.i64.wrap (v2.1+(1:Int)),v2.2.1++List.take 1 (List.drop 0 [v2.1]),())) (0=0/\v2.2.1.length=v2.2.1.length/\k3 (IntKind.i64.wrap (v2.1+(1:Int)),v2.2.1,()))) (P ((List.take v2.2.1.length (List.drop 0 v2.2.1),()),()))) ((0:Int),[],PUnit.unit))=fnMW Vc (look []) Li Tryz.f147 (row,()) P:=by kernel_rfl
theorem Agh (c:Int×List (List (Option (List Int)))×List (List (Option (List Int)))×Unit) (l:Int) (p:List Int) (P:Bool->Prop):(Bm (λ(v4:List Int×Int×PUnit) (k5:List Int×Int×PUnit->Prop)=>Br (decide (v4.2.1<c.1)) (∃(y6:List (Option (List Int))),idx c.2.2.1 v4.2.1=some y6/\ ∃(y7:Int),idx v4.1 v4.2.1=some y7/\ ∃(y8:Option (List Int)),idx y6 y7=some y8/\Br y8.isNone (P false) (∃(y9:List Int),Ct.fn (y8.getD [],())=some y9/\ ∃(Xj:List Int),Ij.fn (v4.1,y9,())=some Xj/\k5 (Xj,IntKind.i64.wrap (v4.2.1+(1:Int)),()))) (P true)) (p,l,PUnit.unit))=fnW Vc (look [(56,Ct),(121,Ij)]) tW Tryz.f99 (c,l,p,()) P:=by kernel_rfl
theorem Sound.loose {P:Program} {f:FuncId} {arg res:Ty} {pre:arg.den->Prop} {val:arg.den->res.den} (h:Sound P f (Go.Proofs.YtfolipnappekaaaGreat.Cp arg res false true pre val)):Sound P f (Go.Proofs.YtfolipnappekaaaGreat.Cp arg res false false pre val):=
 ⟨h.enter,λw S vs x y h1 h2 h3=>Calls.mono (h.calls w S vs x y h1 h2 h3) λe' w' hr=>by
  obtain ⟨v,g1,g2,g3⟩:=hr
  exact ⟨v,g1,g2,Bd.Ex (S:= λb=>S b\/(true=true/\b<w.heap.size)) g3 λk _ hk=>hk.elim .inl λhh=>absurd (show false=true from hh.1) (by simp)⟩⟩
theorem pV:Sound Tryz.prog 121 Ij:=Sound.loose Qz
theorem pW:Sound Tryz.prog 121 Fw:=Sound.toO Qz λx h=>⟨⟨h.1.2,h.2⟩,λe=>by
 have:=Ke x.1 x.2.1
 rw [e] at this
 have:=h.1.1
 simp only [List.length_nil] at*
 omega⟩
theorem z7 (n:Int) (h:0<=n/\n<=20):fnW Cf (look []) Ps Tryz.f105 (n,()) (λ(z:List Int)=>z=upto n.toNat):=by
 refine Eq.mp (zQ n _) ⟨⟨by omega,by show n<(4294967296:Int)+1;omega⟩,rfl,rfl,rfl,?_⟩
 refine Aj n.toNat (λv=>v.1) (λj v=>v.2.1.length=n.toNat/\v.2.1.take j=upto j) rfl ⟨by simp,by simp [upto]⟩ ?_
 rintro j ⟨i,ys,⟨⟩⟩ K hj hi ⟨h1,h2⟩ hK
 dsimp only at hi h1 h2⊢
 subst hi
 rw [List.length_replicate]
 simp only [Int.toNat_natCast,Nat.zero_add]
 refine Br.dec (λhl=>⟨⟨by omega,by omega⟩,by omega,trivial,by rw [List.length_set],?_⟩) λhl=>?_
 ·rw [Ah (by omega)]
  refine hK (by omega) _ rfl ⟨by rw [List.length_set];exact h1,?_⟩
  rw [List.take_add_one,List.take_set_of_le (by omega),h2,List.getElem?_set_self (by omega),aD]
  rfl
 ·have:j=ys.length:=by omega
  subst this
  rw [List.take_length] at h2
  rw [List.drop_zero,List.take_length,h2,h1]
theorem cj:Sound Tryz.prog 105 Ps:=
 Sound.Cp Bg Ai mixed Tryz.func105 (by kernel_rfl) (by kernel_rfl) λx h=>z7 x.1 h
theorem HZ {n:Int} (h:1<=n/\n<=20):(0<=n/\n<=20)/\upto n.toNat≠ []:=⟨by omega,λe=>by
 have:=congrArg List.length e
 simp [upto] at this
 omega⟩
theorem mY:Sound Tryz.prog 105 Km:=Sound.toO cj λ_ h=>HZ h
theorem yX {row:Row} {j:Nat} :(upto (j+1)).filter (λy=>(row.getD y.toNat none).isSome)=(upto j).filter (λy=>(row.getD y.toNat none).isSome)++if (row.getD j none).isSome=true then [(j:Int)] else []:=by
 rw [aD,List.filter_append]
 congr 1
 simp only [List.filter_cons,List.filter_nil,Int.toNat_natCast]
theorem KG (row:List (Option (List Int))) (h:List.length row<=20):fnMW Vc (look []) Li Tryz.f147 (row,()) (λ(z:(List Int×Unit)×Unit)=>z=((Iv row,()),())):=by
 refine Eq.mp (MK row _) ⟨rfl,rfl,?_⟩
 refine Aj row.length (λv=>v.1) (λj v=>v.2.1=(upto j).filter (λy=>(row.getD y.toNat none).isSome)) rfl rfl ?_
 rintro j ⟨i,ys,⟨⟩⟩ K hj hi h1 hK
 dsimp only at hi h1⊢
 subst hi
 refine Br.dec (λhl=>?_) λhl=>?_
 ·have hl:j<row.length:=by omega
  have hlen:ys.length<=j:=by rw [h1];refine Nat.le_trans (List.length_filter_le _ _) (by simp [upto])
  have hg:row.getD j none=row[j]:=by rw [List.getD_eq_getElem?_getD,List.getElem?_eq_getElem hl];rfl
  refine ⟨_,An hl,Br.of (λhb=>⟨rfl,rfl,?_,rfl,rfl,?_⟩) λhb=>⟨rfl,rfl,?_⟩⟩
  ·show ys.length+1<=4294967296
   omega
  ·rw [Ah (by omega)]
   refine hK hl _ rfl ?_
   show ys++ [(j:Int)]=_
   rw [yX,hg,h1,if_pos (by cases e:row[j] with
    |none=>rw [e] at hb;simp at hb
    |some t=>rfl)]
  ·rw [Ah (by omega)]
   refine hK hl _ rfl ?_
   show ys=_
   rw [yX,hg,h1,if_neg (by cases e:row[j] with
    |none=>simp
    |some t=>rw [e] at hb;simp at hb),List.append_nil]
 ·have:j=row.length:=by omega
  subst this
  rw [List.drop_zero,List.take_length,h1]
  rfl
theorem fZ:Bj Tryz.prog 147 Li:=
 Bj.nD lE Ai mixed Tryz.func147 (by kernel_rfl) (by kernel_rfl) λx h=>KG x.1 h
theorem cV {n:Nat} {s:As×As} : ∀(k l:Nat),Zj n k l s-> ∀i,l<=i->i<l+k->TL n i (s.1.getD i []) (s.2.getD i []) (λq=>Du s.2 (l+k-i-1) (i+1) q=true)
 |0,_,_,i,h1,h2=>by omega
 |k+1,l,hc,i,h1,h2=>by
  obtain ⟨c1,c2,_⟩:=hc
  by_cases e:i=l
  ·subst e
   rw [show i+(k+1)-i-1=k by omega]
   exact c2
  ·have:=cV k (l+1) c1 i (by omega) (by omega)
   rwa [show l+1+k-i-1=l+(k+1)-i-1 by omega] at this
theorem xU {α:Type} {xs:List (List α)} {i:Nat} (h:i<xs.length):xs.getD i []=xs[i]:=by
 rw [List.getD_eq_getElem?_getD,List.getElem?_eq_getElem h];rfl
theorem xV {α:Type} {xs:List (Option α)} {i:Nat} (h:i<xs.length):xs.getD i none=xs[i]:=by
 rw [List.getD_eq_getElem?_getD,List.getElem?_eq_getElem h];rfl
theorem Pm.row {n:Nat} {p:List Int} (h:Pm n p):Ie n p:=by
 have:=h.2.row
 rwa [h.1] at this
theorem Afs (c:Int×List (List (Option (List Int)))×List (List (Option (List Int)))×Unit) (l:Int) (p:List Int) (h: ∃N L,Qf N L c.1 c.2.1 c.2.2.1 l p):
  fnW Vc (look [(56,Ct),(121,Ij)]) tW Tryz.f99 (c,l,p,()) (λ(z:Bool)=>z=Du c.2.2.1 (c.1-l).toNat l.toNat p):=by
 obtain ⟨n,G,T,⟨⟩⟩:=c
 obtain ⟨N,L,h⟩:=h
 obtain ⟨n1,n2,en,el,hle,v,pm,fx⟩:=h
 dsimp only at en el v⊢
 subst en el
 refine Eq.mp (Agh ((N:Int),G,T,()) (L:Int) p _) ?_
 obtain ⟨v1,v2,v3,v4⟩:=v
 dsimp only at v1 v2
 refine ⟨λv=> ∃i:Nat,L<=i/\i<=N/\v.2.1=i/\Pm N v.1/\Fx i v.1/\Du T (N-i) i v.1=Du T (N-L) L p,λv=>N-v.2.1.toNat,⟨L,Nat.le_refl _,hle,rfl,pm,fx,rfl⟩,?_⟩
 rintro ⟨p',i',⟨⟩⟩ ⟨i,h1,h2,h3,h4,h5,h6⟩
 dsimp only at h3 h4 h5 h6⊢
 subst h3
 rw [show (((N:Int)-(L:Int)).toNat)=N-L by omega,show ((L:Int)).toNat=L by omega,<-h6]
 refine Br.dec (λhl=>?_) λhl=>?_
 ·have hl:i<N:=by omega
  have Gl:=cV (N-L) L v3 i h1 (by omega)
  obtain ⟨a1,a2⟩:=h4.Ur hl
  have hT:i<T.length:=by omega
  have hlen:T[i].length=N:=by have:=Gl.rl;dsimp only at this;rwa [xU hT] at this
  refine ⟨_,An hT,_,An (by rw [h4.1];exact hl),?_⟩
  have e1:p'[i]'(by rw [h4.1];exact hl)=(ap p' i:Int):=by rw [<-a1,Ib]
  rw [e1]
  refine ⟨_,An (by omega),?_⟩
  have e2:N-i=(N-i-1)+1:=by omega
  have e3:(T.getD i []).getD (It p' (i:Int)).toNat none=T[i][ap p' i]'(by omega):=by
   rw [xU hT];exact xV (by show ap p' i<_;omega)
  rw [e2]
  simp only [Du,e3]
  refine Br.of (λhb=>?_) λhb=>?_
  ·cases e:T[i][ap p' i]'(by omega) with
   |none=>rfl
   |some t=>rw [e] at hb;simp at hb
  ·cases e:T[i][ap p' i]'(by omega) with
   |none=>rw [e] at hb;simp at hb
   |some t=>
    have ht:(T.getD i []).getD (ap p' i) none=some t:=by rw [<-e];exact e3
    obtain ⟨t1,t2,t3,t4⟩:=Gl.rt _ _ ht
    simp only [Option.getD_some]
    refine ⟨_,if_pos ⟨by show t.length<=20;rw [t1.1];exact n2,t1.2.row⟩,_,if_pos ⟨by show p'.length<=20;rw [h4.1];exact n2,by show Ie (Ag t).length p';rw [j9,t1.1];exact h4.row⟩,⟨i+1,by omega,by omega,Ah (by omega),h4.comp t1.inv,Fx.div h4 t1 h5 t2 hl t3,?_⟩,?_⟩
    ·rw [show N-(i+1)=N-i-1 by omega]
    ·show N-(IntKind.i64.wrap ((i:Int)+1)).toNat<N-((i:Int)).toNat
     rw [Ah (by omega)]
     omega
 ·rw [show N-i=0 by omega]
  rfl
theorem LK:Sound Tryz.prog 99 tW:=
 Sound.Cp lE (Ae Ra (Ae pV Ai)) mixed Tryz.func99 (by kernel_rfl) (by kernel_rfl) λx h=>Afs x.1 x.2.1 x.2.2.1 h
end Go.Proofs.YtfolipnappekaaaGreat

namespace Go.Proofs.YtfolipnappekaaaGreat
open Go.RowKit
abbrev wE:Type:=Nat×Nat×Int×List (List (Option (List Int)))×Nat×List (List (Option (List Int)))×Nat×List Int×Int×PUnit
abbrev SG:Type:=Nat×Int×List (List (Option (List Int)))×Nat×List (List (Option (List Int)))×Nat×List Int×Int×PUnit
abbrev SH:Type:=Nat×List (List (Option (List Int)))×Nat×List (List (Option (List Int)))×Nat×List Int×Int×PUnit
abbrev Hc (G:List (List (Option (List Int)))) (l:Int) (p:Option (List Int)) (T:List (List (Option (List Int)))) (y7:Bool) (n:Int):Prop:=0=0/\(G.getD (0+l.toNat) []).length=(G.getD (0+l.toNat) []).length/\(G.getD (0+l.toNat) []).length+(List.take 1 (List.drop 0 [p])).length<=Bh/\((0:Int)<=l/\l<(↑G.length:Int))/\0=0/\(G.getD (0+l.toNat) []++List.take 1 (List.drop 0 [p])).length=(G.getD (0+l.toNat) []++List.take 1 (List.drop 0 [p])).length/\0+l.toNat=0+l.toNat/\ [(0,G.length),(0,G.length),(0,G.length),(0,T.length)]= [(0,G.length),(0,G.length),(0,G.length),(0,T.length)]/\(l,p,l,p,y7,l,l,0+l.toNat,p,List.take 1 (List.drop 0 [p]),0+l.toNat,G.set (0+l.toNat) (G.getD (0+l.toNat) []++List.take 1 (List.drop 0 [p])),min G.length (0+l.toNat),T,T.length,n,())=(l,p,l,p,y7,l,l,0+l.toNat,p,List.take 1 (List.drop 0 [p]),0+l.toNat,G.set (0+l.toNat) (G.getD (0+l.toNat) []++List.take 1 (List.drop 0 [p])),min G.length (0+l.toNat),T,T.length,n,PUnit.unit)
theorem Agc {m:Nat} (n:Int) (G T:List (List (Option (List Int)))) (l:Int) (p:Option (List Int)) (P:(Int×List (List (Option (List Int)))×List (List (Option (List Int)))×Unit)×Unit->Prop):(∃(y7:Bool),tW.fn ((n,List.take G.length (List.drop 0 G),List.take T.length (List.drop 0 T),()),l,p.getD [],())=some y7/\Br y7 ((0=0/\G.length=G.length)/\(0=0/\T.length=T.length)/\(Qv (m+1)).Cs (n,G,T,l,p,())<=G.length/\(Qv (m+1)).Cs (n,G,T,l,p,())<=T.length/\P ((n,G,T,()),())) (((0:Int)<=l/\l<(↑G.length:Int))/\0=0/\(G.getD (0+l.toNat) []).length=(G.getD (0+l.toNat) []).length/\(G.getD (0+l.toNat) []).length+(List.take 1 (List.drop 0 [p])).length<=Bh/\((0:Int)<=l/\l<(↑G.length:Int))/\0=0/\(G.getD (0+l.toNat) []++List.take 1 (List.drop 0 [p])).length=(G.getD (0+l.toNat) []++List.take 1 (List.drop 0 [p])).length/\0+l.toNat=0+l.toNat/\(((0:Int)<=l/\l<(↑T.length:Int))/\ ∃(y8:(List Int×PUnit)×PUnit),Li.fn (T.getD (0+l.toNat) [],())=some y8/\0=0/\(List.take y8.1.1.length (List.drop 0 y8.1.1)).length=(List.take y8.1.1.length (List.drop 0 y8.1.1)).length/\0=0/\G.length=(G.set (0+l.toNat) (G.getD (0+l.toNat) []++List.take 1 (List.drop 0 [p]))).length/\0=0/\T.length=T.length/\Bm (λ(v9:SH) (k10:SH->Prop)=>Br (decide ((↑v9.2.2.2.2.2.1.length:Int)>(0:Int))) (((0:Int)<=l/\l<(↑v9.2.1.length:Int))/\0=0/\(List.take v9.2.2.2.2.2.1.length (List.drop 0 v9.2.2.2.2.2.1)).length=(List.take v9.2.2.2.2.2.1.length (List.drop 0 v9.2.2.2.2.2.1)).length/\0=0/\v9.2.1.length=v9.2.1.length/\0=0/\v9.2.2.2.1.length=v9.2.2.2.1.length/\Bm (λ(v11:wE) (k12:wE->Prop)=>Br (decide (v11.2.2.1<(↑(v9.2.1.getD (0+l.toNat) []).length:Int))) (((0:Int)<=v11.2.2.1/\v11.2.2.1<(↑(v11.2.2.2.1.getD v11.2.1 []).length:Int))/\((0:Int)<=(0:Int)/\(0:Int)<(↑v11.2.2.2.2.2.2.2.1.length:Int))/\ ∃(x9:Int),v11.2.2.2.2.2.2.2.1[0+Int.toNat (0:Int)]?=some x9/\ ∃(Xk:Int),idx (((v11.2.2.2.1.getD v11.2.1 []).getD v11.2.2.1.toNat (none:Option (List Int))).getD []) x9=some Xk/\((0:Int)<=Xk/\Xk<(↑(v11.2.2.2.2.2.1.getD v11.1 []).length:Int))/\Br ((v11.2.2.2.2.2.1.getD v11.1 []).getD Xk.toNat (none:Option (List Int))).isNone (((0:Int)<=(0:Int)/\(0:Int)<(↑v11.2.2.2.2.2.2.2.1.length:Int))/\ ∃(jR:Int),v11.2.2.2.2.2.2.2.1[0+Int.toNat (0:Int)]?=some jR/\((0:Int)<=jR/\jR<(↑(v11.2.2.2.2.2.1.getD v11.1 []).length:Int))/\ ∃(nI:Option (List Int)),Fw.fn (((v11.2.2.2.2.2.1.getD v11.1 []).getD jR.toNat (none:Option (List Int))).getD [],((v11.2.2.2.1.getD v11.2.1 []).getD v11.2.2.1.toNat (none:Option (List Int))).getD [],())=some nI/\((0:Int)<=Xk/\Xk<(↑(v11.2.2.2.2.2.1.getD v11.1 []).length:Int))/\0=0/\v11.2.2.2.2.2.2.2.1.length=v11.2.2.2.2.2.2.2.1.length/\v11.2.2.2.2.2.2.2.1.length+(List.take 1 (List.drop 0 [Xk])).length<=Bh/\0=0/\(List.take (v11.2.2.2.2.2.2.2.1++List.take 1 (List.drop 0 [Xk])).length (List.drop 0 (v11.2.2.2.2.2.2.2.1++List.take 1 (List.drop 0 [Xk])))).length=(List.take (v11.2.2.2.2.2.2.2.1++List.take 1 (List.drop 0 [Xk])).length (List.drop 0 (v11.2.2.2.2.2.2.2.1++List.take 1 (List.drop 0 [Xk])))).length/\0=0/\v11.2.2.2.1.length=v11.2.2.2.1.length/\0=0/\v11.2.2.2.2.2.1.length=(v11.2.2.2.2.2.1.set v11.1 ((v11.2.2.2.2.2.1.getD v11.1 []).set Xk.toNat nI)).length/\k12 (v11.1,v11.2.1,IntKind.i64.wrap (v11.2.2.1+(1:Int)),v11.2.2.2.1,v11.2.2.2.2.1,v11.2.2.2.2.2.1.set v11.1 ((v11.2.2.2.2.2.1.getD v11.1 []).set Xk.toNat nI),v11.2.2.2.2.2.2.1,List.take (v11.2.2.2.2.2.2.2.1++List.take 1 (List.drop 0 [Xk])).length (List.drop 0 (v11.2.2.2.2.2.2.2.1++List.take 1 (List.drop 0 [Xk]))),v11.2.2.2.2.2.2.2.2.1,())) (0=0/\(List.take v11.2.2.2.2.2.2.2.1.length (List.drop 0 v11.2.2.2.2.2.2.2.1)).length=(List.take v11.2.2.2.2.2.2.2.1.length (List.drop 0 v11.2.2.2.2.2.2.2.1)).length/\0=0/\v11.2.2.2.1.length=v11.2.2.2.1.length/\0=0/\v11.2.2.2.2.2.1.length=v11.2.2.2.2.2.1.length/\k12 (v11.1,v11.2.1,IntKind.i64.wrap (v11.2.2.1+(1:Int)),v11.2.2.2.1,v11.2.2.2.2.1,v11.2.2.2.2.2.1,v11.2.2.2.2.2.2.1,List.take v11.2.2.2.2.2.2.2.1.length (List.drop 0 v11.2.2.2.2.2.2.2.1),v11.2.2.2.2.2.2.2.2.1,()))) (((0:Int)<=(1:Int)/\(1:Int)<=(↑v11.2.2.2.2.2.2.2.1.length:Int)/\(↑v11.2.2.2.2.2.2.2.1.length:Int)<=(↑v11.2.2.2.2.2.2.2.1.length:Int))/\0=0/\(List.take ((↑v11.2.2.2.2.2.2.2.1.length:Int).toNat-Int.toNat (1:Int)) (List.drop (0+Int.toNat (1:Int)) v11.2.2.2.2.2.2.2.1)).length=(List.take ((↑v11.2.2.2.2.2.2.2.1.length:Int).toNat-Int.toNat (1:Int)) (List.drop (0+Int.toNat (1:Int)) v11.2.2.2.2.2.2.2.1)).length/\0=0/\v11.2.2.2.1.length=v11.2.2.2.1.length/\0=0/\v11.2.2.2.2.2.1.length=v11.2.2.2.2.2.1.length/\k10 (v11.1,v11.2.2.2.1,v11.2.2.2.2.1,v11.2.2.2.2.2.1,v11.2.2.2.2.2.2.1,List.take ((↑v11.2.2.2.2.2.2.2.1.length:Int).toNat-Int.toNat (1:Int)) (List.drop (0+Int.toNat (1:Int)) v11.2.2.2.2.2.2.2.1),v11.2.2.2.2.2.2.2.2.1,()))) (v9.1,0+l.toNat,(0:Int),v9.2.1,v9.2.2.1,v9.2.2.2.1,v9.2.2.2.2.1,List.take v9.2.2.2.2.2.1.length (List.drop 0 v9.2.2.2.2.2.1),v9.2.2.2.2.2.2.1,PUnit.unit)) (∃(sB:(List Int×PUnit)×PUnit),Li.fn (v9.2.2.2.1.getD v9.1 [],())=some sB/\0=0/\sB.1.1.length=sB.1.1.length/\0=0/\v9.2.1.length=v9.2.1.length/\0=0/\v9.2.2.2.1.length=v9.2.2.2.1.length/\Bm (λ(Ji:SG) (k13:SG->Prop)=>Br (decide (Ji.2.1<(↑sB.1.1.length:Int))) (((0:Int)<=Ji.2.1/\Ji.2.1<(↑Ji.2.2.2.2.2.2.1.length:Int))/\ ∃(Xk:Int),Ji.2.2.2.2.2.2.1[0+Ji.2.1.toNat]?=some Xk/\((0:Int)<=l/\l<(↑Ji.2.2.1.length:Int))/\0=0/\Ji.2.2.2.2.2.2.1.length=Ji.2.2.2.2.2.2.1.length/\0=0/\Ji.2.2.1.length=Ji.2.2.1.length/\0=0/\Ji.2.2.2.2.1.length=Ji.2.2.2.2.1.length/\Bm (λ(Lw:wE) (k16:wE->Prop)=>Br (decide (Lw.2.2.1<(↑(Ji.2.2.1.getD (0+l.toNat) []).length:Int))) (((0:Int)<=Lw.2.2.1/\Lw.2.2.1<(↑(Lw.2.2.2.1.getD Lw.2.1 []).length:Int))/\((0:Int)<=Xk/\Xk<(↑(Lw.2.2.2.2.2.1.getD Lw.1 []).length:Int))/\ ∃(FU:Option (List Int)),Fw.fn (((Lw.2.2.2.2.2.1.getD Lw.1 []).getD Xk.toNat (none:Option (List Int))).getD [],((Lw.2.2.2.1.getD Lw.2.1 []).getD Lw.2.2.1.toNat (none:Option (List Int))).getD [],())=some FU/\ ∃(MT:Int),idx (((Lw.2.2.2.1.getD Lw.2.1 []).getD Lw.2.2.1.toNat (none:Option (List Int))).getD []) Xk=some MT/\((0:Int)<=MT/\MT<(↑(Lw.2.2.2.2.2.1.getD Lw.1 []).length:Int))/\ ∃(y19:List Int),Ct.fn (((Lw.2.2.2.2.2.1.getD Lw.1 []).getD MT.toNat (none:Option (List Int))).getD [],())=some y19/\ ∃(ZB:Option (List Int)),Fw.fn (FU.getD [],y19,())=some ZB/\0=0/\Lw.2.2.2.1.length=Lw.2.2.2.1.length/\0=0/\Lw.2.2.2.2.2.1.length=Lw.2.2.2.2.2.1.length/\ ∃(NA:(Int×List (List (Option (List Int)))×List (List (Option (List Int)))×PUnit)×PUnit),(Qv m).fn (Lw.2.2.2.2.2.2.2.2.1,Lw.2.2.2.1,Lw.2.2.2.2.2.1,IntKind.i64.wrap (l+(1:Int)),ZB,())=some NA/\(Lw.1<(Qv m).Cs (Lw.2.2.2.2.2.2.2.2.1,Lw.2.2.2.1,Lw.2.2.2.2.2.1,IntKind.i64.wrap (l+(1:Int)),ZB,())/\Lw.1<(List.length NA.1.2.2.1))/\(Lw.2.1<(Qv m).Cs (Lw.2.2.2.2.2.2.2.2.1,Lw.2.2.2.1,Lw.2.2.2.2.2.1,IntKind.i64.wrap (l+(1:Int)),ZB,())/\Lw.2.1<(List.length NA.1.2.1))/\(Lw.1<(Qv m).Cs (Lw.2.2.2.2.2.2.2.2.1,Lw.2.2.2.1,Lw.2.2.2.2.2.1,IntKind.i64.wrap (l+(1:Int)),ZB,())/\Lw.1<(List.length NA.1.2.2.1))/\(Lw.1<(Qv m).Cs (Lw.2.2.2.2.2.2.2.2.1,Lw.2.2.2.1,Lw.2.2.2.2.2.1,IntKind.i64.wrap (l+(1:Int)),ZB,())/\Lw.1<(List.length NA.1.2.2.1))/\0=0/\Lw.2.2.2.2.2.2.2.1.length=Lw.2.2.2.2.2.2.2.1.length/\0=0/\NA.1.2.1.length=NA.1.2.1.length/\0=0/\NA.1.2.2.1.length=NA.1.2.2.1.length/\k16 (Lw.1,Lw.2.1,IntKind.i64.wrap (Lw.2.2.1+(1:Int)),NA.1.2.1,min Lw.2.2.2.2.1 ((Qv m).Cs (Lw.2.2.2.2.2.2.2.2.1,Lw.2.2.2.1,Lw.2.2.2.2.2.1,IntKind.i64.wrap (l+(1:Int)),ZB,())),NA.1.2.2.1,min Lw.2.2.2.2.2.2.1 ((Qv m).Cs (Lw.2.2.2.2.2.2.2.2.1,Lw.2.2.2.1,Lw.2.2.2.2.2.1,IntKind.i64.wrap (l+(1:Int)),ZB,())),Lw.2.2.2.2.2.2.2.1,NA.1.1,())) (0=0/\Lw.2.2.2.2.2.2.2.1.length=Lw.2.2.2.2.2.2.2.1.length/\0=0/\Lw.2.2.2.1.length=Lw.2.2.2.1.length/\0=0/\Lw.2.2.2.2.2.1.length=Lw.2.2.2.2.2.1.length/\k13 (Lw.1,IntKind.i64.wrap (Ji.2.1+(1:Int)),Lw.2.2.2.1,Lw.2.2.2.2.1,Lw.2.2.2.2.2.1,Lw.2.2.2.2.2.2.1,Lw.2.2.2.2.2.2.2.1,Lw.2.2.2.2.2.2.2.2.1,()))) (Ji.1,0+l.toNat,(0:Int),Ji.2.2.1,Ji.2.2.2.1,Ji.2.2.2.2.1,Ji.2.2.2.2.2.1,Ji.2.2.2.2.2.2.1,Ji.2.2.2.2.2.2.2.1,PUnit.unit)) ((0=0/\Ji.2.2.1.length=Ji.2.2.1.length)/\(0=0/\Ji.2.2.2.2.1.length=Ji.2.2.2.2.1.length)/\(Qv (m+1)).Cs (n,G,T,l,p,())<=Ji.2.2.2.1/\(Qv (m+1)).Cs (n,G,T,l,p,())<=Ji.2.2.2.2.2.1/\P ((Ji.2.2.2.2.2.2.2.1,Ji.2.2.1,Ji.2.2.2.2.1,()),()))) (v9.1,(0:Int),v9.2.1,v9.2.2.1,v9.2.2.2.1,v9.2.2.2.2.1,sB.1.1,v9.2.2.2.2.2.2.1,PUnit.unit))) (0+l.toNat,G.set (0+l.toNat) (G.getD (0+l.toNat) []++List.take 1 (List.drop 0 [p])),min G.length (0+l.toNat),T,T.length,List.take y8.1.1.length (List.drop 0 y8.1.1),n,PUnit.unit))/\(((((0:Int)<=l/\l<(↑G.length:Int))/\((Hc G l p T y7 n))/\(Hc G l p T y7 n))/\((0:Int)<=l/\l<(↑G.length:Int))/\(Hc G l p T y7 n))/\((0:Int)<=l/\l<(↑G.length:Int))/\(Hc G l p T y7 n))/\(((((0:Int)<=l/\l<(↑G.length:Int))/\((Hc G l p T y7 n))/\(Hc G l p T y7 n))/\((0:Int)<=l/\l<(↑G.length:Int))/\(Hc G l p T y7 n))/\(((0:Int)<=l/\l<(↑G.length:Int))/\(((Hc G l p T y7 n))/\(Hc G l p T y7 n))/\(((Hc G l p T y7 n))/\((Hc G l p T y7 n))/\(Hc G l p T y7 n))/\((Hc G l p T y7 n))/\((Hc G l p T y7 n))/\(Hc G l p T y7 n))/\(((0:Int)<=l/\l<(↑G.length:Int))/\(Hc G l p T y7 n))/\((0:Int)<=l/\l<(↑G.length:Int))/\((Hc G l p T y7 n))/\((Hc G l p T y7 n))/\(Hc G l p T y7 n))/\(((0:Int)<=l/\l<(↑G.length:Int))/\(Hc G l p T y7 n))/\(((0:Int)<=l/\l<(↑G.length:Int))/\(Hc G l p T y7 n))/\((0:Int)<=l/\l<(↑G.length:Int))/\((Hc G l p T y7 n))/\((Hc G l p T y7 n))/\(Hc G l p T y7 n)))=fnMW (SM [Mj+7]) (look [(99,tW),(147,Li),(121,Fw),(56,Ct),(130,Vv.m (Qv m))]) (Qv (m+1)) Tryz.f130 (n,G,T,l,p,()) P:=by kernel_rfl
theorem xj {k l:Nat} {p:List Int} {s:As×As} (h:Du s.2 k l p=true):Dz k l p s=s:=by
 cases k with
 |zero=>rfl
 |succ k=>unfold Dz;rw [if_pos h]
theorem xh (k l:Nat) (p:List Int) (s:As×As):Dz (k+1) l p s=if Du s.2 (k+1) l p=true then s else
   (c9 (Ta (s.1.getD l []++ [some p]) (s.2.getD l [])) (s.1.getD l []++ [some p])).foldl (λs q=>Dz k (l+1) q s)
    (s.1.set l (s.1.getD l []++ [some p]),s.2.set l (Ta (s.1.getD l []++ [some p]) (s.2.getD l []))):=rfl
theorem uY {n:Nat} {p:List Int} (h:Pm n p) {i:Nat} (hi:i<n):idx p (i:Int)=some (ap p i:Int):=by
 have lX:i<p.length:=by rw [h.1];exact hi
 rw [An lX,<-(h.Ur hi).1,Ib lX]
theorem AS {x:Int} {gs:List PO} {j:Nat} (hj:j<gs.length) (s:Row×List Int):Uj x (gs.take (j+1)) s=Ut x (Uj x (gs.take j) s) gs[j]:=by
 unfold Uj
 rw [List.take_add_one,List.getElem?_eq_getElem hj,Option.toList_some,List.foldl_append]
 rfl
theorem AT {gs:List PO} {f:Nat} {row:Row} :Tz gs f [] row=row:=by cases f<;>rfl
theorem Rp {n:Nat} {p:List Int} (h:Pm n p):0<p.length/\p.length<=20:=⟨by rw [h.1];exact h.n1,by rw [h.1];exact h.n2⟩
theorem kZ {n:Nat} {p q:List Int} (h:Pm n p) (k:Pm n q):Ie q.length p:=by rw [k.1];exact h.row
theorem Afn {m:Nat} (n:Int) (G T:List (List (Option (List Int)))) (l:Int) (p:Option (List Int)) (h:(∃N L q,p=some q/\Qf N L n G T l q)/\(n-l).toNat<m+1):
  fnMW (SM [Mj+7]) (look [(99,tW),(147,Li),(121,Fw),(56,Ct),(130,Vv.m (Qv m))]) (Qv (m+1)) Tryz.f130 (n,G,T,l,p,()) (λ(z:(Int×List (List (Option (List Int)))×List (List (Option (List Int)))×Unit)×Unit)=>z=((n,(Dz (n-l).toNat l.toNat (p.getD []) (G,T)).1,(Dz (n-l).toNat l.toNat (p.getD []) (G,T)).2,()),())):=by
 obtain ⟨⟨N,L,q,rfl,h⟩,hm⟩:=h
 have h':=h
 obtain ⟨n1,n2,en,el,hle,v,pm,fx⟩:=h
 subst en el
 have hk:((N:Int)-(L:Int)).toNat=N-L:=by omega
 rw [hk,Int.toNat_natCast]
 refine Eq.mp (Agc (N:Int) G T (L:Int) (some q) _) ⟨_,if_pos ⟨N,L,?a⟩,?b⟩
 case a=>
  simp only [List.drop_zero,List.take_length,Option.getD_some]
  exact h'
 obtain ⟨v1,v2,v3,v4⟩:=v
 dsimp only at v1 v2
 have hw:IntKind.i64.wrap ((L:Int)+1)=((L+1:Nat):Int):=Ah (by omega)
 simp only [Hc]
 simp only [List.drop_zero,List.take_length,Option.getD_some,hk,Int.toNat_natCast,Nat.zero_add,eq_self,true_and,and_true,List.take_succ_cons,List.take_zero,List.length_cons,List.length_nil,List.length_set,hw]
 refine Br.of (λhh=>⟨by show Int.toNat (L:Int)<=G.length;omega,by show Int.toNat (L:Int)<=T.length;omega,?_⟩) λhh=>?_
 ·rw [xj (s:=(G,T)) hh]
 obtain ⟨k,hNk⟩: ∃k,N-L=k+1:=by
  cases e:N-L with
  |zero=>rw [e] at hh;simp [Du] at hh
  |succ k=>exact ⟨k,rfl⟩
 have hLN:L<N:=by omega
 have hv:V N (k+1) L (G,T):=by rw [<-hNk];exact ⟨v1,v2,v3,v4⟩
 rw [hNk] at hh⊢
 have e1:(0:Int)<=(L:Int)/\(L:Int)<(G.length:Int):=by omega
 have e1':(0:Int)<=(L:Int)/\(L:Int)<(T.length:Int):=by omega
 have hgl:(G.getD L []).length<=400:=GQ n2 (by omega) hv
 have e2:(G.getD L []).length+1<=Bh:=by show _<=4294967296;omega
 simp only [e1,e1',e2,and_self,true_and,and_true]
 generalize j5:G.getD L []++ [some q]=gs
 have Ao1:gs.length<=401:=by rw [<-j5,List.length_append,List.length_singleton];omega
 have hg:PG N L gs:=by rw [<-j5];exact hv.pg pm fx
 have hr0:Pf N L gs (T.getD L []):=by rw [<-j5];exact hv.Al3 q
 obtain ⟨r1,r2,r3⟩:=yY hLN n2 hg hr0
 generalize hR:Ta gs (T.getD L [])=R at r1 r2 r3
 have oO:Dz (k+1) L q (G,T)=(c9 R gs).foldl (λs q=>Dz k (L+1) q s) (G.set L gs,T.set L R):=by
  rw [xh,if_neg (by rw [hh];simp)]
  dsimp only
  rw [j5,hR]
 rw [oO]
 have hTl:L<T.length:=by omega
 have hGl:L<G.length:=by omega
 have ZU:(G.set L gs).getD L []=gs:=Yw G L hGl gs
 have hT1: ∀row:Row,(T.set L row).getD L []=row:=Yw T L hTl
 refine ⟨_,if_pos (by show (T.getD L []).length<=20;rw [hr0.rl];exact n2),?_⟩
 dsimp only
 have hn0:(Iv (T.getD L [])).length+Hq (T.getD L [])<=40:=by have:=vH (T.getD L []);have:=dD (T.getD L []);have:=hr0.rl;omega
 have hq0:IB gs (Iv (T.getD L [])) (T.getD L []):=⟨λy hy=>Ok.1 hy,λy hy=> .inl (Ok.2 ⟨y,rfl,hy⟩)⟩
 refine ⟨λv=> ∃(row:Row) (qu:List Int) (kg kt:Nat),v=(L,G.set L gs,kg,T.set L row,kt,qu,(N:Int),())/\L<=kg/\L<=kt/\qu.length+Hq row<=40/\Pf N L gs row/\IB gs qu row/\Tz gs (qu.length+Hq row) qu row=R,
  fun v=>v.2.2.2.2.2.1.length+Hq (v.2.2.2.1.getD v.1 []),⟨T.getD L [],Iv (T.getD L []),min G.length L,T.length,?_,by omega,by omega,hn0,hr0,hq0,?_⟩,?_⟩
 ·rw [rQ T L hTl]
 ·rw [<-xw hLN hg 100 _ _ (by omega) hr0 hq0];exact hR
 rintro v ⟨row,qu,kg,kt,rfl,hkg,TR,hb,PA,hqi,OG⟩
 dsimp only
 simp only [ZU,hT1,List.length_set]
 refine Br.dec (λhl=>⟨e1.2,?_⟩) λhl=>?_
 ·cases qu with
  |nil=>simp at hl
  |cons x qu=>
  obtain ⟨p1,p2,xn,t,rfl,ht⟩:=DW hLN hg PA hqi
  have TW:xn<N:=by rw [<-PA.rl];exact iY ht
  refine Aj gs.length (λv=>v.2.2.1) (λj v=> ∃kg kt:Nat,v=(L,L,(j:Int),G.set L gs,kg,T.set L (Uj (xn:Int) (gs.take j) (row,qu)).1,kt,(xn:Int)::(Uj (xn:Int) (gs.take j) (row,qu)).2,(N:Int),())/\L<=kg/\L<=kt) rfl ⟨kg,kt,rfl,hkg,TR⟩ ?_
  rintro j v K hj hi ⟨kg,kt,rfl,h1,h2⟩ hK
  dsimp only
  simp only [ZU,hT1,Int.toNat_natCast]
  refine Br.dec (λhl=>?_) λhl=>?_
  ·have hl:j<gs.length:=by omega
   obtain ⟨x1,x2⟩:=RJ hLN hg (gs.take j) (q:=qu) (λo ho=>List.mem_of_mem_take ho) PA ht
   have Ul:=AS (x:=(xn:Int)) hl (row,qu)
   generalize Uj (xn:Int) (gs.take j) (row,qu)=s at x1 x2 Ul⊢
   obtain ⟨r,qq⟩:=s
   dsimp only at x1 x2⊢
   obtain ⟨g,jV,Ny,XV⟩:=hg gs[j] (List.getElem_mem hl)
   have htx:r.getD xn none=some t:=x1.mono _ _ ht
   obtain ⟨t1,t2,t3,t4⟩:=x1.ok.rt _ _ htx
   have OZ:r.length=N:=x1.ok.rl
   have hgj:gs.getD j none=some g:=by rw [xV hl];exact jV
   have hy:=Ny.lt TW
   have hga:=(Ny.Ur TW).1
   have VC:qq.length+Hq r=qu.length+Hq row:=x1.phi
   simp only [List.length_cons] at hb
   simp only [hgj,Option.getD_some]
   refine ⟨⟨by omega,by omega⟩,⟨by omega,by simp only [List.length_cons];omega⟩,_,rfl,_,uY Ny TW,⟨by omega,by omega⟩,?_⟩
   rw [jV] at Ul
   unfold Ut at Ul
   dsimp only at Ul
   rw [Option.getD_some,hga,Int.toNat_natCast,Int.toNat_natCast,htx,Option.getD_some] at Ul
   rw [Int.toNat_natCast]
   refine Br.of (λhn=>?_) λhn=>?_
   ·have hn:r.getD (ap g xn) none=none:=by
     cases e:r.getD (ap g xn) none with
     |none=>rfl
     |some u=>rw [e] at hn;simp at hn
    rw [hn] at Ul
    refine ⟨⟨by omega,by simp only [List.length_cons];omega⟩,_,rfl,⟨by omega,by omega⟩,some (Aa t g),?_,⟨by omega,by omega⟩,?_,?_⟩
    ·rw [Int.toNat_natCast,htx,Option.getD_some]
     exact if_pos ⟨Rp t1,kZ t1 Ny⟩
    ·show qq.length+1+1<=4294967296
     omega
    ·rw [Ah (by omega)]
     refine hK hl _ rfl ⟨kg,kt,?_,h1,h2⟩
     rw [Ul,List.set_set]
     rfl
   ·have hn: ∃u,r.getD (ap g xn) none=some u:=by
     cases e:r.getD (ap g xn) none with
     |none=>rw [e] at hn;simp at hn
     |some u=>exact ⟨u,rfl⟩
    obtain ⟨u,hn⟩:=hn
    rw [hn] at Ul
    rw [Ah (by omega)]
    refine hK hl _ rfl ⟨kg,kt,?_,h1,h2⟩
    rw [Ul]
  ·have:j=gs.length:=by omega
   subst this
   rw [List.take_length]
   generalize hs:Uj (xn:Int) gs (row,qu)=s at p1 p2⊢
   obtain ⟨r,qq⟩:=s
   dsimp only at p1 p2⊢
   have VC:qq.length+Hq r=qu.length+Hq row:=p1.phi
   simp only [List.length_cons] at hb OG
   refine ⟨⟨by omega,by simp only [List.length_cons];omega,Int.le_refl _⟩,⟨r,qq,kg,kt,?_,h1,h2,by omega,p1.ok,p2,?_⟩,?_⟩
   ·simp
   ·rw [show qu.length+1+Hq row=(qu.length+Hq row)+1 by omega] at OG
    simp only [Tz,hs] at OG
    rw [VC]
    exact OG
   ·simp only [List.length_cons]
    have:(List.take (qq.length+1-Int.toNat 1) (List.drop (Int.toNat 1) ((xn:Int)::qq))).length=qq.length:=by simp
    rw [this]
    omega
 ·have:qu= []:=List.eq_nil_of_length_eq_zero (by omega)
  subst this
  rw [AT] at OG
  subst OG
  have hpr:=RG hLN hg PA r3
  have hvl:=hv.lower gs row
  have XU: ∀qs:List (List Int),(∀q∈qs,q∈c9 row gs)->V N k (L+1) (qs.foldl (λs q=>Dz k (L+1) q s) (G.set L gs,T.set L row))/\Qg (L+1) (G.set L gs,T.set L row) (qs.foldl (λs q=>Dz k (L+1) q s) (G.set L gs,T.set L row)):=
   fun qs JF=>GM n1 n2 (by omega) qs _ (λq hq=>hpr q (JF q hq)) hvl
  refine ⟨_,if_pos (by show row.length<=20;rw [PA.rl];exact n2),?_⟩
  dsimp only
  have hol:=vH row
  have OZ:=PA.rl
  refine Aj (Iv row).length (λv=>v.2.1) (λi v=> ∃(s:As×As) (kg kt:Nat),v=(L,(i:Int),s.1,kg,s.2,kt,Iv row,(N:Int),())/\L<=kg/\L<=kt/\s=(((Iv row).take i).flatMap λy=>gs.map (Oe row y)).foldl (λs q=>Dz k (L+1) q s) (G.set L gs,T.set L row)) rfl ⟨_,kg,kt,rfl,hkg,TR,rfl⟩ ?_
  rintro i v K hi lX ⟨s,kg,kt,rfl,h1,h2,hs⟩ hK
  dsimp only
  have Kq: ∀q∈((Iv row).take i).flatMap (λy=>gs.map (Oe row y)),q∈c9 row gs:= λq hq=>by
   obtain ⟨y,hy,hq⟩:=List.mem_flatMap.1 hq
   exact List.mem_flatMap.2 ⟨y,List.mem_of_mem_take hy,hq⟩
  refine Br.dec (λhl=>?_) λhl=>?_
  ·have hl:i<(Iv row).length:=by omega
   obtain ⟨f1,f2⟩:=XU _ Kq
   rw [<-hs] at f1 f2
   have g1:s.1.getD L []=gs:=by rw [(f2.low L (by omega)).1];exact ZU
   have g2:s.1.length=N:=f1.1
   obtain ⟨yn,YL,hyr⟩:=Ok.1 (List.getElem_mem hl)
   obtain ⟨t,ht⟩:=Option.ne_none_iff_exists'.1 hyr
   have hyN:yn<N:=by rw [<-OZ];exact iY ht
   obtain ⟨t1,t2,t3,t4⟩:=PA.rt _ _ ht
   refine ⟨⟨by omega,by omega⟩,(yn:Int),by rw [Int.toNat_natCast,List.getElem?_eq_getElem hl,YL],by omega,?_⟩
   rw [g1]
   refine Aj gs.length (λv=>v.2.2.1) (λj v=> ∃(s':As×As) (kg kt:Nat),v=(L,L,(j:Int),s'.1,kg,s'.2,kt,Iv row,(N:Int),())/\L<=kg/\L<=kt/\s'=(((Iv row).take i).flatMap (λy=>gs.map (Oe row y))++(gs.take j).map (Oe row (yn:Int))).foldl (λs q=>Dz k (L+1) q s) (G.set L gs,T.set L row)) rfl ⟨s,kg,kt,rfl,h1,h2,by simpa using hs⟩ ?_
   rintro j v K' hj uR ⟨s',kg,kt,rfl,h1,h2,yi⟩ UM
   dsimp only
   refine Br.dec (λGd=>?_) λGd=>?_
   ·have Gd:j<gs.length:=by omega
    have HE: ∀q∈((Iv row).take i).flatMap (λy=>gs.map (Oe row y))++(gs.take j).map (Oe row (yn:Int)),q∈c9 row gs:= λq hq=>by
     rcases List.mem_append.1 hq with hq|hq
     ·exact Kq q hq
     ·obtain ⟨o,ho,rfl⟩:=List.mem_map.1 hq
      exact List.mem_flatMap.2 ⟨(yn:Int),Ok.2 ⟨yn,rfl,hyr⟩,List.mem_map.2 ⟨o,List.mem_of_mem_take ho,rfl⟩⟩
    obtain ⟨f1',f2'⟩:=XU _ HE
    rw [<-yi] at f1' f2'
    obtain ⟨G',T'⟩:=s'
    dsimp only at f1' f2'⊢
    have g1':G'.getD L []=gs:=by have:=(f2'.low L (by omega)).1;dsimp only at this;rw [this];exact ZU
    have g3':T'.getD L []=row:=by have:=(f2'.low L (by omega)).2;dsimp only at this;rw [this];exact hT1 row
    have g4':G'.length=N:=f1'.1
    have g5':T'.length=N:=f1'.2.1
    obtain ⟨g,jV,Ny,XV⟩:=hg gs[j] (List.getElem_mem Gd)
    have hgj:gs.getD j none=some g:=by rw [xV Gd];exact jV
    have x5:some g∈gs:=by rw [<-jV];exact List.getElem_mem Gd
    have hy:=Ny.lt hyN
    obtain ⟨t',td⟩:=Option.ne_none_iff_exists'.1 (r3 yn t g ht x5)
    obtain ⟨u1,u2,u3,u4⟩:=PA.rt _ _ td
    have Aex:Oe row (yn:Int) gs[j]=Aa (Aa t g) (Ag t'):=by rw [jV];exact dX ht td
    have YG:=hpr _ (List.mem_flatMap.2 ⟨(yn:Int),Ok.2 ⟨yn,rfl,hyr⟩,List.mem_map.2 ⟨gs[j],List.getElem_mem Gd,Aex⟩⟩)
    simp only [g1',g3',Int.toNat_natCast,hgj,ht,Option.getD_some]
    have oJ:L<Int.toNat ((L+1:Nat):Int):=by omega
    have OE:=um n1 n2 k (L+1) _ (G',T') (by omega) f1' YG.1 YG.2
    have Alx:((Dz k (L+1) (Aa (Aa t g) (Ag t')) (G',T')).1).length=N:=OE.v.1
    have Aly:((Dz k (L+1) (Aa (Aa t g) (Ag t')) (G',T')).2).length=N:=OE.v.2.1
    have TQ:((N:Int)-((L+1:Nat):Int)).toNat=k:=by omega
    refine ⟨⟨by omega,by omega⟩,⟨by omega,by omega⟩,some (Aa t g),if_pos ⟨Rp t1,kZ t1 Ny⟩,_,uY Ny hyN,⟨by omega,by omega⟩,Ag t',?_,some (Aa (Aa t g) (Ag t')),?_,_,if_pos ⟨⟨N,L+1,_,rfl,?pr⟩,?lt⟩,⟨oJ,?k1⟩,⟨oJ,?k2⟩,⟨oJ,?k3⟩,⟨oJ,?k4⟩,?go⟩
    case pr=>exact ⟨n1,n2,rfl,rfl,by omega,by rw [show N-(L+1)=k by omega];exact f1',YG.1,YG.2⟩
    case lt=>
     show ((N:Int)-((L+1:Nat):Int)).toNat<m
     omega
    case go=>
     dsimp only
     rw [Ah (by omega)]
     refine UM Gd _ rfl ⟨_,_,_,rfl,?_,?_,?_⟩
     ·show L<=min kg (Int.toNat ((L+1:Nat):Int));omega
     ·show L<=min kt (Int.toNat ((L+1:Nat):Int));omega
     ·rw [List.take_add_one,List.getElem?_eq_getElem Gd,Option.toList_some,List.map_append,<-List.append_assoc,List.foldl_append,<-yi]
      simp only [List.map_cons,List.map_nil,List.foldl_cons,List.foldl_nil,Aex,TQ,Int.toNat_natCast,Option.getD_some]
    case k1=>simp only [TQ,Int.toNat_natCast,Option.getD_some];omega
    case k2=>simp only [TQ,Int.toNat_natCast,Option.getD_some];omega
    case k3=>simp only [TQ,Int.toNat_natCast,Option.getD_some];omega
    case k4=>simp only [TQ,Int.toNat_natCast,Option.getD_some];omega
    ·rw [Int.toNat_natCast,td,Option.getD_some]
     exact if_pos ⟨by show t'.length<=20;rw [u1.1];exact n2,u1.2.row⟩
    ·exact if_pos ⟨Rp (t1.comp Ny),kZ (t1.comp Ny) u1.inv⟩
   ·have:j=gs.length:=by omega
    subst this
    rw [Ah (by omega)]
    refine hK hl _ rfl ⟨s',kg,kt,rfl,h1,h2,?_⟩
    rw [yi,List.take_length,List.take_add_one,List.getElem?_eq_getElem hl,Option.toList_some,List.flatMap_append,YL]
    simp
  ·have:i=(Iv row).length:=by omega
   subst this
   rw [List.take_length] at hs
   refine ⟨h1,h2,?_⟩
   rw [hs]
   rfl
theorem RY {m:Nat} (Ab4:Bj Tryz.prog 130 (Qv m)):Bj Tryz.prog 130 (Qv (m+1)):=
 Bj.ix (WL [Mj+7]) (Ae LK (Ft fZ (Ae pW (Ae Ra (Ft Ab4 Ai))))) mixed Tryz.func130 (by kernel_rfl) (by kernel_rfl) λx h=>Afn x.1 x.2.1 x.2.2.1 x.2.2.2.1 x.2.2.2.2.1 h
theorem EM:Bj Tryz.prog 130 (Qv 0):=
 Bj.ix lE Ai mixed Tryz.func130 (by kernel_rfl) (by kernel_rfl) λ_ h=>absurd h.2 (Nat.not_lt_zero _)
theorem pT: ∀m,Bj Tryz.prog 130 (Qv m)
 |0=>EM
 |m+1=>RY (pT m)
noncomputable abbrev w9:MSpec:=ix YP (λx=> ∃N L q,x.2.2.2.2.1=some q/\Qf N L x.1 x.2.1 x.2.2.1 x.2.2.2.1 q)
 (λx=>((x.1,(Dz (x.1-x.2.2.2.1).toNat x.2.2.2.1.toNat (x.2.2.2.2.1.getD []) (x.2.1,x.2.2.1)).1,(Dz (x.1-x.2.2.2.1).toNat x.2.2.2.1.toNat (x.2.2.2.2.1.getD []) (x.2.1,x.2.2.1)).2,()),()))
theorem EN:Bj Tryz.prog 130 w9:=Bj.YS (λx=>(x.1-x.2.2.2.1).toNat) pT
end Go.Proofs.YtfolipnappekaaaGreat

namespace Go.Proofs.YtfolipnappekaaaGreat
open Go.RowKit
def Nu (n:Nat):As:=List.replicate n []
def Xg (n i:Nat):Row:=(List.replicate n none).set i (some (upto n))
def Ss (n:Nat):As:=(List.range n).map λi=>Xg n i
def Oq (n:Nat) (gens:List PO):As×As:=gens.foldl (λs o=>Dz n 0 (o.getD []) s) (Nu n,Ss n)
noncomputable abbrev CJ:MSpec:= {Fz:= [none,none],ins:= [(false, .Er tI),(false, .Er WI)],Dv:=false,Es:= [none,none,none],outs:= [.Er tI, .Ak tO qN false, .Ak tO qN false],fn:= λ_=>none,rp:=some 141}
noncomputable abbrev dV:MSpec:=ix CJ (λx=>(1<=x.1/\x.1<=20)/\List.length x.2.1<=4294967296/\ ∀o∈(x.2.1:List PO),∃g,o=some g/\Pm x.1.toNat g)
 (λx=>((x.1,(Oq x.1.toNat x.2.1).1,(Oq x.1.toNat x.2.1).2,()),()))
abbrev Va:Type:=Int×List (List (Option (List Int)))×Int×List (List (Option (List Int)))×PUnit
theorem zV (n:Int) (gens:List (Option (List Int))) (P:(Int×List (List (Option (List Int)))×List (List (Option (List Int)))×Unit)×Unit->Prop):(((0:Int)<=n/\n<(↑Bh:Int)+(1:Int))/\n=n/\0=0/\(List.replicate n.toNat ([]:List (Option (List Int)))).length=(List.replicate n.toNat ([]:List (Option (List Int)))).length/\0=0/\0=([]:List Int).length/\Bm (λ(v3:Va) (k4:Va->Prop)=>Br (decide (v3.1<n)) (((0:Int)<=n/\n<(↑Bh:Int)+(1:Int))/\n=n/\ ∃(y5:Option (List Int)),Km.fn (n,())=some y5/\((0:Int)<=v3.1/\v3.1<(↑(List.replicate n.toNat (none:Option (List Int))).length:Int))/\0+v3.1.toNat<(List.replicate n.toNat (none:Option (List Int))).length/\0=0/\(List.replicate n.toNat (none:Option (List Int))).length=((List.replicate n.toNat (none:Option (List Int))).set (0+v3.1.toNat) y5).length/\(0=0/\v3.2.2.2.1.length=v3.2.2.2.1.length)/\(0=0/\1= [(List.replicate n.toNat (none:Option (List Int))).set (0+v3.1.toNat) y5].length)/\0< [(List.replicate n.toNat (none:Option (List Int))).set (0+v3.1.toNat) y5].length/\v3.2.2.2.1.length+ [(List.replicate n.toNat (none:Option (List Int))).set (0+v3.1.toNat) y5].length<=Bh/\0=0/\v3.2.1.length=v3.2.1.length/\0=0/\(v3.2.2.2.1++ [(List.replicate n.toNat (none:Option (List Int))).set (0+v3.1.toNat) y5]).length=(v3.2.2.2.1++ [(List.replicate n.toNat (none:Option (List Int))).set (0+v3.1.toNat) y5]).length/\k4 (IntKind.i64.wrap (v3.1+(1:Int)),v3.2.1,v3.2.2.1,v3.2.2.2.1++ [(List.replicate n.toNat (none:Option (List Int))).set (0+v3.1.toNat) y5],())) (0=0/\v3.2.1.length=v3.2.1.length/\0=0/\v3.2.2.2.1.length=v3.2.2.2.1.length/\Bm (λ(v5:Va) (k6:Va->Prop)=>Br (decide (v5.1<(↑gens.length:Int))) (∃(y7:Option (List Int)),idx gens v5.1=some y7/\0=0/\v5.2.1.length=v5.2.1.length/\0=0/\v5.2.2.2.1.length=v5.2.2.2.1.length/\ ∃(y8:(Int×List (List (Option (List Int)))×List (List (Option (List Int)))×PUnit)×PUnit),w9.fn (v5.2.2.1,v5.2.1,v5.2.2.2.1,(0:Int),y7,())=some y8/\0=0/\y8.1.2.1.length=y8.1.2.1.length/\0=0/\y8.1.2.2.1.length=y8.1.2.2.1.length/\k6 (IntKind.i64.wrap (v5.1+(1:Int)),y8.1.2.1,y8.1.1,y8.1.2.2.1,())) ((0=0/\v5.2.1.length=v5.2.1.length)/\(0=0/\v5.2.2.2.1.length=v5.2.2.2.1.length)/\P ((v5.2.2.1,v5.2.1,v5.2.2.2.1,()),()))) ((0:Int),v3.2.1,v3.2.2.1,v3.2.2.2.1,PUnit.unit))) ((0:Int),List.replicate n.toNat ([]:List (Option (List Int))),n,[],PUnit.unit))=fnMW Vc (look [(105,Km),(130,w9)]) dV Tryz.f98 (n,gens,()) P:=by kernel_rfl
theorem Sr (n i:Nat):(Nu n).getD i []= []:=by
 unfold Nu
 rw [List.getD_eq_getElem?_getD,List.getElem?_replicate]
 split<;>rfl
theorem ik {n i:Nat} (h:i<n):(Ss n).getD i []=Xg n i:=by
 unfold Ss
 rw [List.getD_eq_getElem?_getD,List.getElem?_map,List.getElem?_range h]
 rfl
theorem jJ {n i y:Nat} (h:i<n):(Xg n i).getD y none=if i=y then some (upto n) else none:=by
 unfold Xg
 rw [Gz,List.length_replicate]
 by_cases e:i=y
 ·rw [if_pos ⟨e,h⟩,if_pos e]
 ·rw [if_neg (λhh=>e hh.1),if_neg e,List.getD_eq_getElem?_getD,List.getElem?_replicate]
  split<;>rfl
theorem qh {n:Nat} (h1:1<=n) (h2:n<=20): ∀(k l:Nat),l+k=n->Zj n k l (Nu n,Ss n)
 |0,l,hk=>Sr n l
 |k+1,l,hk=>by
  have hl:l<n:=by omega
  have hg: ∀(g:List Int) (j:Nat),some g∈(Nu n).getD j []->False:= λg j hg=>by rw [Sr] at hg;cases hg
  refine ⟨qh h1 h2 k (l+1) (by omega),⟨λo ho=>?_,?_,?_,λy t e0=>?_,λy t g _ Mo=>(hg _ _ Mo).elim,λy t g t' _ Mo=>(hg _ _ Mo).elim⟩,λg Mo=>(hg _ _ Mo).elim⟩
  ·have ho:o∈(Nu n).getD l []:=ho
   rw [Sr] at ho;cases ho
  ·show ((Ss n).getD l []).length=n
   rw [ik hl];simp [Xg]
  ·show ((Ss n).getD l []).getD l none=_
   rw [ik hl,jJ hl,if_pos rfl]
  ·replace e0:((Ss n).getD l []).getD y none=some t:=e0
   rw [ik hl,jJ hl] at e0
   by_cases hy:l=y
   ·rw [if_pos hy] at e0
    have e1:=Option.some.inj e0
    subst e1 hy
    exact ⟨Pm.id h1 h2,λi hi=>cK (by omega),cK hl, .id⟩
   ·rw [if_neg hy] at e0;cases e0
theorem zA (n:Nat): ∀(k l:Nat),GBf k l (Nu n,Ss n)
 |0,_=>trivial
 |k+1,l=>⟨zA n k (l+1),by show ((Nu n).getD l []).length<=_;rw [Sr];exact Nat.zero_le _⟩
theorem nG {n:Nat} (h1:1<=n) (h2:n<=20):V n n 0 (Nu n,Ss n):=⟨by simp [Nu],by simp [Ss],qh h1 h2 n 0 (by omega),zA n n 0⟩
def ZE (n:Nat) (gens:List PO):Prop:= ∀o∈gens,∃g,o=some g/\Pm n g
theorem xg {n:Nat} {gens:List PO} {j:Nat} (hj:j<gens.length):Oq n (gens.take (j+1))=Dz n 0 (gens[j].getD []) (Oq n (gens.take j)):=by
 unfold Oq
 rw [List.take_add_one,List.getElem?_eq_getElem hj,Option.toList_some,List.foldl_append]
 rfl
theorem ka {n:Nat} (h1:1<=n) (h2:n<=20): ∀(gens:List PO) (s:As×As),ZE n gens->V n n 0 s->V n n 0 (gens.foldl (λs o=>Dz n 0 (o.getD []) s) s)/\
  Qg 0 s (gens.foldl (λs o=>Dz n 0 (o.getD []) s) s)/\(∀g,some g∈gens->Gn n ((gens.foldl (λs o=>Dz n 0 (o.getD []) s) s).1.getD 0 []) g)/\ ∀o∈(gens.foldl (λs o=>Dz n 0 (o.getD []) s) s).1.getD 0 [],o∈s.1.getD 0 []\/o∈gens
 | [],s,_,hv=>⟨hv,Qg.refl _ _,(λ_ hg=>by cases hg),λ_ ho=> .inl ho⟩
 |o::gens,s,hg,hv=>by
  obtain ⟨g,rfl,Ny⟩:=hg o (by simp)
  have ha:=um h1 h2 n 0 g s (by omega) hv Ny (λi hi=>absurd hi (Nat.not_lt_zero _))
  obtain ⟨a1,a2,a3,a4⟩:=ka h1 h2 gens (Dz n 0 g s) (λo ho=>hg o (by simp [ho])) ha.v
  refine ⟨a1,ha.grow.trans a2 (Nat.le_refl _),λg' Mo=>?_,λo ho=>?_⟩
  ·rcases List.mem_cons.1 Mo with e|Mo
   ·cases e;exact ha.Ab5.mono λg hg=>a2.sS _ _ hg
   ·exact a3 g' Mo
  ·rcases a4 o ho with h|h
   ·rcases ha.gens o h with h|h
    ·exact .inl h
    ·exact .inr (by simp [h])
   ·exact .inr (by simp [h])
theorem xf {n:Nat} (h1:1<=n) (h2:n<=20) {gens:List PO} (hg:ZE n gens):V n n 0 (Oq n gens):=(ka h1 h2 gens _ hg (nG h1 h2)).1
theorem Wm {n:Nat} (h1:1<=n) (h2:n<=20) {gens:List PO} (hg:ZE n gens) {p:List Int} (hp:Pm n p):Du (Oq n gens).2 n 0 p=true↔Gn n gens p:=by
 obtain ⟨a1,a2,a3,a4⟩:=ka h1 h2 gens _ hg (nG h1 h2)
 have hS:x4 n λg=>some g∈gens:=⟨⟨h1,h2⟩,λg Mo=>by obtain ⟨g',e,h⟩:=hg _ Mo;cases e;exact h⟩
 have Kq: ∀g,some g∈(Oq n gens).1.getD 0 []->some g∈gens:= λg Mo=>by
  rcases a4 _ Mo with h|h
  ·have h:some g∈(Nu n).getD 0 []:=h
   rw [Sr] at h;cases h
  ·exact h
 have ZX:x4 n λg=>some g∈(Oq n gens).1.getD 0 []:=⟨⟨h1,h2⟩,λg Mo=>hS.2 g (Kq g Mo)⟩
 refine (Oh h1 h2 n 0 (Oq n gens) (by omega) a1.2.2.1 p hp λi hi=>absurd hi (Nat.not_lt_zero _)).trans ⟨λh=>h.mono Kq,λh=>h.trans ZX λg Mo=>a3 g Mo⟩
theorem zc (n:Int) (gens:List (Option (List Int))) (h:(1<=n/\n<=20)/\List.length gens<=4294967296/\ ∀o∈(gens:List PO),∃g,o=some g/\Pm n.toNat g):
  fnMW Vc (look [(105,Km),(130,w9)]) dV Tryz.f98 (n,gens,()) (λ(z:(Int×List (List (Option (List Int)))×List (List (Option (List Int)))×Unit)×Unit)=>z=((n,(Oq n.toNat gens).1,(Oq n.toNat gens).2,()),())):=by
 obtain ⟨⟨h1,h2⟩,h3,hg⟩:=h
 obtain ⟨N,rfl⟩: ∃N:Nat,n=N:=⟨n.toNat,by omega⟩
 rw [Int.toNat_natCast] at hg⊢
 have h1:1<=N:=by omega
 have h2:N<=20:=by omega
 refine Eq.mp (zV (N:Int) gens _) ?_
 have hm:((0:Int)<=(N:Int)/\(N:Int)<(Bh:Int)+1):=⟨by omega,by show (N:Int)<(4294967296:Int)+1;omega⟩
 simp only [hm,and_self,eq_self,true_and,Int.toNat_natCast,Nat.zero_add,List.length_nil,List.length_set,List.length_replicate,List.length_cons,Nat.lt_add_one,List.length_append]
 refine Aj N (λv=>v.1) (λj v=>v=((j:Int),Nu N,(N:Int),(List.range j).map (Xg N),())) rfl rfl ?_
 rintro j v K hj hi rfl hK
 dsimp only
 refine Br.dec (λhl=>?_) λhl=>?_
 ·refine ⟨_,if_pos ⟨by show (1:Int)<=N;omega,by show (N:Int)<=20;omega⟩,⟨by omega,by omega⟩,by rw [Int.toNat_natCast];omega,?_,?_⟩
  ·show _<=4294967296
   simp only [List.length_map,List.length_range]
   omega
  ·rw [Ah (by omega)]
   refine hK (by omega) _ rfl ?_
   rw [List.range_succ,List.map_append]
   rfl
 ·have:j=N:=by omega
  subst this
  refine Aj gens.length (λv=>v.1) (λi v=>v=((i:Int),(Oq j (gens.take i)).1,(j:Int),(Oq j (gens.take i)).2,())) rfl rfl ?_
  rintro i v K' lX Ajf rfl UM
  dsimp only
  refine Br.dec (λGd=>?_) λGd=>?_
  ·have Gd:i<gens.length:=by omega
   obtain ⟨g,jV,Ny⟩:=hg gens[i] (List.getElem_mem Gd)
   have hv:=xf h1 h2 (gens:=gens.take i) λo ho=>hg o (List.mem_of_mem_take ho)
   refine ⟨_,An Gd,_,if_pos ⟨j,0,g,jV,h1,h2,rfl,rfl,Nat.zero_le _,hv,Ny,λi hi=>absurd hi (Nat.not_lt_zero _)⟩,?_⟩
   rw [Ah (by omega)]
   refine UM Gd _ rfl ?_
   rw [xg Gd]
   simp only [Int.sub_zero,Int.toNat_natCast]
   rfl
  ·have:i=gens.length:=by omega
   subst this
   rw [List.take_length]
theorem ng:Bj Tryz.prog 98 dV:=
 Bj.ix lE (Ae mY (Ft EN Ai)) mixed Tryz.func98 (by kernel_rfl) (by kernel_rfl) λx h=>zc x.1 x.2.1 h
end Go.Proofs.YtfolipnappekaaaGreat

namespace Go.Proofs.YtfolipnappekaaaGreat
open Go.RowKit
def Wv (T:As):Nat->Nat
 |0=>1
 |j+1=>Wv T j*(Iv (T.getD j [])).length
noncomputable abbrev eY:Spec:=Cp (.pair (.ptr fc) (.pair tI .unit)) tI false true (λx=>x.2.1=0/\ ∃N:Nat,(1<=N/\N<=20)/\x.1.1=N/\V N N 0 (x.1.2.1,x.1.2.2.1)) (λx=>(Wv x.1.2.2.1 x.1.1.toNat:Int))
noncomputable abbrev yr:MSpec:= {Fz:= [none,none],ins:= [(false, .Er tI),(false, .Er cF)],Dv:=false,Es:= [none,none,none],outs:= [.Er tI, .Ak tO qN false, .Ak tO qN false],fn:= λ_=>none,rp:=some 141}
def Og (n:Int) (g:List (List Int)):As×As:=Oq n.toNat (g.map some)
noncomputable abbrev Sl:MSpec:=ix yr (λx=>(1<=x.1/\x.1<=20)/\List.length x.2.1<=4294967296/\ ∀g∈(x.2.1:List (List Int)),Pm x.1.toNat g)
 (λx=>((x.1,(Og x.1 x.2.1).1,(Og x.1 x.2.1).2,()),()))
noncomputable def Qp (p:PP):Int:=if Ax p=true then (Wv (Og p.1 p.2.2.1).2 p.1.toNat:Int) else 0
noncomputable abbrev Nb:Spec:=Cp (.pair Cu .unit) tI false true (λx=>Cb x.1) (λx=>Qp x.1)
noncomputable def Oj (p:PP) (s:List Int):Bool:=(Ax p&&Cy p.1 s)&&Du (Og p.1 p.2.2.1).2 p.1.toNat 0 s
noncomputable abbrev Vm:Spec:=Cp (.pair Cu (.pair tL .unit)) .bool false true (λx=>Cb x.1/\short x.2.1) (λx=>Oj x.1 x.2.1)
theorem WX (c:Int×List (List (Option (List Int)))×List (List (Option (List Int)))×Unit) (l:Int) (P:Int->Prop):(Bm (λ(v3:Int×Int×PUnit) (k4:Int×Int×PUnit->Prop)=>Br (decide (v3.2.1<c.1)) (∃(y5:List (Option (List Int))),idx c.2.2.1 v3.2.1=some y5/\ ∃(y6:(List Int×PUnit)×PUnit),Li.fn (y5,())=some y6/\ ∃(y7:Int),Nr.fn (List.take y6.1.1.length (List.drop 0 y6.1.1),())=some y7/\k4 (IntKind.i64.wrap (v3.1*y7),IntKind.i64.wrap (v3.2.1+(1:Int)),())) (P v3.1)) ((1:Int),l,PUnit.unit))=fnW Vc (look [(147,Li),(119,Nr)]) eY Tryz.f133 (c,l,()) P:=by kernel_rfl
theorem wX (p:Int×ByteArray×List (List Int)×Unit) (P:Int->Prop):(∃(y2:Bool),Dl.fn ((p.1,p.2.1,p.2.2.1,()),())=some y2/\Br (!y2) (P (0:Int)) (∃(y3:(Int×List (List (Option (List Int)))×List (List (Option (List Int)))×PUnit)×PUnit),Sl.fn (p.1,p.2.2.1,())=some y3/\ ∃(y4:Int),eY.fn ((y3.1.1,List.take y3.1.2.1.length (List.drop 0 y3.1.2.1),List.take y3.1.2.2.1.length (List.drop 0 y3.1.2.2.1),()),(0:Int),())=some y4/\P y4))=fnW Cf (look [(84,Dl),(98,Sl),(133,eY)]) Nb Tryz.f104 (p,()) P:=by kernel_rfl
theorem WQ (n i:Nat):(upto n).countP (λy=>decide ((i:Int)<=y))=n-i:=by
 induction n with
 |zero=>simp [upto]
 |succ n ih=>
  rw [aD,List.countP_append,ih]
  simp only [List.countP_cons,List.countP_nil,decide_eq_true_eq]
  split<;>omega
theorem VQ {n i:Nat} {gs:List PO} {row:Row} {H:List Int->Prop} (hi:i<n) (h:TL n i gs row H):(Iv row).length<=n-i:=by
 rw [<-WQ n i]
 unfold Iv
 rw [h.rl,<-List.countP_eq_length_filter]
 refine List.countP_mono_left λy hy hs=>?_
 obtain ⟨h1,h2⟩:=Jx.1 hy
 obtain ⟨t,ht⟩:=Option.isSome_iff_exists.1 hs
 obtain ⟨t1,t2,t3,_⟩:=h.rt _ _ ht
 refine decide_eq_true ?_
 refine Classical.byContradiction λhn=>?_
 have hy':y.toNat<i:=by omega
 have:=t1.inj hi (by omega:y.toNat<n) (by rw [t3,t2 _ hy'])
 omega
def fact:Nat->Nat
 |0=>1
 |n+1=>(n+1)*fact n
theorem xN: ∀n,1<=fact n
 |0=>Nat.le_refl _
 |n+1=>by have:=xN n;simp only [fact];exact Nat.le_trans this (Nat.le_mul_of_pos_left _ (by omega))
theorem IP {a b:Nat} (h:a<=b):fact a<=fact b:=by
 induction h with
 |refl=>exact Nat.le_refl _
 |step _ ih=>simp only [fact];exact Nat.le_trans ih (Nat.le_mul_of_pos_left _ (by omega))
theorem QT {n:Nat} {s:As×As} (hc:Zj n n 0 s): ∀j,j<=n->Wv s.2 j*fact (n-j)<=fact n
 |0,_=>by simp [Wv]
 |j+1,hj=>by
  have ih:=QT hc j (by omega)
  have h1:=VQ (by omega) (cV n 0 hc j (by omega) (by omega))
  have e:n-j=(n-(j+1))+1:=by omega
  simp only [Wv]
  rw [e] at ih h1
  simp only [fact] at ih
  rw [Nat.mul_assoc]
  exact Nat.le_trans (Nat.mul_le_mul_left _ (Nat.mul_le_mul_right _ h1)) ih
theorem JV {n:Nat} (h2:n<=20) {s:As×As} (hc:Zj n n 0 s) {j:Nat} (hj:j<=n):Wv s.2 j<=2432902008176640000:=by
 have h1:=QT hc j hj
 have h3:=xN (n-j)
 have h4:fact n<=2432902008176640000:=Nat.le_trans (IP h2) (by decide)
 have h5:Wv s.2 j*1<=Wv s.2 j*fact (n-j):=Nat.mul_le_mul_left _ h3
 omega
theorem VW (c:Int×List (List (Option (List Int)))×List (List (Option (List Int)))×Unit) (l:Int) (h:l=0/\ ∃N:Nat,(1<=N/\N<=20)/\c.1=N/\V N N 0 (c.2.1,c.2.2.1)):
  fnW Vc (look [(147,Li),(119,Nr)]) eY Tryz.f133 (c,l,()) (λ(z:Int)=>z=(Wv c.2.2.1 c.1.toNat:Int)):=by
 obtain ⟨rfl,N,⟨h1,h2⟩,hN,v⟩:=h
 obtain ⟨n,G,T,⟨⟩⟩:=c
 dsimp only at hN v⊢
 subst hN
 refine Eq.mp (WX ((N:Int),G,T,()) 0 _) ?_
 obtain ⟨v1,v2,v3,v4⟩:=v
 dsimp only at v1 v2⊢
 rw [Int.toNat_natCast]
 refine Aj N (λv=>v.2.1) (λj v=>v.1=(Wv T j:Int)) rfl rfl ?_
 rintro j ⟨o,i,⟨⟩⟩ K hj hi ho hK
 dsimp only at hi ho⊢
 subst hi ho
 refine Br.dec (λhl=>?_) λhl=>?_
 ·have hl:j<N:=by omega
  have hT:j<T.length:=by omega
  have Gl:=cV N 0 v3 j (by omega) (by omega)
  have OZ:=Gl.rl
  dsimp only at OZ
  rw [xU hT] at OZ
  refine ⟨_,An hT,_,if_pos (by show (T[j]).length<=20;omega),_,if_pos trivial,?_⟩
  rw [List.drop_zero,List.take_length,Ah (by omega)]
  have hb:=JV h2 v3 (j:=j+1) (by omega)
  simp only [Wv] at hb
  rw [xU hT] at hb
  have e:(Wv T j:Int)*((Iv T[j]).length:Int)=((Wv T j*(Iv T[j]).length:Nat):Int):=by push_cast;rfl
  show K (IntKind.i64.wrap ((Wv T j:Int)*((Iv T[j]).length:Int)),_,())
  rw [e,Cl (by omega) (by omega)]
  refine hK hl _ rfl ?_
  simp only [Wv]
  rw [xU hT]
 ·have:j=N:=by omega
  subst this
  rfl
theorem zy:Sound Tryz.prog 133 eY:=
 Sound.Cp lE (Ft fZ (Ae bF Ai)) mixed Tryz.func133 (by kernel_rfl) (by kernel_rfl) λx h=>VW x.1 x.2.1 h
theorem Cells.told {w:World} {S:Nat->Prop} {e:Ty} {cs:List Value} {xs:List e.den} (h:Cells w S (.slice e) cs xs): ∃o:Option (List e.den),Cells w S (.oslice e) cs o/\o.getD []=xs:=by
 simp only [Cells] at h
 obtain ⟨a,len,cap,rfl,h1,h2,h3⟩:=h
 cases a with
 |none=>
  rcases h3 with rfl|⟨g,o,h,_⟩
  ·refine ⟨none,?_,rfl⟩
   simp only [Cells]
   exact .inl ⟨trivial,cap,by rw [h1];rfl⟩
  ·cases h
 |some ad=>
  refine ⟨some xs,?_,rfl⟩
  simp only [Cells]
  exact .inr ⟨xs,ad,len,cap,rfl,rfl,h1,h2,h3.imp id λ⟨g,o,h,h4⟩=>⟨g,o,Option.some.inj h,h4⟩⟩
theorem AP {α β:Type} (Q:Nat->α->β->Prop): ∀(xs:List α),(∀i x,xs[i]?=some x-> ∃y,Q i x y)-> ∃ys:List β,ys.length=xs.length/\ ∀i x y,xs[i]?=some x->ys[i]?=some y->Q i x y:=by
 intro xs h
 refine ⟨List.ofFn λi:Fin xs.length=>Classical.choose (h i xs[i] (List.getElem?_eq_getElem i.2)),by simp,λi x y h1 h2=>?_⟩
 obtain ⟨hi,rfl⟩:=List.getElem?_eq_some_iff.1 h1
 obtain ⟨lX,rfl⟩:=List.getElem?_eq_some_iff.1 h2
 rw [List.getElem_ofFn]
 exact Classical.choose_spec (h i xs[i] (List.getElem?_eq_getElem hi))
theorem Bd.YZ {w:World} {S:Nat->Prop} {e:Ty} {v:Value} {xs:List (List e.den)} (h:Bd w S (.slice (.slice e)) v xs): ∃os:List (Option (List e.den)),Bd w S (.slice (.oslice e)) v os/\os.map (·.getD [])=xs:=by
 obtain ⟨cs,hc,rfl⟩:=h
 simp only [Cells] at hc
 obtain ⟨a,len,cap,rfl,h1,h2,h3⟩:=hc
 rcases h3 with rfl|⟨g,o,rfl,hg,hS,h4⟩
 ·refine ⟨[],⟨_,?_,rfl⟩,rfl⟩
  simp only [Cells]
  exact ⟨a,len,cap,rfl,h1,h2, .inl trivial⟩
 ·obtain ⟨os,e1,e2⟩:=AP (λi (x:List e.den) (y:Option (List e.den))=>y.getD []=x/\ ∃es:List Value,es.length=1/\(∀j u,es[j]?=some u->w.cell? ⟨g,o+i*1+j,none⟩=some u)/\Cells w S (.oslice e) es y) xs λi x hx=>by
   obtain ⟨es,k1,k2,k3⟩:=h4 i x hx
   obtain ⟨y,k4,k5⟩:=Cells.told (e:=e) (by simp only [Cells];exact k3)
   exact ⟨y,k5,es,k1,k2,k4⟩
  refine ⟨os,⟨_,?_,rfl⟩,?_⟩
  ·simp only [Cells]
   refine ⟨_,len,cap,rfl,by rw [h1,e1],h2, .inr ⟨g,o,rfl,hg,hS,λi y hy=>?_⟩⟩
   obtain ⟨hi,_⟩:=List.getElem?_eq_some_iff.1 hy
   obtain ⟨_,es,k1,k2,k3⟩:=e2 i _ y (List.getElem?_eq_getElem (by omega)) hy
   simp only [Cells] at k3
   exact ⟨es,k1,k2,k3⟩
  ·refine List.ext_getElem (by simp [e1]) λi g1 g2=>?_
   rw [List.getElem_map]
   exact (e2 i _ _ (List.getElem?_eq_getElem g2) (List.getElem?_eq_getElem (by omega))).1
theorem q7:Bj Tryz.prog 98 Sl:=by
 have h:=ng
 refine ⟨h.enter,λw S π us x r o g vs h1 hg h2 h3 hS h4 h5=>?_⟩
 obtain ⟨n,gens,⟨⟩⟩:=x
 match us,h2 with
 |u1::u2::us,h2=>
  obtain ⟨h6,⟨h7,h8⟩,h9⟩:=h2
  obtain ⟨os,jU,cv⟩:=Bd.YZ (e:=tI) h8
  have cv:os.map (·.getD [])=(gens:List (List Int)):=cv
  have Yx:(1<=n/\n<=20)/\List.length gens<=4294967296/\ ∀g∈(gens:List (List Int)),Pm n.toNat g:=Classical.byContradiction λhn=>by
   have:Sl.fn (n,gens,())=none:=if_neg hn
   rw [this] at h5;cases h5
  have hos:os=gens.map some:=by
   rw [<-cv,List.map_map]
   refine (List.map_id os).symm.trans (List.map_congr_left λx hx=>?_)
   cases x with
   |some y=>rfl
   |none=>
    have:=Yx.2.2 [] (by rw [<-cv];exact List.mem_map.2 ⟨none,hx,rfl⟩)
    have h1:=this.n1
    have h2:=this.1
    simp at h2
    omega
  have hv:Sl.fn (n,gens,())=some ((n,(Og n gens).1,(Og n gens).2,()),()):=if_pos Yx
  rw [hv] at h5
  have h5:=Option.some.inj h5
  refine h.calls w S π (u1::u2::us) (n,os,()) r o g vs h1 hg ⟨h6,⟨h7,jU⟩,h9⟩ h3 hS h4 ?_
  refine (if_pos ⟨Yx.1,by rw [hos,List.length_map];exact Yx.2.1,λy hy=>?pp⟩).trans (congrArg some ?qq)
  case pp=>
   replace hy:y∈os:=hy
   rw [hos] at hy
   obtain ⟨g,hg,rfl⟩:=List.mem_map.1 hy
   exact ⟨g,rfl,Yx.2.2 g hg⟩
  case qq=>subst hos;exact h5
theorem We {p:PP} (hv:Valid p):(1<=p.1/\p.1<=20)/\List.length p.2.2.1<=4294967296/\ ∀g∈p.2.2.1,Pm p.1.toNat g:=
 ⟨hv.n,by have:=hv.lP;omega,λg hg=>⟨by have:=hv.len g hg;omega,bp (hv.perm g hg)⟩⟩
theorem Wx {n:Nat} {g:List (List Int)} (h: ∀x∈g,Pm n x):ZE n (g.map some):= λo ho=>by
 obtain ⟨x,hx,rfl⟩:=List.mem_map.1 ho
 exact ⟨x,rfl,h x hx⟩
theorem uC {p:PP} (hv:Valid p):V p.1.toNat p.1.toNat 0 (Og p.1 p.2.2.1):=by
 have:=hv.n
 exact xf (by omega) (by omega) (Wx (We hv).2.2)
theorem vR (p:PP) (h:Cb p):fnW Cf (look [(84,Dl),(98,Sl),(133,eY)]) Nb Tryz.f104 (p,()) (λ(z:Int)=>z=Qp p):=by
 refine Eq.mp (wX p _) ⟨_,if_pos h,?_⟩
 show Br (!Ax p) _ _
 unfold Qp
 cases hv:Ax p with
 |false=>exact Br.of (λ_=>rfl) λhh=>by cases hh
 |true=>
  refine Br.of (λhh=>by cases hh) λ_=>?_
  have hV:=valid hv
  have hn:=hV.n
  refine ⟨_,if_pos (We hV),_,if_pos ⟨rfl,p.1.toNat,⟨by omega,by omega⟩,(Int.toNat_of_nonneg (by omega:(0:Int)<=p.1)).symm,?vv⟩,?_⟩
  case vv=>
   simp only [List.drop_zero,List.take_length]
   exact uC hV
  simp only [List.drop_zero,List.take_length]
  exact (if_pos trivial).symm
theorem lv:Sound Tryz.prog 104 Nb:=
 Sound.Cp Bg (Ae Sq (Ft q7 (Ae zy Ai))) mixed Tryz.func104 (by kernel_rfl) (by kernel_rfl) λx h=>vR x.1 h
end Go.Proofs.YtfolipnappekaaaGreat

namespace Go.Proofs.YtfolipnappekaaaGreat
open Go.RowKit
theorem jn {α:Type} [DecidableEq α]: ∀ {l1 l2:List α},l1.Nodup->(∀x∈l1,x∈l2)->l1.length<=l2.length
 | [],_,_,_=>Nat.zero_le _
 |a::l,l2,hn,hs=>by
  obtain ⟨h1,h2⟩:=List.nodup_cons.1 hn
  have ha:=hs a (by simp)
  have:=jn (l1:=l) (l2:=l2.erase a) h2 λy hy=>by
   have hya:y≠a:= λe'=>h1 (by rw [<-e'];exact hy)
   exact (List.mem_erase_of_ne hya).2 (hs y (by simp [hy]))
  rw [List.length_erase_of_mem ha] at this
  have:=List.length_pos_of_mem ha
  simp only [List.length_cons]
  omega
def kM (n:Nat) (T:As):Nat->Nat->List (List Int)
 |0,_=> [upto n]
 |k+1,l=>(Iv (T.getD l [])).flatMap λy=>(kM n T k (l+1)).map λq=>Aa q (((T.getD l []).getD y.toNat none).getD [])
def tN (T:As):Nat->Nat->Nat
 |0,_=>1
 |k+1,l=>(Iv (T.getD l [])).length*tN T k (l+1)
theorem yN (n:Nat) (T:As): ∀k l,(kM n T k l).length=tN T k l
 |0,_=>rfl
 |k+1,l=>by
  simp only [kM,tN,List.length_flatMap,List.length_map,yN n T k (l+1)]
  generalize Iv (T.getD l [])=o
  induction o with
  |nil=>simp
  |cons a o ih=>simp only [List.map_cons,List.sum_cons,ih,List.length_cons,Nat.succ_mul];omega
theorem tE (T:As): ∀k j,Wv T (j+k)=Wv T j*tN T k j
 |0,j=>by simp [tN]
 |k+1,j=>by
  have:=tE T k (j+1)
  rw [show j+(k+1)=j+1+k by omega,this]
  simp only [Wv,tN]
  rw [Nat.mul_assoc]
theorem yZ (n:Nat) (T:As):(kM n T n 0).length=Wv T n:=by
 rw [yN,show Wv T n=Wv T (0+n) by rw [Nat.zero_add],tE]
 simp [Wv]
theorem p9 {n:Nat} (h1:1<=n) (h2:n<=20) {s:As×As} : ∀(k l:Nat),l+k=n->Zj n k l s-> ∀p,p∈kM n s.2 k l↔Pm n p/\Fx l p/\Du s.2 k l p=true
 |0,l,hk,hc,p=>by
  have hl:l=n:=by omega
  subst hl
  simp only [kM,List.mem_singleton]
  exact ⟨λe=>by subst e;exact ⟨Pm.id h1 h2,λi hi=>cK hi,rfl⟩,λh=>h.2.1.all h.1⟩
 |k+1,l,hk,hc,p=>by
  obtain ⟨c1,c2,c3⟩:=hc
  have ih:=p9 h1 h2 k (l+1) (by omega) c1
  have bX:l<n:=by omega
  simp only [kM,List.mem_flatMap,List.mem_map]
  constructor
  ·rintro ⟨y,hy,q,hq,rfl⟩
   obtain ⟨yn,rfl,YL⟩:=Ok.1 hy
   obtain ⟨t,ht⟩:=Option.ne_none_iff_exists'.1 YL
   obtain ⟨t1,t2,t3,t4⟩:=c2.rt _ _ ht
   obtain ⟨q1,q2,q3⟩:=(ih q).1 hq
   rw [Int.toNat_natCast,ht,Option.getD_some]
   have hap:ap (Aa q t) l=yn:=by rw [Fp q1 t1 bX,q2 l (by omega),t3]
   refine ⟨q1.comp t1,λi hi=>by rw [Fp q1 t1 (by omega),q2 i (by omega),t2 i hi],?_⟩
   simp only [Du]
   rw [show (It (Aa q t) (l:Int)).toNat=ap (Aa q t) l from rfl,hap,ht]
   show Du s.2 k (l+1) (Aa (Aa q t) (Ag t))=true
   rw [Ek q1 t1 t1.inv,Zq t1,comp_id q1]
   exact q3
  ·rintro ⟨p1,p2,p3⟩
   simp only [Du] at p3
   rw [show (It p (l:Int)).toNat=ap p l from rfl] at p3
   split at p3
   ·cases p3
   ·rename_i t ht
    obtain ⟨t1,t2,t3,t4⟩:=c2.rt _ _ ht
    refine ⟨(ap p l:Int),Ok.2 ⟨ap p l,rfl,by rw [ht];simp⟩,Aa p (Ag t),(ih _).2 ⟨p1.comp t1.inv,Fx.div p1 t1 p2 t2 bX t3,p3⟩,?_⟩
    rw [Int.toNat_natCast,ht,Option.getD_some,Ek p1 t1.inv t1,Wp t1,comp_id p1]
theorem pa {n:Nat} (h1:1<=n) (h2:n<=20) {s:As×As} : ∀(k l:Nat),l+k=n->Zj n k l s->(kM n s.2 k l).Nodup
 |0,l,hk,hc=>by simp [kM]
 |k+1,l,hk,hc=>by
  obtain ⟨c1,c2,c3⟩:=hc
  have ih:=pa h1 h2 k (l+1) (by omega) c1
  have hm:=p9 h1 h2 k (l+1) (by omega) c1
  have bX:l<n:=by omega
  have rep: ∀y∈Iv (s.2.getD l []),∃(yn:Nat) (t:List Int),y=yn/\((s.2.getD l []).getD y.toNat none).getD []=t/\Pm n t/\ap t l=yn:= λy hy=>by
   obtain ⟨yn,rfl,YL⟩:=Ok.1 hy
   obtain ⟨t,ht⟩:=Option.ne_none_iff_exists'.1 YL
   obtain ⟨t1,t2,t3,t4⟩:=c2.rt _ _ ht
   exact ⟨yn,t,rfl,by rw [Int.toNat_natCast,ht];rfl,t1,t3⟩
  simp only [kM]
  refine List.pairwise_flatMap.2 ⟨λy hy=>?_,?_⟩
  ·obtain ⟨yn,t,rfl,e,t1,t3⟩:=rep y hy
   rw [e]
   refine List.pairwise_map.2 (List.Pairwise.imp_of_mem ?_ ih)
   intro a b ha hb Ff he
   have ha:=((hm a).1 ha).1
   have hb:=((hm b).1 hb).1
   have h3:=congrArg (λz=>Aa z (Ag t)) he
   simp only [Ek ha t1 t1.inv,Ek hb t1 t1.inv,Zq t1,comp_id ha,comp_id hb] at h3
   exact Ff h3
  ·refine List.Pairwise.imp_of_mem ?_ ((qz _).filter _)
   intro y z hy hz Ff a ha b hb he
   obtain ⟨yn,t,rfl,e,t1,t3⟩:=rep y hy
   obtain ⟨zn,u,rfl,e',u1,u3⟩:=rep z hz
   rw [e] at ha
   rw [e'] at hb
   obtain ⟨q,hq,rfl⟩:=List.mem_map.1 ha
   obtain ⟨q',cD,rfl⟩:=List.mem_map.1 hb
   obtain ⟨a1,a2,_⟩:=(hm q).1 hq
   obtain ⟨b1,b2,_⟩:=(hm q').1 cD
   have h3:=congrArg (λz=>ap z l) he
   simp only [Fp a1 t1 bX,Fp b1 u1 bX,a2 l (by omega),b2 l (by omega),t3,u3] at h3
   exact Ff (by rw [h3])
theorem kc {g:List (List Int)} (Q:List Int->Prop) {x:List Int} {d:Int} : ∀(ls:List Int) (L:List (List Int)) (D:List Int),(∀l∈ls,Q (Aa x (Af g l)))->(∀y∈L,Q y)->
  (∀y∈(Ej g x d ls L D).1,Q y)/\(∀y∈L,y∈(Ej g x d ls L D).1)/\((Ej g x d ls L D).2.2=true-> ∀l∈ls,Aa x (Af g l)∈(Ej g x d ls L D).1)/\
   ((Ej g x d ls L D).2.2=false->(Ej g x d ls L D).1.length=3000/\ ∃z,Q z/\z∉(Ej g x d ls L D).1)
 | [],L,D,_,h=>⟨h,λ_ h=>h,(λ_ l hl=>by cases hl),(λe=>by cases e)⟩
 |l::ls,L,D,hq,h=>by
  have cD: ∀l∈ls,Q (Aa x (Af g l)):= λl' h'=>hq l' (List.mem_cons_of_mem _ h')
  simp only [Ej]
  split
  ·rename_i hm
   obtain ⟨a1,a2,a3,a4⟩:=kc Q (d:=d) ls L D cD h
   refine ⟨a1,a2,λe l' Gd=>?_,a4⟩
   rcases List.mem_cons.1 Gd with rfl|Gd
   ·exact a2 _ hm
   ·exact a3 e l' Gd
  ·rename_i hn
   split
   ·rename_i hf
    exact ⟨h,λ_ h=>h,(λe=>by cases e),λ_=>⟨hf,_,hq l (by simp),hn⟩⟩
   ·obtain ⟨a1,a2,a3,a4⟩:=kc Q (d:=d) ls (L++ [Aa x (Af g l)]) (D++ [d+1]) cD λy hy=>by
     rcases List.mem_append.1 hy with hy|hy
     ·exact h y hy
     ·rw [List.mem_singleton.1 hy];exact hq l (by simp)
    refine ⟨a1,λy hy=>a2 y (List.mem_append_left _ hy),λe l' Gd=>?_,a4⟩
    rcases List.mem_cons.1 Gd with rfl|Gd
    ·exact a2 _ (List.mem_append_right _ (by simp))
    ·exact a3 e l' Gd
theorem sE {p:PP} (hV:Valid p) {m:Nat} {ls:List Int} (hl: ∀l∈ls,Hg (List.length p.2.2.1) l) (Q:List Int->Prop) (hQ: ∀x,Q x-> ∀l∈ls,Q (Aa x (Af p.2.2.1 l))):
  ∀(f k:Nat) (L:List (List Int)) (D:List Int),3001<=f+k->k<=L.length->Nf p m L D->(∀y∈L,Q y)->(∀(j:Nat) (h:j<L.length),j<k-> ∀l∈ls,Aa L[j] (Af p.2.2.1 l)∈L)->
  (∀y∈(Fq p.2.2.1 ls f k L D).1,Q y)/\((Fq p.2.2.1 ls f k L D).2.2=true-> ∀x∈(Fq p.2.2.1 ls f k L D).1,∀l∈ls,Aa x (Af p.2.2.1 l)∈(Fq p.2.2.1 ls f k L D).1)/\
   ((Fq p.2.2.1 ls f k L D).2.2=false->(Fq p.2.2.1 ls f k L D).1.length=3000/\ ∃z,Q z/\z∉(Fq p.2.2.1 ls f k L D).1)
 |0,k,L,D,hf,OS,hb,hq,hc=>by
  have:=hb.ok.lP
  omega
 |f+1,k,L,D,hf,OS,hb,hq,hc=>by
  simp only [Fq]
  split
  ·rename_i hk
   have ye:k<D.length:=by rw [hb.len];exact hk
   have hd:=hb.dep k ye
   have e:D.getD k 0=D[k]:=by rw [List.getD_eq_getElem?_getD,List.getElem?_eq_getElem ye];rfl
   rw [Oc hk,e]
   obtain ⟨k1,⟨A,k2⟩,_⟩:=iF hV (hb.row _ (List.getElem_mem hk)) (hb.ok.len _ (List.getElem_mem hk)) (d:=D[k]) ls L D hl hb ⟨by omega,by omega⟩
   obtain ⟨a1,a2,a3,a4⟩:=kc (g:=p.2.2.1) Q (x:=L[k]) (d:=D[k]) ls L D (hQ _ (hq _ (List.getElem_mem hk))) hq
   split
   ·rename_i L' D' he
    rw [he] at k1 k2 a1 a2 a3 a4
    have k2:L'=L++A:=k2
    refine sE hV hl Q hQ f (k+1) L' D' (by omega) (by rw [k2,List.length_append];omega) k1 a1 λj hj hjk l Gd=>?_
    by_cases e':j<k
    ·have e2:L'[j]=L[j]:=by simp only [k2];rw [List.getElem_append_left (by omega)]
     rw [e2];exact a2 _ (hc j (by omega) e' l Gd)
    ·have:j=k:=by omega
     subst this
     have e2:L'[j]=L[j]:=by simp only [k2];rw [List.getElem_append_left (by omega)]
     rw [e2];exact a3 rfl l Gd
   ·rename_i L' D' he
    rw [he] at a1 a4
    exact ⟨a1,(λe=>by cases e),λ_=>a4 rfl⟩
  ·rename_i hk
   refine ⟨hq,λ_ x hx l Gd=>?_,λe=>by cases e⟩
   obtain ⟨j,hj,rfl⟩:=List.mem_iff_getElem.1 hx
   have hj:j<L.length:=hj
   exact hc j hj (by omega) l Gd
theorem UD {p:PP} (hv:Ax p=true) {s:List Int} (hs:s.length<=20) (hr: ∀y∈s,0<=y/\y<p.1) (Q:List Int->Prop) (hQs:Q s) (hQ: ∀x,Q x-> ∀l∈Au p.2.2.1.length,Q (Aa x (Af p.2.2.1 l))):
  (∀y∈(De p.2.2.1 s).1,Q y)/\((De p.2.2.1 s).2.2=true-> ∀x∈(De p.2.2.1 s).1,∀l∈Au p.2.2.1.length,Aa x (Af p.2.2.1 l)∈(De p.2.2.1 s).1)/\
   ((De p.2.2.1 s).2.2=false->(De p.2.2.1 s).1.length=3000/\ ∃z,Q z/\z∉(De p.2.2.1 s).1):=
 sE (valid hv) (λ_ hl=>Kj hl) Q hQ 3001 0 [s] [0] (by omega) (Nat.zero_le _) (Zl hs hr) (λy hy=>by rw [List.mem_singleton.1 hy];exact hQs) λj _ hj=>absurd hj (Nat.not_lt_zero _)
theorem az {g:List (List Int)} {x:List Int} :some x∈g.map some↔x∈g:=by simp
theorem CR {n:Nat} {g:List (List Int)} {x:List Int} (h:Gn n (g.map some) x) {l:Int} (hl:l∈Au g.length):Gn n (g.map some) (Aa x (Af g l)):=by
 obtain ⟨k,hk,rfl|rfl⟩:=Qo (Kj hl)
 ·rw [Me hk];exact .mul h (az.2 (List.getElem_mem hk))
 ·rw [Md hk];exact .inv h (az.2 (List.getElem_mem hk))
theorem Pl {n k:Nat} (hk:k<n):(k:Int)+1∈Au n/\ -((k:Int)+1)∈Au n:=by
 unfold Au
 exact ⟨List.mem_flatMap.2 ⟨k,List.mem_range.2 hk,by simp⟩,List.mem_flatMap.2 ⟨k,List.mem_range.2 hk,by simp⟩⟩
theorem BP {n:Nat} {g:List (List Int)} {L:List (List Int)} (h0:upto n∈L) (hc: ∀x∈L,∀l∈Au g.length,Aa x (Af g l)∈L) {p:List Int} (hp:Gn n (g.map some) p):p∈L:=by
 induction hp with
 |id=>exact h0
 |mul _ hg ih=>
  obtain ⟨k,hk,rfl⟩:=List.mem_iff_getElem.1 (az.1 hg)
  have:=hc _ ih _ (Pl hk).1
  rwa [Me hk] at this
 |inv _ hg ih=>
  obtain ⟨k,hk,rfl⟩:=List.mem_iff_getElem.1 (az.1 hg)
  have:=hc _ ih _ (Pl hk).2
  rwa [Md hk] at this
structure Reach (p:PP) (L:List (List Int)) (D:List Int) (whole:Bool):Prop where
 ok:Nf p p.1.toNat L D
 nodup:L.Nodup
 first: ∃A,L=upto p.1.toNat::A
 gen: ∀x∈L,Gn p.1.toNat (p.2.2.1.map some) x
 all:whole=true-> ∀x,Gn p.1.toNat (p.2.2.1.map some) x->x∈L
 big:whole=false->L.length=3000/\ ∃z,Gn p.1.toNat (p.2.2.1.map some) z/\z∉L
theorem Dd.nodup {m:Nat} {L:List (List Int)} {Ip:List Int} (h:Dd m L Ip):L.Nodup:=
 List.pairwise_iff_getElem.2 λi j hi hj kE e=>by have:=h.inj hi hj e;omega
theorem js {p:PP} (hv:Ax p=true):Reach p (De p.2.2.1 (upto p.1.toNat)).1 (De p.2.2.1 (upto p.1.toNat)).2.1 (De p.2.2.1 (upto p.1.toNat)).2.2:=by
 have hV:=valid hv
 have hn:=hV.n
 have hl:(upto p.1.toNat).length=p.1.toNat:=Tu _
 have hr: ∀y∈upto p.1.toNat,0<=y/\y<p.1:= λy hy=>by have:=Jx.1 hy;omega
 obtain ⟨b1,b2⟩:=uv hv (by omega) hr
 rw [hl] at b1
 obtain ⟨a1,a2,a3⟩:=UD hv (by omega) hr (λx=>Gn p.1.toNat (p.2.2.1.map some) x) .id λx hx l hl=>CR hx hl
 exact ⟨b1,b1.ok.nodup,b2,a1,λhw x hx=>BP (by obtain ⟨A,e⟩:=b2;rw [e];simp) (a2 hw) hx,a3⟩
theorem Yd {p:PP} (hV:Valid p) {x:List Int} :x∈kM p.1.toNat (Og p.1 p.2.2.1).2 p.1.toNat 0↔Gn p.1.toNat (p.2.2.1.map some) x:=by
 have hn:=hV.n
 have hg:=Wx (We hV).2.2
 have hS:x4 p.1.toNat λg=>some g∈p.2.2.1.map some:=⟨⟨by omega,by omega⟩,λg Mo=>by obtain ⟨g',e,h⟩:=hg _ Mo;cases e;exact h⟩
 refine (p9 (by omega) (by omega) _ 0 (by omega) (uC hV).2.2.1 x).trans ⟨λh=>(Wm (by omega) (by omega) hg h.1).1 h.2.2,λh=>?_⟩
 have hp:=Vw.pm hS h
 exact ⟨hp,λi hi=>absurd hi (Nat.not_lt_zero _),(Wm (by omega) (by omega) hg hp).2 h⟩
theorem rk {p:PP} (hV:Valid p):(kM p.1.toNat (Og p.1 p.2.2.1).2 p.1.toNat 0).Nodup:=by
 have hn:=hV.n
 exact pa (by omega) (by omega) _ 0 (by omega) (uC hV).2.2.1
theorem count_eq {p:PP} (hv:Ax p=true):Qp p=((kM p.1.toNat (Og p.1 p.2.2.1).2 p.1.toNat 0).length:Int):=by
 unfold Qp
 rw [if_pos hv,yZ]
theorem xE {p:PP} (hv:Ax p=true):(De p.2.2.1 (upto p.1.toNat)).2.2=decide (1<=Qp p/\Qp p<=3000):=by
 have hV:=valid hv
 have h:=js hv
 rw [count_eq hv]
 have MY:=rk hV
 have h1:=jn h.nodup λx hx=>(Yd hV).2 (h.gen x hx)
 obtain ⟨A,hA⟩:=h.first
 have CB:1<=(De p.2.2.1 (upto p.1.toNat)).1.length:=by rw [hA];simp
 cases hw:(De p.2.2.1 (upto p.1.toNat)).2.2 with
 |true=>
  have h2:=jn MY λx hx=>h.all hw x ((Yd hV).1 hx)
  have h3:=h.ok.ok.lP
  exact (decide_eq_true ⟨by omega,by omega⟩).symm
 |false=>
  obtain ⟨h2,z,h3,h4⟩:=h.big hw
  have h5:=jn (l1:=z::(De p.2.2.1 (upto p.1.toNat)).1) (List.nodup_cons.2 ⟨h4,h.nodup⟩) λx hx=>by
   rcases List.mem_cons.1 hx with rfl|hx
   ·exact (Yd hV).2 h3
   ·exact (Yd hV).2 (h.gen x hx)
  simp only [List.length_cons] at h5
  exact (decide_eq_false (by omega)).symm
end Go.Proofs.YtfolipnappekaaaGreat

namespace Go.Proofs.YtfolipnappekaaaGreat
open Go.RowKit
def vE (g:List (List Int)) (s:List Int):List (List Int):=(Au g.length).map λl=>Aa s (Af g l)
noncomputable abbrev eX:Spec:=Cp (.pair Cu (.pair tL .unit)) cF false true (λx=>Ax x.1=true/\List.length x.2.1<=20/\ ∀y∈x.2.1,0<=y/\y<x.1.1) (λx=>vE x.1.2.2.1 x.2.1)
abbrev EX:Type:=List (List Int)×List Int×List Int×List Int
def oe (g:List (List Int)) (k:Int) (x:List Int) (d:Int):List Int->EX->List Int->EX×List Int
 | [],s,row=>(s,row)
 |l::ls,s,row=>if Aa x (Af g l)∈s.1 then oe g k x d ls s (row++ [(s.1.idxOf (Aa x (Af g l)):Int)])
  else oe g k x d ls (s.1++ [Aa x (Af g l)],s.2.1++ [d+1],s.2.2.1++ [k],s.2.2.2++ [l]) (row++ [(s.1.length:Int)])
def qV (g:List (List Int)) (ls:List Int):Nat->Nat->EX->List (List Int)->EX×List (List Int)
 |0,_,s,N=>(s,N)
 |f+1,k,s,N=>if k<s.1.length then qV g ls f (k+1) (oe g (k:Int) (s.1.getD k []) (s.2.1.getD k 0) ls s []).1 (N++ [(oe g (k:Int) (s.1.getD k []) (s.2.1.getD k 0) ls s []).2]) else (s,N)
def dx (key:ByteArray):List (List Int)->Nat->Option Int
 | [],_=>none
 |x::r,i=>if Ih x=key then some (i:Int) else dx key r (i+1)
def Sz (L:List (List Int)):ByteArray->Option Int:= λkey=>dx key L 0
def Adg (p:PP) (r:EX×List (List Int)):qp.den:=(p,r.1.1,r.1.2.1,Sz r.1.1,r.1.2.2.1,r.1.2.2.2,r.2,())
def Ln (p:PP):qp.den:=Adg p (qV p.2.2.1 (Au p.2.2.1.length) 3001 0 ([upto p.1.toNat],[0],[0],[0]) [])
noncomputable def Gq (p:PP):Bool:=Ax p&&(De p.2.2.1 (upto p.1.toNat)).2.2
noncomputable abbrev Pr:Spec:=Cp (.pair Cu .unit) (.pair (.optr qp) (.pair .bool .unit)) true false (λx=>Cb x.1) (λx=>if Gq x.1=true then (some (Ln x.1),true,()) else (none,false,()))
abbrev zD:Type:=Int×Int×ByteArray×List (List Int)×List (List Int)×PUnit
theorem WW (p:Int×ByteArray×List (List Int)×Unit) (s:List Int) (P:List (List Int)->Prop):(∃(y3:List Int),Ix.fn ((↑p.2.2.1.length:Int),())=some y3/\0=0/\0=([]:List Int).length/\Bm (λ(v4:zD) (k5:zD->Prop)=>Br (decide (v4.1<(↑y3.length:Int))) (∃(y6:Int),idx y3 v4.1=some y6/\ ∃(y7:List Int),Kw.fn (v4.2.2.2.1,y6,())=some y7/\ ∃(y8:List Int),My.fn (s,y7,())=some y8/\0=0/\v4.2.2.2.2.1.length=v4.2.2.2.2.1.length/\v4.2.2.2.2.1.length+(List.take 1 (List.drop 0 [y8])).length<=Bh/\0=0/\(v4.2.2.2.2.1++List.take 1 (List.drop 0 [y8])).length=(v4.2.2.2.2.1++List.take 1 (List.drop 0 [y8])).length/\k5 (IntKind.i64.wrap (v4.1+(1:Int)),v4.2.1,v4.2.2.1,v4.2.2.2.1,v4.2.2.2.2.1++List.take 1 (List.drop 0 [y8]),())) (P (List.take v4.2.2.2.2.1.length (List.drop 0 v4.2.2.2.2.1)))) ((0:Int),p.1,p.2.1,p.2.2.1,[],PUnit.unit))=fnW Cf (look [(106,Ix),(122,Kw),(121,My)]) eX Tryz.f107 (p,s,()) P:=by kernel_rfl
theorem VV (p:PP) (s:List Int) (h:Ax p=true/\s.length<=20/\ ∀y∈s,0<=y/\y<p.1):fnW Cf (look [(106,Ix),(122,Kw),(121,My)]) eX Tryz.f107 (p,s,()) (λ(z:List (List Int))=>z=vE p.2.2.1 s):=by
 obtain ⟨hv,hs,hr⟩:=h
 have hV:=valid hv
 have hf:=hV.lP
 refine Eq.mp (WW p s _) ⟨Au p.2.2.1.length,if_pos ⟨Int.natCast_nonneg _,by show ((p.2.2.1.length:Nat):Int)<=8;omega⟩,rfl,rfl,?_⟩
 have hL:=Lf p.2.2.1.length
 refine Aj (Au p.2.2.1.length).length (λv=>v.1) (λj v=>v=((j:Int),p.1,p.2.1,p.2.2.1,((Au p.2.2.1.length).take j).map (λl=>Aa s (Af p.2.2.1 l)),())) rfl (by simp) ?_
 rintro j v K hj hi rfl hK
 dsimp only
 refine Br.dec (λhl=>?_) λhl=>?_
 ·have hl:j<(Au p.2.2.1.length).length:=by omega
  have hlj:=Kj (List.getElem_mem hl)
  obtain ⟨h1,h2⟩:=eM hV hlj
  refine ⟨_,An hl,_,if_pos ⟨hlj,hf.2,hV.perm⟩,_,if_pos ⟨hs,λy hy=>by have:=hr y hy;show 0<=y/\y<((Af p.2.2.1 (Au p.2.2.1.length)[j]).length:Int);omega⟩,rfl,rfl,?_,rfl,rfl,?_⟩
  ·show (((Au p.2.2.1.length).take j).map _).length+1<=4294967296
   rw [List.length_map,List.length_take]
   omega
  ·rw [Ah (by omega)]
   refine hK hl _ rfl ?_
   have e:(Au p.2.2.1.length).take (j+1)=(Au p.2.2.1.length).take j++ [(Au p.2.2.1.length)[j]]:=by
    rw [List.take_add_one,List.getElem?_eq_getElem hl,Option.toList_some]
   rw [e,List.map_append]
   rfl
 ·have:j=(Au p.2.2.1.length).length:=by omega
  subst this
  rw [List.drop_zero,List.take_length,List.take_length]
  rfl
theorem zx:Sound Tryz.prog 107 eX:=
 Sound.Cp Bg (Ae Zg (Ae dZ (Ae Qz Ai))) mixed Tryz.func107 (by kernel_rfl) (by kernel_rfl) λx h=>VV x.1 x.2.1 h
end Go.Proofs.YtfolipnappekaaaGreat

namespace Go.Proofs.YtfolipnappekaaaGreat
open Go.RowKit
theorem Gb {α:Type} {xs ys:List α} {i:Nat} {d:α} (h:i<xs.length):(xs++ys).getD i d=xs.getD i d:=by
 rw [List.getD_eq_getElem?_getD,List.getD_eq_getElem?_getD,List.getElem?_append_left h]
theorem eD {α:Type} {xs:List α} {x d:α} :(xs++ [x]).getD xs.length d=x:=by
 rw [List.getD_eq_getElem?_getD,List.getElem?_append_right (Nat.le_refl _),Nat.sub_self];rfl
theorem Hl {α:Type} {xs:List α} {i:Nat} {d:α} (h:i<xs.length):xs.getD i d=xs[i]:=by
 rw [List.getD_eq_getElem?_getD,List.getElem?_eq_getElem h];rfl
structure Lv (g:List (List Int)) (ls:List Int) (k:Nat) (L:List (List Int)) (D:List Int):Prop where
 len:D.length=L.length
 pos:0<L.length
 mono: ∀i j,i<=j->j<L.length->D.getD i 0<=D.getD j 0
 QP:k<L.length-> ∀j,j<L.length->D.getD j 0<=D.getD k 0+1
 par: ∀j,0<j->j<L.length-> ∃i l,i<j/\l∈ls/\L.getD j []=Aa (L.getD i []) (Af g l)/\D.getD j 0=D.getD i 0+1
 zero:D.getD 0 0=0
theorem Lv.add {g:List (List Int)} {ls:List Int} {k:Nat} {L:List (List Int)} {D:List Int} (h:Lv g ls k L D) (hk:k<L.length) {l:Int} (hl:l∈ls):
  Lv g ls k (L++ [Aa (L.getD k []) (Af g l)]) (D++ [D.getD k 0+1]):=by
 have hlen:=h.len
 have hD: ∀i,i<L.length->(D++ [D.getD k 0+1]).getD i 0=D.getD i 0:= λi hi=>Gb (by omega)
 have TN:(D++ [D.getD k 0+1]).getD L.length 0=D.getD k 0+1:=by rw [<-hlen];exact eD
 refine ⟨by simp [hlen],by simp,λi j kE hj=>?_,λ_ j hj=>?_,λj h0 hj=>?_,?_⟩
 ·rw [List.length_append,List.length_singleton] at hj
  by_cases e:j=L.length
  ·subst e
   rw [TN]
   by_cases e':i=L.length
   ·subst e';rw [TN];exact Int.le_refl _
   ·rw [hD i (by omega)]
    exact h.QP hk i (by omega)
  ·rw [hD i (by omega),hD j (by omega)]
   exact h.mono i j kE (by omega)
 ·rw [List.length_append,List.length_singleton] at hj
  rw [hD k hk]
  by_cases e:j=L.length
  ·subst e;rw [TN];exact Int.le_refl _
  ·rw [hD j (by omega)];exact h.QP hk j (by omega)
 ·rw [List.length_append,List.length_singleton] at hj
  by_cases e:j=L.length
  ·subst e
   exact ⟨k,l,hk,hl,by rw [eD,Gb hk],by rw [TN,hD k hk]⟩
  ·obtain ⟨i,l',h1,h2,h3,h4⟩:=h.par j h0 (by omega)
   exact ⟨i,l',h1,h2,by rw [Gb (by omega),Gb (by omega)];exact h3,by rw [hD j (by omega),hD i (by omega)];exact h4⟩
 ·rw [hD 0 h.pos];exact h.zero
theorem o0 {g:List (List Int)} {ls:List Int} {k:Nat} : ∀(HL:List Int) (L:List (List Int)) (D:List Int),(∀l∈HL,l∈ls)->Lv g ls k L D->k<L.length-> ∀ {x:List Int} {d:Int},x=L.getD k []->d=D.getD k 0->
  Lv g ls k (Ej g x d HL L D).1 (Ej g x d HL L D).2.1/\(∃A,(Ej g x d HL L D).1=L++A)/\(∃A,(Ej g x d HL L D).2.1=D++A)/\
  ((Ej g x d HL L D).2.2=true-> ∀l∈HL,∃j,j<(Ej g x d HL L D).1.length/\(Ej g x d HL L D).1.getD j []=Aa x (Af g l)/\(Ej g x d HL L D).2.1.getD j 0<=d+1)
 | [],L,D,_,h,_,x,d,_,_=>⟨h,⟨[],by simp [Ej]⟩,⟨[],by simp [Ej]⟩,λ_ l hl=>by cases hl⟩
 |l::HL,L,D,hs,h,hk,x,d,hx,hd=>by
  have yi: ∀l∈HL,l∈ls:= λl' h'=>hs l' (List.mem_cons_of_mem _ h')
  have hlen:=h.len
  simp only [Ej]
  split
  ·rename_i hm
   obtain ⟨a1,⟨A,a2⟩,⟨A',a3⟩,a4⟩:=o0 HL L D yi h hk hx hd
   refine ⟨a1,⟨A,a2⟩,⟨A',a3⟩,λe l' Gd=>?_⟩
   rcases List.mem_cons.1 Gd with rfl|Gd
   ·obtain ⟨j,hj,hjx⟩:=List.mem_iff_getElem.1 hm
    refine ⟨j,by rw [a2,List.length_append];omega,by rw [a2,Gb hj,Hl hj];exact hjx,?_⟩
    rw [a3,Gb (by omega),hd]
    exact h.QP hk j hj
   ·exact a4 e l' Gd
  ·split
   ·exact ⟨h,⟨[],by simp⟩,⟨[],by simp⟩,λe=>by cases e⟩
   ·have OE:=h.add hk (hs l (by simp))
    rw [<-hx,<-hd] at OE
    obtain ⟨a1,⟨A,a2⟩,⟨A',a3⟩,a4⟩:=o0 HL (L++ [Aa x (Af g l)]) (D++ [d+1]) yi OE (by rw [List.length_append];omega) (x:=x) (d:=d) (by rw [Gb hk];exact hx) (by rw [Gb (by omega)];exact hd)
    refine ⟨a1,⟨_::A,by rw [a2,List.append_assoc];rfl⟩,⟨_::A',by rw [a3,List.append_assoc];rfl⟩,λe l' Gd=>?_⟩
    rcases List.mem_cons.1 Gd with rfl|Gd
    ·refine ⟨L.length,by rw [a2,List.length_append,List.length_append];simp only [List.length_singleton];omega,?_,?_⟩
     ·rw [a2,Gb (by simp),eD]
     ·rw [a3,Gb (by simp [hlen]),<-hlen,eD]
      exact Int.le_refl _
    ·exact a4 e l' Gd
structure nM (g:List (List Int)) (ls:List Int) (L:List (List Int)) (D:List Int):Prop where
 len:D.length=L.length
 pos:0<L.length
 zero:D.getD 0 0=0
 par: ∀j,0<j->j<L.length-> ∃i l,i<j/\l∈ls/\L.getD j []=Aa (L.getD i []) (Af g l)/\D.getD j 0=D.getD i 0+1
 step: ∀i,i<L.length-> ∀l∈ls,∃j,j<L.length/\L.getD j []=Aa (L.getD i []) (Af g l)/\D.getD j 0<=D.getD i 0+1
theorem xt {g:List (List Int)} {ls:List Int} : ∀(f k:Nat) (L:List (List Int)) (D:List Int),3001<=f+k->Lv g ls k L D->k<=L.length->
  (∀i,i<k-> ∀l∈ls,∃j,j<L.length/\L.getD j []=Aa (L.getD i []) (Af g l)/\D.getD j 0<=D.getD i 0+1)->
  (Fq g ls f k L D).2.2=true->(Fq g ls f k L D).1.length<=3000->nM g ls (Fq g ls f k L D).1 (Fq g ls f k L D).2.1
 |0,k,L,D,hf,h,OS,hc,hw,h3=>by
  simp only [Fq] at h3⊢
  omega
 |f+1,k,L,D,hf,h,OS,hc,hw,h3=>by
  simp only [Fq] at hw h3⊢
  split
  ·rename_i hk
   rw [if_pos hk] at hw h3
   obtain ⟨a1,⟨A,a2⟩,⟨A',a3⟩,a4⟩:=o0 (x:=L.getD k []) (d:=D.getD k 0) ls L D (λ_ h=>h) h hk rfl rfl
   have hlen:=h.len
   split
   ·rename_i L' D' he
    rw [he] at a1 a2 a3 a4
    simp only [he] at hw h3
    have a2:L'=L++A:=a2
    have a3:D'=D++A':=a3
    have a4:=a4 rfl
    dsimp only at a4
    have hLl:L.length<=L'.length:=by rw [a2,List.length_append];omega
    refine xt f (k+1) L' D' (by omega) ⟨a1.len,a1.pos,a1.mono,λhk1 j hj=>?_,a1.par,a1.zero⟩ (by omega) (λi hi l hl=>?_) hw h3
    ·have h1:D'.getD j 0<=D'.getD k 0+1:=a1.QP (show k<L'.length by omega) j hj
     have h2:D'.getD k 0<=D'.getD (k+1) 0:=a1.mono k (k+1) (by omega) hk1
     omega
    ·by_cases e:i=k
     ·subst e
      obtain ⟨j,b1,b2,b3⟩:=a4 l hl
      refine ⟨j,b1,?_,?_⟩
      ·rw [b2,a2,Gb (by omega)]
      ·rw [show D'.getD i 0=D.getD i 0 by rw [a3,Gb (by omega)]];exact b3
     ·obtain ⟨j,b1,b2,b3⟩:=hc i (by omega) l hl
      refine ⟨j,by omega,?_,?_⟩
      ·rw [a2,Gb (by omega),Gb (by omega)];exact b2
      ·rw [a3,Gb (by omega),Gb (by omega)];exact b3
   ·rename_i L' D' he
    simp only [he] at hw
    cases hw
  ·rename_i hk
   exact ⟨h.len,h.pos,h.zero,h.par,λi hi=>hc i (by have hi:i<L.length:=hi;omega)⟩
theorem o1 {p:PP} {s:List Int} (hv:Ax p=true) (hs:s.length<=20) (hr: ∀y∈s,0<=y/\y<p.1) (hw:(De p.2.2.1 s).2.2=true):
  nM p.2.2.1 (Au p.2.2.1.length) (De p.2.2.1 s).1 (De p.2.2.1 s).2.1:=by
 have hb:=(uv hv hs hr).1.ok.lP
 refine xt 3001 0 [s] [0] (by omega) ⟨rfl,by simp,λi j kE hj=>?_,λ_ j hj=>?_,λj h0 hj=>?_,rfl⟩ (Nat.zero_le _) (λi hi=>absurd hi (Nat.not_lt_zero _)) hw hb
 ·have:j=0:=by simpa using hj
  subst this
  have:i=0:=by omega
  subst this
  exact Int.le_refl _
 ·have:j=0:=by simpa using hj
  subst this
  simp
 ·have:j=0:=by simpa using hj
  omega
theorem m6 {p:PP} (hV:Valid p) {x:List Int} (hx: ∀y∈x,0<=y/\y<p.1) {l:Int} (hl:l∈Au p.2.2.1.length):
  -l∈Au p.2.2.1.length/\Aa (Aa x (Af p.2.2.1 l)) (Af p.2.2.1 (-l))=x:=by
 obtain ⟨k,hk,Mp⟩:=Qo (Kj hl)
 have hg:=bp (hV.perm _ (List.getElem_mem hk))
 have hgl:=hV.len _ (List.getElem_mem hk)
 have hn:=hV.n
 have hp:Pm p.1.toNat (p.2.2.1[k]):=⟨by omega,hg⟩
 have key: ∀q r:List Int,Pm p.1.toNat q->Pm p.1.toNat r->Aa q r=upto p.1.toNat->Aa (Aa x q) r=x:= λq r hq hr he=>by
  refine List.ext_getElem (by rw [Ke,Ke]) λi h1 h2=>?_
  have hxi:=hx _ (List.getElem_mem h2)
  obtain ⟨xi,PF⟩:=Int.eq_ofNat_of_zero_le hxi.1
  have TW:xi<p.1.toNat:=by omega
  have e1:ap (Aa q r) xi=ap (upto p.1.toNat) xi:=congrArg (λz=>ap z xi) he
  rw [Fp hq hr TW,cK TW] at e1
  simp only [Aa,List.getElem_map,PF]
  have h3:=(hq.Ur TW).1
  have h4:=(hr.Ur (hq.lt TW)).1
  rw [h3,h4,e1]
 rcases Mp with rfl|rfl
 ·refine ⟨(Pl hk).2,?_⟩
  rw [Me hk,Md hk]
  exact key _ _ hp hp.inv (Zq hp)
 ·refine ⟨by rw [Int.neg_neg];exact (Pl hk).1,?_⟩
  rw [Int.neg_neg,Me hk,Md hk]
  exact key _ _ hp.inv hp (Wp hp)
structure Nj (g:List (List Int)) (ls:List Int) (L:List (List Int)) (S:List Int->Prop) (d:List Int->Int):Prop where
 nn: ∀x∈L,0<=d x
 zero: ∀x∈L,d x=0↔S x
 step: ∀x∈L,∀l∈ls,d (Aa x (Af g l))<=d x+1
 down: ∀x∈L,0<d x-> ∃l∈ls,d (Aa x (Af g l))=d x-1
structure nJ (g:List (List Int)) (ls:List Int) (L:List (List Int)):Prop where
 next: ∀x∈L,∀l∈ls,Aa x (Af g l)∈L
 back: ∀x∈L,∀l∈ls,-l∈ls/\Aa (Aa x (Af g l)) (Af g (-l))=x
theorem Nj.le {g:List (List Int)} {ls:List Int} {L:List (List Int)} {S:List Int->Prop} {d d':List Int->Int} (hc:nJ g ls L) (h:Nj g ls L S d) (h':Nj g ls L S d'):
  ∀(n:Nat) (x:List Int),x∈L->d' x=n->d x<=n
 |0,x,hx,e=>by
  have:=(h.zero x hx).2 ((h'.zero x hx).1 e)
  omega
 |n+1,x,hx,e=>by
  obtain ⟨l,hl,hd⟩:=h'.down x hx (by omega)
  obtain ⟨b1,b2⟩:=hc.back x hx l hl
  have h1:=Nj.le hc h h' n _ (hc.next x hx l hl) (by omega)
  have h2:=h.step _ (hc.next x hx l hl) _ b1
  rw [b2] at h2
  omega
theorem Nj.eq {g:List (List Int)} {ls:List Int} {L:List (List Int)} {S:List Int->Prop} {d d':List Int->Int} (hc:nJ g ls L) (h:Nj g ls L S d) (h':Nj g ls L S d') {x:List Int} (hx:x∈L):d x=d' x:=by
 have n1:=h.nn x hx
 have n2:=h'.nn x hx
 have h1:=Nj.le hc h h' (d' x).toNat x hx (by omega)
 have h2:=Nj.le hc h' h (d x).toNat x hx (by omega)
 omega
theorem Nj.QP {g:List (List Int)} {ls:List Int} {L:List (List Int)} {S:List Int->Prop} {d:List Int->Int} (hc:nJ g ls L) (h:Nj g ls L S d) {x:List Int} (hx:x∈L) {l:Int} (hl:l∈ls):
  d x-1<=d (Aa x (Af g l)):=by
 obtain ⟨b1,b2⟩:=hc.back x hx l hl
 have h2:=h.step _ (hc.next x hx l hl) _ b1
 rw [b2] at h2
 omega
def Jw (L:List (List Int)) (D:List Int) (x:List Int):Int:=if x∈L then D.getD (L.idxOf x) 0 else-1
theorem aZ {L:List (List Int)} (hn:L.Nodup) {j:Nat} (hj:j<L.length):L.idxOf (L.getD j [])=j:=by
 rw [Hl hj]
 exact hn.idxOf_getElem j hj
theorem ow {L:List (List Int)} {j:Nat} (hj:j<L.length):L.getD j []∈L:=by rw [Hl hj];exact List.getElem_mem hj
theorem gJ {L:List (List Int)} {D:List Int} (hn:L.Nodup) {j:Nat} (hj:j<L.length):Jw L D (L.getD j [])=D.getD j 0:=by
 unfold Jw
 rw [if_pos (ow hj),aZ hn hj]
theorem rj {p:PP} (hV:Valid p) {m:Nat} {L:List (List Int)} {D:List Int} (hb:Nf p m L D) (h:nM p.2.2.1 (Au p.2.2.1.length) L D):nJ p.2.2.1 (Au p.2.2.1.length) L where
 next x hx l hl:=by
  obtain ⟨i,hi,rfl⟩:=List.mem_iff_getElem.1 hx
  obtain ⟨j,h1,h2,_⟩:=h.step i hi l hl
  rw [Hl hi] at h2
  rw [<-h2]
  exact ow h1
 back x hx l hl:=m6 hV (hb.row x hx) hl
theorem yD {p:PP} (hV:Valid p) {m:Nat} {L:List (List Int)} {D:List Int} (hb:Nf p m L D) (h:nM p.2.2.1 (Au p.2.2.1.length) L D):
  Nj p.2.2.1 (Au p.2.2.1.length) L (λx=>x=L.getD 0 []) (Jw L D) where
 nn x hx:=by
  obtain ⟨i,hi,rfl⟩:=List.mem_iff_getElem.1 hx
  rw [<-Hl (d:= []) hi,gJ hb.ok.nodup hi]
  have:=hb.dep i (by rw [hb.len];exact hi)
  rw [Hl (by rw [hb.len];exact hi)]
  omega
 zero x hx:=by
  obtain ⟨i,hi,rfl⟩:=List.mem_iff_getElem.1 hx
  rw [<-Hl (d:= []) hi,gJ hb.ok.nodup hi]
  constructor
  ·intro h0
   by_cases e:i=0
   ·rw [e]
   ·obtain ⟨k,l,h1,_,_,h4⟩:=h.par i (by omega) hi
    have hk:k<D.length:=by rw [hb.len];omega
    have:=hb.dep k hk
    rw [<-Hl (d:=0) hk] at this
    omega
  ·intro e
   have:i=0:=by
    have h1:=aZ hb.ok.nodup hi
    have h2:=aZ hb.ok.nodup h.pos
    rw [e,h2] at h1
    exact h1.symm
   rw [this]
   exact h.zero
 step x hx l hl:=by
  obtain ⟨i,hi,rfl⟩:=List.mem_iff_getElem.1 hx
  rw [<-Hl (d:= []) hi,gJ hb.ok.nodup hi]
  obtain ⟨j,h1,h2,h3⟩:=h.step i hi l hl
  rw [<-h2,gJ hb.ok.nodup h1]
  exact h3
 down x hx h0:=by
  obtain ⟨i,hi,rfl⟩:=List.mem_iff_getElem.1 hx
  rw [<-Hl (d:= []) hi,gJ hb.ok.nodup hi] at h0⊢
  have hi0:0<i:=by
   rcases Nat.eq_zero_or_pos i with e|e
   ·subst e;rw [h.zero] at h0;omega
   ·exact e
  obtain ⟨k,l,h1,h2,h3,h4⟩:=h.par i hi0 hi
  have hk:k<L.length:=by omega
  obtain ⟨b1,b2⟩:=m6 hV (hb.row _ (ow hk)) h2
  refine ⟨-l,b1,?_⟩
  rw [h3,b2,gJ hb.ok.nodup hk]
  omega
end Go.Proofs.YtfolipnappekaaaGreat

namespace Go.Proofs.YtfolipnappekaaaGreat
open Go.RowKit
abbrev qn:Type:=Int×Int×ByteArray×List (List Int)×List Int×List (List Int)×List Int×(ByteArray->Option Int)×List Int×List Int×Int×ByteArray×List (List Int)×List (List Int)×PUnit
abbrev qo:Type:=Int×Int×ByteArray×List (List Int)×List (List Int)×List Int×(ByteArray->Option Int)×List Int×List Int×Int×ByteArray×List (List Int)×List (List Int)×PUnit
abbrev bd:List (Nat×Nat):= [(0,1),(0,1),(0,1),(0,1),(0,1),(0,1),(0,1),(0,1),(0,1),(0,1),(0,1),(0,1),(0,0)]
abbrev Dt (p:Int×ByteArray×List (List Int)×Unit) (y4:List Int) (y2:Int) (y3:Bool) (y6:ByteArray) (y5:ByteArray):Prop:=bd=bd/\(p,false,y4,p.1,p.2.1,p.2.2.1,y2,y3,!y3,p.1,y4,p.1,p.2.1,p.2.2.1,y4,y4,y6,p.1,p.2.1,p.2.2.1,p.1,p.2.1,p.2.2.1,[y4],[(0:Int)],Tt (λ(_:ByteArray)=>none) y6 (0:Int),[(0:Int)],[(0:Int)],p.1,p.2.1,p.2.2.1,([]:List (List Int)),())=(p,false,y4,p.1,p.2.1,p.2.2.1,y2,y3,!y3,p.1,y4,p.1,p.2.1,p.2.2.1,y4,y4,y5,p.1,p.2.1,p.2.2.1,p.1,p.2.1,p.2.2.1,[y4],[(0:Int)],Tt (λ(_:ByteArray)=>none) y5 (0:Int),[(0:Int)],[(0:Int)],p.1,p.2.1,p.2.2.1,([]:List (List Int)),PUnit.unit)
theorem ME (p:Int×ByteArray×List (List Int)×Unit) (P:(Option (PP×List (List Int)×List Int×(ByteArray->Option Int)×List Int×List Int×List (List Int)×Unit)×Bool×Unit)->Prop):(∃(y2:Int),Nb.fn ((p.1,p.2.1,p.2.2.1,()),())=some y2/\ ∃(y3:Bool),Bq.fn (y2,(1:Int),(3000:Int),())=some y3/\Br (!y3) (P (none,false,())) (∃(y4:List Int),Ps.fn (p.1,())=some y4/\ ∃(y5:ByteArray),Cg.fn (y4,())=some y5/\(∃(y6:List Int),Ix.fn ((↑p.2.2.1.length:Int),())=some y6/\0=0/\1= [y4].length/\0=0/\1= [(0:Int)].length/\0=0/\1= [(0:Int)].length/\0=0/\1= [(0:Int)].length/\0=0/\0=([]:List Int).length/\Bm (λ(v7:qo) (k8:qo->Prop)=>Br (decide (v7.1<(↑v7.2.2.2.2.1.length:Int))) (((0:Int)<=v7.1/\v7.1<(↑v7.2.2.2.2.1.length:Int))/\ ∃(y9:List Int),v7.2.2.2.2.1[0+v7.1.toNat]?=some y9/\ ∃(Xj:List (List Int)),eX.fn ((v7.2.1,v7.2.2.1,v7.2.2.2.1,()),y9,())=some Xj/\0=0/\0=([]:List Int).length/\0=0/\v7.2.2.2.2.1.length=v7.2.2.2.2.1.length/\0=0/\v7.2.2.2.2.2.1.length=v7.2.2.2.2.2.1.length/\0=0/\v7.2.2.2.2.2.2.2.1.length=v7.2.2.2.2.2.2.2.1.length/\0=0/\v7.2.2.2.2.2.2.2.2.1.length=v7.2.2.2.2.2.2.2.2.1.length/\0=0/\v7.2.2.2.2.2.2.2.2.2.2.2.2.1.length=v7.2.2.2.2.2.2.2.2.2.2.2.2.1.length/\Bm (λ(v11:qn) (k12:qn->Prop)=>Br (decide (v11.1<(↑Xj.length:Int))) (∃(x9:List Int),idx Xj v11.1=some x9/\ ∃(Xk:ByteArray),Cg.fn (x9,())=some Xk/\Br (!(v11.2.2.2.2.2.2.2.1 Xk).isSome) (∃(jR:Int),eU.fn (List.take v11.2.2.2.2.2.1.length (List.drop 0 v11.2.2.2.2.2.1),())=some jR/\0=0/\v11.2.2.2.2.2.1.length=v11.2.2.2.2.2.1.length/\v11.2.2.2.2.2.1.length+(List.take 1 (List.drop 0 [x9])).length<=Bh/\((0:Int)<=v7.1/\v7.1<(↑v11.2.2.2.2.2.2.1.length:Int))/\ ∃(nI:Int),v11.2.2.2.2.2.2.1[0+v7.1.toNat]?=some nI/\0=0/\v11.2.2.2.2.2.2.1.length=v11.2.2.2.2.2.2.1.length/\v11.2.2.2.2.2.2.1.length+ [IntKind.i64.wrap (nI+(1:Int))].length<=Bh/\0=0/\v11.2.2.2.2.2.2.2.2.1.length=v11.2.2.2.2.2.2.2.2.1.length/\v11.2.2.2.2.2.2.2.2.1.length+(List.take 1 (List.drop 0 [v7.1])).length<=Bh/\ ∃(FU:Int),idx y6 v11.1=some FU/\0=0/\v11.2.2.2.2.2.2.2.2.2.1.length=v11.2.2.2.2.2.2.2.2.2.1.length/\v11.2.2.2.2.2.2.2.2.2.1.length+ [FU].length<=Bh/\0=0/\v11.2.2.2.2.1.length=v11.2.2.2.2.1.length/\v11.2.2.2.2.1.length+(List.take 1 (List.drop 0 [jR])).length<=Bh/\0=0/\(v11.2.2.2.2.1++List.take 1 (List.drop 0 [jR])).length=(v11.2.2.2.2.1++List.take 1 (List.drop 0 [jR])).length/\0=0/\(v11.2.2.2.2.2.1++List.take 1 (List.drop 0 [x9])).length=(v11.2.2.2.2.2.1++List.take 1 (List.drop 0 [x9])).length/\0=0/\(v11.2.2.2.2.2.2.1++ [IntKind.i64.wrap (nI+(1:Int))]).length=(v11.2.2.2.2.2.2.1++ [IntKind.i64.wrap (nI+(1:Int))]).length/\0=0/\(v11.2.2.2.2.2.2.2.2.1++List.take 1 (List.drop 0 [v7.1])).length=(v11.2.2.2.2.2.2.2.2.1++List.take 1 (List.drop 0 [v7.1])).length/\0=0/\(v11.2.2.2.2.2.2.2.2.2.1++ [FU]).length=(v11.2.2.2.2.2.2.2.2.2.1++ [FU]).length/\0=0/\v11.2.2.2.2.2.2.2.2.2.2.2.2.2.1.length=v11.2.2.2.2.2.2.2.2.2.2.2.2.2.1.length/\k12 (IntKind.i64.wrap (v11.1+(1:Int)),v11.2.1,v11.2.2.1,v11.2.2.2.1,v11.2.2.2.2.1++List.take 1 (List.drop 0 [jR]),v11.2.2.2.2.2.1++List.take 1 (List.drop 0 [x9]),v11.2.2.2.2.2.2.1++ [IntKind.i64.wrap (nI+(1:Int))],Tt v11.2.2.2.2.2.2.2.1 Xk jR,v11.2.2.2.2.2.2.2.2.1++List.take 1 (List.drop 0 [v7.1]),v11.2.2.2.2.2.2.2.2.2.1++ [FU],v11.2.2.2.2.2.2.2.2.2.2.1,v11.2.2.2.2.2.2.2.2.2.2.2.1,v11.2.2.2.2.2.2.2.2.2.2.2.2.1,v11.2.2.2.2.2.2.2.2.2.2.2.2.2.1,())) (0=0/\v11.2.2.2.2.1.length=v11.2.2.2.2.1.length/\v11.2.2.2.2.1.length+(List.take 1 (List.drop 0 [(v11.2.2.2.2.2.2.2.1 Xk).getD (Int.ofNat (nat_lit 0))])).length<=Bh/\0=0/\(v11.2.2.2.2.1++List.take 1 (List.drop 0 [(v11.2.2.2.2.2.2.2.1 Xk).getD (Int.ofNat (nat_lit 0))])).length=(v11.2.2.2.2.1++List.take 1 (List.drop 0 [(v11.2.2.2.2.2.2.2.1 Xk).getD (Int.ofNat (nat_lit 0))])).length/\0=0/\v11.2.2.2.2.2.1.length=v11.2.2.2.2.2.1.length/\0=0/\v11.2.2.2.2.2.2.1.length=v11.2.2.2.2.2.2.1.length/\0=0/\v11.2.2.2.2.2.2.2.2.1.length=v11.2.2.2.2.2.2.2.2.1.length/\0=0/\v11.2.2.2.2.2.2.2.2.2.1.length=v11.2.2.2.2.2.2.2.2.2.1.length/\0=0/\v11.2.2.2.2.2.2.2.2.2.2.2.2.2.1.length=v11.2.2.2.2.2.2.2.2.2.2.2.2.2.1.length/\k12 (IntKind.i64.wrap (v11.1+(1:Int)),v11.2.1,v11.2.2.1,v11.2.2.2.1,v11.2.2.2.2.1++List.take 1 (List.drop 0 [(v11.2.2.2.2.2.2.2.1 Xk).getD (Int.ofNat (nat_lit 0))]),v11.2.2.2.2.2.1,v11.2.2.2.2.2.2.1,v11.2.2.2.2.2.2.2.1,v11.2.2.2.2.2.2.2.2.1,v11.2.2.2.2.2.2.2.2.2.1,v11.2.2.2.2.2.2.2.2.2.2.1,v11.2.2.2.2.2.2.2.2.2.2.2.1,v11.2.2.2.2.2.2.2.2.2.2.2.2.1,v11.2.2.2.2.2.2.2.2.2.2.2.2.2.1,()))) (0=0/\v11.2.2.2.2.2.2.2.2.2.2.2.2.2.1.length=v11.2.2.2.2.2.2.2.2.2.2.2.2.2.1.length/\v11.2.2.2.2.2.2.2.2.2.2.2.2.2.1.length+(List.take 1 (List.drop 0 [List.take v11.2.2.2.2.1.length (List.drop 0 v11.2.2.2.2.1)])).length<=Bh/\0=0/\v11.2.2.2.2.2.1.length=v11.2.2.2.2.2.1.length/\0=0/\v11.2.2.2.2.2.2.1.length=v11.2.2.2.2.2.2.1.length/\0=0/\v11.2.2.2.2.2.2.2.2.1.length=v11.2.2.2.2.2.2.2.2.1.length/\0=0/\v11.2.2.2.2.2.2.2.2.2.1.length=v11.2.2.2.2.2.2.2.2.2.1.length/\0=0/\(v11.2.2.2.2.2.2.2.2.2.2.2.2.2.1++List.take 1 (List.drop 0 [List.take v11.2.2.2.2.1.length (List.drop 0 v11.2.2.2.2.1)])).length=(v11.2.2.2.2.2.2.2.2.2.2.2.2.2.1++List.take 1 (List.drop 0 [List.take v11.2.2.2.2.1.length (List.drop 0 v11.2.2.2.2.1)])).length/\k8 (IntKind.i64.wrap (v7.1+(1:Int)),v11.2.1,v11.2.2.1,v11.2.2.2.1,v11.2.2.2.2.2.1,v11.2.2.2.2.2.2.1,v11.2.2.2.2.2.2.2.1,v11.2.2.2.2.2.2.2.2.1,v11.2.2.2.2.2.2.2.2.2.1,v11.2.2.2.2.2.2.2.2.2.2.1,v11.2.2.2.2.2.2.2.2.2.2.2.1,v11.2.2.2.2.2.2.2.2.2.2.2.2.1,v11.2.2.2.2.2.2.2.2.2.2.2.2.2.1++List.take 1 (List.drop 0 [List.take v11.2.2.2.2.1.length (List.drop 0 v11.2.2.2.2.1)]),()))) ((0:Int),v7.2.1,v7.2.2.1,v7.2.2.2.1,[],v7.2.2.2.2.1,v7.2.2.2.2.2.1,v7.2.2.2.2.2.2.1,v7.2.2.2.2.2.2.2.1,v7.2.2.2.2.2.2.2.2.1,v7.2.2.2.2.2.2.2.2.2.1,v7.2.2.2.2.2.2.2.2.2.2.1,v7.2.2.2.2.2.2.2.2.2.2.2.1,v7.2.2.2.2.2.2.2.2.2.2.2.2.1,PUnit.unit)) (P (some ((v7.2.2.2.2.2.2.2.2.2.1,v7.2.2.2.2.2.2.2.2.2.2.1,v7.2.2.2.2.2.2.2.2.2.2.2.1,()),List.take v7.2.2.2.2.1.length (List.drop 0 v7.2.2.2.2.1),List.take v7.2.2.2.2.2.1.length (List.drop 0 v7.2.2.2.2.2.1),v7.2.2.2.2.2.2.1,List.take v7.2.2.2.2.2.2.2.1.length (List.drop 0 v7.2.2.2.2.2.2.2.1),List.take v7.2.2.2.2.2.2.2.2.1.length (List.drop 0 v7.2.2.2.2.2.2.2.2.1),List.take v7.2.2.2.2.2.2.2.2.2.2.2.2.1.length (List.drop 0 v7.2.2.2.2.2.2.2.2.2.2.2.2.1),()),true,()))) ((0:Int),p.1,p.2.1,p.2.2.1,[y4],[(0:Int)],Tt (λ(_:ByteArray)=>none) y5 (0:Int),[(0:Int)],[(0:Int)],p.1,p.2.1,p.2.2.1,([]:List (List Int)),PUnit.unit))/\((∃(y6:ByteArray),Cg.fn (y4,())=some y6/\(Dt p y4 y2 y3 y6 y5))/\ ∃(y6:ByteArray),Cg.fn (y4,())=some y6/\((Dt p y4 y2 y3 y6 y5))/\((Dt p y4 y2 y3 y6 y5))/\(Dt p y4 y2 y3 y6 y5))/\((∃(y6:ByteArray),Cg.fn (y4,())=some y6/\(Dt p y4 y2 y3 y6 y5))/\ ∃(y6:ByteArray),Cg.fn (y4,())=some y6/\((Dt p y4 y2 y3 y6 y5))/\((Dt p y4 y2 y3 y6 y5))/\(Dt p y4 y2 y3 y6 y5))/\ ∃(y6:ByteArray),Cg.fn (y4,())=some y6/\(((Dt p y4 y2 y3 y6 y5))/\((Dt p y4 y2 y3 y6 y5))/\(Dt p y4 y2 y3 y6 y5))/\(((Dt p y4 y2 y3 y6 y5))/\((Dt p y4 y2 y3 y6 y5))/\(Dt p y4 y2 y3 y6 y5))/\(((Dt p y4 y2 y3 y6 y5))/\(Dt p y4 y2 y3 y6 y5))/\(((Dt p y4 y2 y3 y6 y5))/\(Dt p y4 y2 y3 y6 y5))/\((Dt p y4 y2 y3 y6 y5))/\bd=bd/\(p,false,y4,p.1,p.2.1,p.2.2.1,y2,y3,!y3,p.1,y4,p.1,p.2.1,p.2.2.1,y4,y4,y6,p.1,p.2.1,p.2.2.1,p.1,p.2.1,p.2.2.1,[y4],[(0:Int)],Tt (λ(_:ByteArray)=>none) y6 (0:Int),[(0:Int)],[(0:Int)],p.1,p.2.1,p.2.2.1,([]:List (List Int)),())=(p,false,y4,p.1,p.2.1,p.2.2.1,y2,y3,!y3,p.1,y4,p.1,p.2.1,p.2.2.1,y4,y4,y5,p.1,p.2.1,p.2.2.1,p.1,p.2.1,p.2.2.1,[y4],[(0:Int)],Tt (λ(_:ByteArray)=>none) y5 (0:Int),[(0:Int)],[(0:Int)],p.1,p.2.1,p.2.2.1,[],PUnit.unit)))=fnW Cf (look [(104,Nb),(90,Bq),(105,Ps),(79,Cg),(106,Ix),(107,eX),(108,eU)]) Pr Tryz.f82 (p,()) P:=by kernel_rfl
theorem og {g:List (List Int)} {k:Int} {x:List Int} {d:Int} : ∀(ls:List Int) (s:EX) (row:List Int) (L':List (List Int)) (D':List Int),Ej g x d ls s.1 s.2.1=(L',D',true)->
  (oe g k x d ls s row).1.1=L'/\(oe g k x d ls s row).1.2.1=D'
 | [],s,row,L',D',h=>by
  simp only [Ej,Prod.mk.injEq] at h
  exact ⟨h.1,h.2.1⟩
 |l::ls,s,row,L',D',h=>by
  simp only [Ej] at h
  simp only [oe]
  by_cases hm:Aa x (Af g l)∈s.1
  ·rw [if_pos hm] at h
   rw [if_pos hm]
   exact og ls s _ L' D' h
  ·rw [if_neg hm] at h
   rw [if_neg hm]
   by_cases hf:s.1.length=3000
   ·rw [if_pos hf] at h
    simp at h
   ·rw [if_neg hf] at h
    exact og ls _ _ L' D' h
theorem xL {g:List (List Int)} {ls:List Int} : ∀(f k:Nat) (s:EX) (N:List (List Int)) (L':List (List Int)) (D':List Int),Fq g ls f k s.1 s.2.1=(L',D',true)->
  (qV g ls f k s N).1.1=L'/\(qV g ls f k s N).1.2.1=D'
 |0,k,s,N,L',D',h=>by
  simp only [Fq,Prod.mk.injEq] at h
  exact ⟨h.1,h.2.1⟩
 |f+1,k,s,N,L',D',h=>by
  simp only [Fq] at h
  simp only [qV]
  by_cases hk:k<s.1.length
  ·rw [if_pos hk] at h
   rw [if_pos hk]
   split at h
   ·rename_i L1 D1 he
    obtain ⟨a1,a2⟩:=og (k:=(k:Int)) ls s [] L1 D1 he
    refine xL f (k+1) _ _ L' D' ?_
    rw [a1,a2]
    exact h
   ·simp at h
  ·rw [if_neg hk] at h
   rw [if_neg hk]
   simp only [Prod.mk.injEq] at h
   exact ⟨h.1,h.2.1⟩
theorem jg {key:ByteArray} {x:List Int} : ∀(L:List (List Int)) (i:Nat),dx key (L++ [x]) i=if (dx key L i).isSome=true then dx key L i else if Ih x=key then some ((i+L.length:Nat):Int) else none
 | [],i=>by simp [dx]
 |y::L,i=>by
  simp only [List.cons_append,dx]
  split
  ·rfl
  ·rw [jg L (i+1),List.length_cons,show i+1+L.length=i+(L.length+1) by omega]
theorem kH {x:List Int} (hx:Nh x): ∀(L:List (List Int)) (i:Nat),(∀y∈L,Nh y)->dx (Ih x) L i=if x∈L then some ((i+L.idxOf x:Nat):Int) else none
 | [],i,_=>by simp [dx]
 |y::L,i,h=>by
  have hy:=h y (by simp)
  simp only [dx]
  by_cases e:y=x
  ·subst e
   rw [if_pos rfl,if_pos (by simp),List.idxOf_cons_self]
   rfl
  ·rw [if_neg λhk=>e (key_inj hy hx hk),kH hx L (i+1) λz hz=>h z (List.mem_cons_of_mem _ hz),show List.idxOf x (y::L)=(List.idxOf x L).succ by rw [List.idxOf_cons,beq_false_of_ne e];rfl]
   have:(x∈y::L)↔(x∈L):=by simp [Ne.symm e]
   by_cases hm:x∈L
   ·rw [if_pos hm,if_pos (this.2 hm),show i+1+List.idxOf x L=i+(List.idxOf x L).succ by omega]
   ·rw [if_neg hm,if_neg λh=>hm (this.1 h)]
theorem tu {x:List Int} {L:List (List Int)} (hx:Nh x) (hL: ∀y∈L,Nh y):Sz L (Ih x)=if x∈L then some (L.idxOf x:Int) else none:=by
 unfold Sz
 rw [kH hx L 0 hL,Nat.zero_add]
theorem tt {x:List Int} {L:List (List Int)} (hx:Nh x) (hL: ∀y∈L,Nh y) (hn:x∉L):Tt (Sz L) (Ih x) (L.length:Int)=Sz (L++ [x]):=by
 funext key
 unfold Tt Sz
 rw [jg,Nat.zero_add]
 by_cases e:key=Ih x
 ·subst e
  rw [if_pos rfl,kH hx L 0 hL,if_neg hn,if_neg (by simp),if_pos rfl]
 ·rw [if_neg e,if_neg (c:=Ih x=key) λh=>e h.symm]
  split
  ·rfl
  ·rename_i h
   cases hk:dx key L 0 with
   |none=>rfl
   |some v=>rw [hk] at h;simp at h
theorem AB (p:PP):Hw (Qp p) 1 3000=Gq p:=by
 unfold Gq
 by_cases hv:Ax p=true
 ·rw [hv,Bool.true_and,xE hv]
  rfl
 ·have hv:Ax p=false:=by simpa using hv
  rw [hv,Bool.false_and]
  have:Qp p=0:=by unfold Qp;rw [if_neg (by simp [hv])]
  rw [this]
  rfl
theorem KA (p:PP) (h:Cb p):fnW Cf (look [(104,Nb),(90,Bq),(105,Ps),(79,Cg),(106,Ix),(107,eX),(108,eU)]) Pr Tryz.f82 (p,()) (λ(z:Option (PP×List (List Int)×List Int×(ByteArray->Option Int)×List Int×List Int×List (List Int)×Unit)×Bool×Unit)=>z=(if Gq p=true then (some (Ln p),true,()) else (none,false,()))):=by
 refine Eq.mp (ME p _) ⟨_,if_pos h,_,if_pos trivial,?_⟩
 show Br (!Hw (Qp p) 1 3000) _ _
 rw [AB p]
 refine Br.of (λhb=>?_) λhb=>?_
 ·rw [if_neg (by simpa using hb)]
 have hw:Gq p=true:=by simpa using hb
 rw [if_pos hw]
 obtain ⟨hv,BS⟩:=Bool.and_eq_true_iff.1 hw
 have hV:=valid hv
 have kD:=hV.lP
 have hn:=hV.n
 obtain ⟨pn,ps,g,⟨⟩⟩:=p
 dsimp only at kD hn BS⊢
 have hI:(upto pn.toNat).length<=20:=by rw [Tu];omega
 have hIr: ∀y∈upto pn.toNat,0<=y/\y<pn:= λy hy=>by have:=Jx.1 hy;omega
 have UO:=Zl (p:=(pn,ps,g,())) hI hIr
 obtain ⟨ls,mP⟩: ∃ls,Au g.length=ls:=⟨_,rfl⟩
 have OV:ls.length<=16:=by rw [<-mP,Lf];omega
 have j6: ∀l∈ls,Hg (List.length g) l:= λl hl=>Kj (mP▸hl)
 have oB: ∀x:List Int,(∀y∈x,0<=y/\y<pn)->Nh x:= λx hx y hy=>by have:=hx y hy;omega
 have oM:Fq g ls 3001 0 [upto pn.toNat] [0]=De g (upto pn.toNat):=by unfold De;rw [mP]
 have qZ:Tt (λ(_:ByteArray)=>(none:Option Int)) (Ih (upto pn.toNat)) 0=Sz [upto pn.toNat]:=by
  have:=tt (L:= []) (oB _ hIr) (λy hy=>by cases hy) (by simp)
  exact this
 refine ⟨upto pn.toNat,if_pos ⟨by show (0:Int)<=pn;omega,by show pn<=20;omega⟩,Ih (upto pn.toNat),if_pos (by show short (upto pn.toNat);unfold short;omega),⟨ls,?_,rfl,rfl,rfl,rfl,rfl,rfl,rfl,rfl,rfl,rfl,?_⟩,?_⟩
 ·refine (if_pos ⟨by show (0:Int)<=((g.length:Nat):Int);omega,by show ((g.length:Nat):Int)<=8;omega⟩).trans (congrArg some ?_)
  show Au (((g.length:Nat):Int)).toNat=ls
  rw [Int.toNat_natCast];exact mP
 ·obtain ⟨R,hR⟩: ∃R,qV g ls 3001 0 ([upto pn.toNat],[0],[0],[0]) []=R:=⟨_,rfl⟩
  have Aj9:Ln (pn,ps,g,())=Adg (pn,ps,g,()) R:=by unfold Ln;rw [mP];exact congrArg _ hR
  rw [Aj9]
  refine Bm.mk (λv=> ∃(k:Nat) (s:EX) (N:List (List Int)),v=((k:Int),pn,ps,g,s.1,s.2.1,Sz s.1,s.2.2.1,s.2.2.2,pn,ps,g,N,())/\k<=s.1.length/\Nf (pn,ps,g,()) (upto pn.toNat).length s.1 s.2.1/\s.2.2.1.length=s.1.length/\s.2.2.2.length=s.1.length/\N.length=k/\
    Fq g ls (3001-k) k s.1 s.2.1=De g (upto pn.toNat)/\qV g ls (3001-k) k s N=R) (λv=>3001-v.1.toNat)
   ⟨0,([upto pn.toNat],[0],[0],[0]),[],?_,by simp,UO,rfl,rfl,rfl,oM,hR⟩ ?_
  ·rw [<-qZ];rfl
  rintro v ⟨k,s0,N,rfl,h1,h2,h3,h4,h5,h6,h7⟩
  obtain ⟨L0,D0,P0,B0⟩:=s0
  dsimp only at h1 h2 h3 h4 h6 h7⊢
  have hL0:=h2.ok.lP
  have hD0:=h2.len
  obtain ⟨f,hf⟩: ∃f,3001-k=f+1:=⟨3000-k,by omega⟩
  refine Br.dec (λhl=>?_) λhl=>?_
  ·have hk:k<L0.length:=by omega
   have ye:k<D0.length:=by omega
   have hx: ∀y∈L0[k],0<=y/\y<pn:=h2.row _ (List.getElem_mem hk)
   have PH:L0[k].length=(upto pn.toNat).length:=h2.ok.len _ (List.getElem_mem hk)
   have hdk:=h2.dep k ye
   have PF:L0.getD k []=L0[k]:=Oc hk
   have UT:D0.getD k 0=D0[k]:=by rw [List.getD_eq_getElem?_getD,List.getElem?_eq_getElem ye];rfl
   have OO: ∀L' D' ok,Ej g L0[k] D0[k] ls L0 D0=(L',D',ok)->De g (upto pn.toNat)=if ok=true then Fq g ls f (k+1) L' D' else (L',D',false):=by
    intro L' D' ok he
    rw [<-h6,hf,Fq,if_pos hk,PF,UT,he]
    cases ok<;>rfl
   obtain ⟨E,hE⟩: ∃E,oe g (k:Int) L0[k] D0[k] ls (L0,D0,P0,B0) []=E:=⟨_,rfl⟩
   have hex:R=qV g ls f (k+1) E.1 (N++ [E.2]):=by
    rw [<-h7,hf,qV,if_pos hk]
    dsimp only
    rw [PF,UT,hE]
   refine ⟨⟨by omega,by omega⟩,L0[k],by rw [Int.toNat_natCast,Nat.zero_add];exact List.getElem?_eq_getElem hk,ls.map (λl=>Aa L0[k] (Af g l)),?_,?_⟩
   ·refine (if_pos ⟨hv,by show L0[k].length<=20;omega,hx⟩).trans (congrArg some ?_)
    show vE g L0[k]=_
    unfold vE
    rw [mP]
   refine ⟨rfl,rfl,rfl,rfl,rfl,rfl,rfl,rfl,rfl,rfl,rfl,rfl,?_⟩
   obtain ⟨nb,hnb⟩: ∃nb,ls.map (λl=>Aa L0[k] (Af g l))=nb:=⟨_,rfl⟩
   have hnl:nb.length=ls.length:=by rw [<-hnb,List.length_map]
   have hni: ∀i (h:i<ls.length),nb[i]'(by omega)=Aa L0[k] (Af g ls[i]):= λi h=>by simp only [<-hnb,List.getElem_map]
   rw [hnb]
   refine Bm.mk (λv=> ∃(i:Nat) (row:List Int) (s:EX),v=((i:Int),pn,ps,g,row,s.1,s.2.1,Sz s.1,s.2.2.1,s.2.2.2,pn,ps,g,N,())/\i<=ls.length/\row.length=i/\Nf (pn,ps,g,()) (upto pn.toNat).length s.1 s.2.1/\s.2.2.1.length=s.1.length/\s.2.2.2.length=s.1.length/\
     (∃A,s.1=L0++A)/\(∃A,s.2.1=D0++A)/\Ej g L0[k] D0[k] (ls.drop i) s.1 s.2.1=Ej g L0[k] D0[k] ls L0 D0/\oe g (k:Int) L0[k] D0[k] (ls.drop i) s row=E) (λv=>ls.length-v.1.toNat)
    ⟨0,[],(L0,D0,P0,B0),rfl,Nat.zero_le _,rfl,h2,h3,h4,⟨[],by simp⟩,⟨[],by simp⟩,rfl,hE⟩ ?_
   rintro v ⟨i,row,s,rfl,g1,g2,g3,g4,g5,⟨A,g6⟩,⟨A',g7⟩,g8,g9⟩
   obtain ⟨L,D,Pa,By⟩:=s
   dsimp only at g3 g4 g5 g6 g7 g8 g9⊢
   have hLf:=g3.ok.lP
   have TN:=g3.len
   refine Br.dec (λhli=>?_) λhli=>?_
   ·have hi:i<ls.length:=by omega
    have OS:k<L.length:=by rw [g6,List.length_append];omega
    have OR:k<D.length:=by rw [TN];exact OS
    have hDk:D[k]=D0[k]:=by simp only [g7];exact List.getElem_append_left ye
    have uU:=j6 _ (List.getElem_mem hi)
    obtain ⟨nl,nr⟩:=nE hV hx uU
    dsimp only at nl nr
    rw [List.drop_eq_getElem_cons hi] at g8 g9
    simp only [Ej] at g8
    simp only [oe] at g9
    have hyb:=oB _ nr
    refine ⟨_,An (by omega),?_⟩
    rw [hni i hi]
    generalize hyv:Aa L0[k] (Af g ls[i])=yv at*
    refine ⟨Ih yv,if_pos (by show short yv;unfold short;rw [nl];omega),?_⟩
    rw [tu hyb λy hy=>oB _ (g3.row y hy)]
    refine Br.of (λVf=>?_) λVf=>?_
    ·have Vf:yv∉L:= λhm=>by rw [if_pos hm] at Vf;simp at Vf
     rw [if_neg Vf] at g8 g9
     by_cases Rj:L.length=3000
     ·rw [if_pos Rj] at g8
      have:=OO _ _ _ g8.symm
      rw [if_neg (by decide)] at this
      rw [this] at BS
      cases BS
     rw [if_neg Rj] at g8
     refine ⟨_,if_pos trivial,rfl,rfl,?_,⟨by omega,by omega⟩,D0[k],?_,rfl,rfl,?_,rfl,rfl,?_,_,An hi,rfl,rfl,?_,rfl,rfl,?_,rfl,rfl,rfl,rfl,rfl,rfl,rfl,rfl,rfl,rfl,rfl,rfl,?_⟩
     ·show L.length+1<=4294967296;omega
     ·rw [Int.toNat_natCast,Nat.zero_add,List.getElem?_eq_getElem OR,hDk]
     ·show D.length+1<=4294967296;omega
     ·show Pa.length+1<=4294967296;omega
     ·show By.length+1<=4294967296;omega
     ·show row.length+1<=4294967296;omega
     ·dsimp only
      rw [Bl L,Cl (n:=D0[k]+1) (by omega) (by omega),Ah (by omega),tt hyb (λy hy=>oB _ (g3.row y hy)) Vf]
      refine ⟨⟨i+1,row++ [(L.length:Int)],(L++ [yv],D++ [D0[k]+1],Pa++ [(k:Int)],By++ [ls[i]]),rfl,hi,by rw [List.length_append,g2];rfl,g3.add Vf (by rw [nl,PH]) (by omega) nr ⟨by omega,by omega⟩,?_,?_,⟨A++ [yv],by rw [g6,List.append_assoc]⟩,⟨A'++ [D0[k]+1],by rw [g7,List.append_assoc]⟩,g8,g9⟩,by omega⟩
      ·simp [g4]
      ·simp [g5]
    ·have Vf:yv∈L:=Classical.byContradiction λhm=>by rw [if_neg hm] at Vf;simp at Vf
     rw [if_pos Vf] at g8 g9
     rw [if_pos Vf]
     refine ⟨rfl,rfl,?_,rfl,rfl,rfl,rfl,rfl,rfl,rfl,rfl,rfl,rfl,rfl,rfl,?_⟩
     ·show row.length+1<=4294967296;omega
     ·rw [Ah (by omega)]
      exact ⟨⟨i+1,row++ [(L.idxOf yv:Int)],(L,D,Pa,By),rfl,hi,by rw [List.length_append,g2];rfl,g3,g4,g5,⟨A,g6⟩,⟨A',g7⟩,g8,g9⟩,by omega⟩
   ·have:i=ls.length:=by omega
    subst this
    rw [List.drop_length,Ej] at g8
    rw [List.drop_length,oe] at g9
    have:=OO _ _ _ g8.symm
    rw [if_pos rfl] at this
    rw [Bl row,Ah (by omega)]
    refine ⟨rfl,rfl,?_,rfl,rfl,rfl,rfl,rfl,rfl,rfl,rfl,rfl,rfl,⟨k+1,(L,D,Pa,By),N++ [row],rfl,by rw [g6,List.length_append];omega,g3,g4,g5,by rw [List.length_append,h5];rfl,?_,?_⟩,by omega⟩
    ·show N.length+1<=4294967296;omega
    ·rw [show 3001-(k+1)=f by omega]
     exact this.symm
    ·rw [show 3001-(k+1)=f by omega,hex,<-g9]
  ·have hk:k=L0.length:=by omega
   rw [hf,qV,if_neg (by show ¬k<L0.length;omega)] at h7
   subst h7
   simp only [List.drop_zero,List.take_length]
   rfl
 ·have BW:Cg.fn (upto pn.toNat,())=some (Ih (upto pn.toNat)):=if_pos (by show short (upto pn.toNat);unfold short;omega)
  repeat' (first|exact ⟨rfl,rfl⟩|refine ⟨_,BW,?_⟩|refine ⟨?_,?_⟩)
theorem rV:Sound Tryz.prog 82 Pr:=
 Sound.Cp Bg (Ae lv (Ae Rb (Ae cj (Ae Ml (Ae Zg (Ae zx (Ae zu Ai))))))) mixed Tryz.func82 (by kernel_rfl) (by kernel_rfl) λx h=>KA x.1 h
end Go.Proofs.YtfolipnappekaaaGreat

namespace Go.Proofs.YtfolipnappekaaaGreat
open Go.RowKit
abbrev XP:Type:=PP×List (List Int)×List Int×(ByteArray->Option Int)×List Int×List Int×List (List Int)×Unit
noncomputable def Bp (p:PP):List (List Int):=(De p.2.2.1 (upto p.1.toNat)).1
noncomputable def Dj (p:PP):List Int:=(De p.2.2.1 (upto p.1.toNat)).2.1
def ZD (e:XP):Prop:=Gq e.1=true/\e=Ln e.1
noncomputable def kK (p:PP) (s:List Int):Int×Bool×Unit:=if s∈Bp p then ((List.idxOf s (Bp p):Nat),true,()) else (0,false,())
noncomputable def Jn (p:PP) (s:List Int):Bool:=Gq p&&decide (s∈Bp p)
noncomputable def QG (e:Option XP) (s:List Int):Int×Bool×Unit:=match e with|some e=>kK e.1 s|none=>(0,false,())
noncomputable abbrev l7:Spec:=Cp (.pair (.optr qp) (.pair tL .unit)) (.pair tI (.pair .bool .unit)) true true (λx=>(∃e:XP,x.1=some e/\ZD e)/\short x.2.1) (λx=>QG x.1 x.2.1)
noncomputable def Pn (p:PP) (s:List Int):Option XP×Int×Bool×Unit:=if Gq p=true then (some (Ln p),(kK p s).1,(kK p s).2.1,()) else (none,0,false,())
noncomputable abbrev Vj:Spec:=Cp (.pair Cu (.pair tL .unit)) (.pair (.optr qp) (.pair tI (.pair .bool .unit))) true false (λx=>Cb x.1/\short x.2.1) (λx=>Pn x.1 x.2.1)
noncomputable def Cj (p:PP):SS×Bool×Unit:=if Ax p=true then (Fg p.2.2.1 (upto p.1.toNat),Gq p,()) else (([],[],[],false,()),false,())
noncomputable abbrev Sp:Spec:=Cp (.pair Cu .unit) (.pair Vb (.pair .bool .unit)) true false (λx=>Cb x.1) (λx=>Cj x.1)
noncomputable abbrev Vo:Spec:=Cp (.pair tL (.pair tL .unit)) tL false true (λx=>short x.2.1/\Ie (List.length x.1) x.2.1) (λx=>Ca x.1 x.2.1)
abbrev HV:Type:=(Int×ByteArray×List (List Int)×PUnit)×List (List Int)×List Int×(ByteArray->Option Int)×List Int×List Int×List (List Int)×PUnit
theorem Acd (e:Option (PP×List (List Int)×List Int×(ByteArray->Option Int)×List Int×List Int×List (List Int)×Unit)) (s:List Int) (P:(Int×Bool×Unit)->Prop):(∃(y3:HV),e=some y3/\ ∃(y4:Bool),Sk.fn (y3.1,s,())=some y4/\Br (!y4) (P ((0:Int),false,())) (∃(y5:HV),e=some y5/\ ∃(y6:ByteArray),Cg.fn (s,())=some y6/\P ((y5.2.2.2.1 y6).getD (Int.ofNat (nat_lit 0)),(y5.2.2.2.1 y6).isSome,())))=fnW Cf (look [(109,Sk),(79,Cg)]) l7 Tryz.f83 (e,s,()) P:=by kernel_rfl
theorem ue (p:Int×ByteArray×List (List Int)×Unit) (s:List Int) (P:(Option (PP×List (List Int)×List Int×(ByteArray->Option Int)×List Int×List Int×List (List Int)×Unit)×Int×Bool×Unit)->Prop):(∃(y3:Option ((Int×ByteArray×List (List Int)×PUnit)×List (List Int)×List Int×(ByteArray->Option Int)×List Int×List Int×List (List Int)×PUnit)×Bool×PUnit),Pr.fn ((p.1,p.2.1,p.2.2.1,()),())=some y3/\Br (!y3.2.1) (P (none,(0:Int),false,())) (∃(y4:Int×Bool×PUnit),l7.fn (y3.1,s,())=some y4/\P (y3.1,y4.1,y4.2.1,())))=fnW Cf (look [(82,Pr),(83,l7)]) Vj Tryz.f62 (p,s,()) P:=by kernel_rfl
abbrev Cc:Type:=List (List Int)×List Int×List Int×Bool×PUnit
theorem FQ (p:Int×ByteArray×List (List Int)×Unit) (P:((List (List Int)×List Int×List Int×Bool×Unit)×Bool×Unit)->Prop):(∃(y2:Bool),Dl.fn ((p.1,p.2.1,p.2.2.1,()),())=some y2/\Br (!y2) (P ((List.take 0 (List.drop 0 []),List.take 0 (List.drop 0 []),List.take 0 (List.drop 0 []),false,()),false,())) (((((∃(y3:List Int),Ck.fn (p.1,())=some y3/\(∃(y4:Cc),Dh.fn ((p.1,p.2.1,p.2.2.1,()),y3,())=some y4/\((P ((y4.1,y4.2.1,y4.2.2.1,y4.2.2.2.1,()),y4.2.2.2.1,())/\P ((y4.1,y4.2.1,y4.2.2.1,y4.2.2.2.1,()),y4.2.2.2.1,()))/\P ((y4.1,y4.2.1,y4.2.2.1,y4.2.2.2.1,()),y4.2.2.2.1,()))/\(P ((y4.1,y4.2.1,y4.2.2.1,y4.2.2.2.1,()),y4.2.2.2.1,())/\P ((y4.1,y4.2.1,y4.2.2.1,y4.2.2.2.1,()),y4.2.2.2.1,()))/\P ((y4.1,y4.2.1,y4.2.2.1,y4.2.2.2.1,()),y4.2.2.2.1,()))/\ ∃(y4:Cc),Dh.fn ((p.1,p.2.1,p.2.2.1,()),y3,())=some y4/\((P ((y4.1,y4.2.1,y4.2.2.1,y4.2.2.2.1,()),y4.2.2.2.1,())/\P ((y4.1,y4.2.1,y4.2.2.1,y4.2.2.2.1,()),y4.2.2.2.1,()))/\P ((y4.1,y4.2.1,y4.2.2.1,y4.2.2.2.1,()),y4.2.2.2.1,()))/\(P ((y4.1,y4.2.1,y4.2.2.1,y4.2.2.2.1,()),y4.2.2.2.1,())/\P ((y4.1,y4.2.1,y4.2.2.1,y4.2.2.2.1,()),y4.2.2.2.1,()))/\P ((y4.1,y4.2.1,y4.2.2.1,y4.2.2.2.1,()),y4.2.2.2.1,()))/\ ∃(y3:List Int),Ck.fn (p.1,())=some y3/\ ∃(y4:Cc),Dh.fn ((p.1,p.2.1,p.2.2.1,()),y3,())=some y4/\((P ((y4.1,y4.2.1,y4.2.2.1,y4.2.2.2.1,()),y4.2.2.2.1,())/\P ((y4.1,y4.2.1,y4.2.2.1,y4.2.2.2.1,()),y4.2.2.2.1,()))/\P ((y4.1,y4.2.1,y4.2.2.1,y4.2.2.2.1,()),y4.2.2.2.1,()))/\(P ((y4.1,y4.2.1,y4.2.2.1,y4.2.2.2.1,()),y4.2.2.2.1,())/\P ((y4.1,y4.2.1,y4.2.2.1,y4.2.2.2.1,()),y4.2.2.2.1,()))/\P ((y4.1,y4.2.1,y4.2.2.1,y4.2.2.2.1,()),y4.2.2.2.1,()))/\ ∃(y3:List Int),Ck.fn (p.1,())=some y3/\ ∃(y4:Cc),Dh.fn ((p.1,p.2.1,p.2.2.1,()),y3,())=some y4/\((P ((y4.1,y4.2.1,y4.2.2.1,y4.2.2.2.1,()),y4.2.2.2.1,())/\P ((y4.1,y4.2.1,y4.2.2.1,y4.2.2.2.1,()),y4.2.2.2.1,()))/\P ((y4.1,y4.2.1,y4.2.2.1,y4.2.2.2.1,()),y4.2.2.2.1,()))/\(P ((y4.1,y4.2.1,y4.2.2.1,y4.2.2.2.1,()),y4.2.2.2.1,())/\P ((y4.1,y4.2.1,y4.2.2.1,y4.2.2.2.1,()),y4.2.2.2.1,()))/\P ((y4.1,y4.2.1,y4.2.2.1,y4.2.2.2.1,()),y4.2.2.2.1,()))/\ ∃(y3:List Int),Ck.fn (p.1,())=some y3/\ ∃(y4:Cc),Dh.fn ((p.1,p.2.1,p.2.2.1,()),y3,())=some y4/\((P ((y4.1,y4.2.1,y4.2.2.1,y4.2.2.2.1,()),y4.2.2.2.1,())/\P ((y4.1,y4.2.1,y4.2.2.1,y4.2.2.2.1,()),y4.2.2.2.1,()))/\P ((y4.1,y4.2.1,y4.2.2.1,y4.2.2.2.1,()),y4.2.2.2.1,()))/\(P ((y4.1,y4.2.1,y4.2.2.1,y4.2.2.2.1,()),y4.2.2.2.1,())/\P ((y4.1,y4.2.1,y4.2.2.1,y4.2.2.2.1,()),y4.2.2.2.1,()))/\P ((y4.1,y4.2.1,y4.2.2.1,y4.2.2.2.1,()),y4.2.2.2.1,()))/\((((∃(y3:List Int),Ck.fn (p.1,())=some y3/\(∃(y4:Cc),Dh.fn ((p.1,p.2.1,p.2.2.1,()),y3,())=some y4/\((P ((y4.1,y4.2.1,y4.2.2.1,y4.2.2.2.1,()),y4.2.2.2.1,())/\P ((y4.1,y4.2.1,y4.2.2.1,y4.2.2.2.1,()),y4.2.2.2.1,()))/\P ((y4.1,y4.2.1,y4.2.2.1,y4.2.2.2.1,()),y4.2.2.2.1,()))/\(P ((y4.1,y4.2.1,y4.2.2.1,y4.2.2.2.1,()),y4.2.2.2.1,())/\P ((y4.1,y4.2.1,y4.2.2.1,y4.2.2.2.1,()),y4.2.2.2.1,()))/\P ((y4.1,y4.2.1,y4.2.2.1,y4.2.2.2.1,()),y4.2.2.2.1,()))/\ ∃(y4:Cc),Dh.fn ((p.1,p.2.1,p.2.2.1,()),y3,())=some y4/\((P ((y4.1,y4.2.1,y4.2.2.1,y4.2.2.2.1,()),y4.2.2.2.1,())/\P ((y4.1,y4.2.1,y4.2.2.1,y4.2.2.2.1,()),y4.2.2.2.1,()))/\P ((y4.1,y4.2.1,y4.2.2.1,y4.2.2.2.1,()),y4.2.2.2.1,()))/\(P ((y4.1,y4.2.1,y4.2.2.1,y4.2.2.2.1,()),y4.2.2.2.1,())/\P ((y4.1,y4.2.1,y4.2.2.1,y4.2.2.2.1,()),y4.2.2.2.1,()))/\P ((y4.1,y4.2.1,y4.2.2.1,y4.2.2.2.1,()),y4.2.2.2.1,()))/\ ∃(y3:List Int),Ck.fn (p.1,())=some y3/\ ∃(y4:Cc),Dh.fn ((p.1,p.2.1,p.2.2.1,()),y3,())=some y4/\((P ((y4.1,y4.2.1,y4.2.2.1,y4.2.2.2.1,()),y4.2.2.2.1,())/\P ((y4.1,y4.2.1,y4.2.2.1,y4.2.2.2.1,()),y4.2.2.2.1,()))/\P ((y4.1,y4.2.1,y4.2.2.1,y4.2.2.2.1,()),y4.2.2.2.1,()))/\(P ((y4.1,y4.2.1,y4.2.2.1,y4.2.2.2.1,()),y4.2.2.2.1,())/\P ((y4.1,y4.2.1,y4.2.2.1,y4.2.2.2.1,()),y4.2.2.2.1,()))/\P ((y4.1,y4.2.1,y4.2.2.1,y4.2.2.2.1,()),y4.2.2.2.1,()))/\ ∃(y3:List Int),Ck.fn (p.1,())=some y3/\ ∃(y4:Cc),Dh.fn ((p.1,p.2.1,p.2.2.1,()),y3,())=some y4/\((P ((y4.1,y4.2.1,y4.2.2.1,y4.2.2.2.1,()),y4.2.2.2.1,())/\P ((y4.1,y4.2.1,y4.2.2.1,y4.2.2.2.1,()),y4.2.2.2.1,()))/\P ((y4.1,y4.2.1,y4.2.2.1,y4.2.2.2.1,()),y4.2.2.2.1,()))/\(P ((y4.1,y4.2.1,y4.2.2.1,y4.2.2.2.1,()),y4.2.2.2.1,())/\P ((y4.1,y4.2.1,y4.2.2.1,y4.2.2.2.1,()),y4.2.2.2.1,()))/\P ((y4.1,y4.2.1,y4.2.2.1,y4.2.2.2.1,()),y4.2.2.2.1,()))/\(((∃(y3:List Int),Ck.fn (p.1,())=some y3/\(∃(y4:Cc),Dh.fn ((p.1,p.2.1,p.2.2.1,()),y3,())=some y4/\((P ((y4.1,y4.2.1,y4.2.2.1,y4.2.2.2.1,()),y4.2.2.2.1,())/\P ((y4.1,y4.2.1,y4.2.2.1,y4.2.2.2.1,()),y4.2.2.2.1,()))/\P ((y4.1,y4.2.1,y4.2.2.1,y4.2.2.2.1,()),y4.2.2.2.1,()))/\(P ((y4.1,y4.2.1,y4.2.2.1,y4.2.2.2.1,()),y4.2.2.2.1,())/\P ((y4.1,y4.2.1,y4.2.2.1,y4.2.2.2.1,()),y4.2.2.2.1,()))/\P ((y4.1,y4.2.1,y4.2.2.1,y4.2.2.2.1,()),y4.2.2.2.1,()))/\ ∃(y4:Cc),Dh.fn ((p.1,p.2.1,p.2.2.1,()),y3,())=some y4/\((P ((y4.1,y4.2.1,y4.2.2.1,y4.2.2.2.1,()),y4.2.2.2.1,())/\P ((y4.1,y4.2.1,y4.2.2.1,y4.2.2.2.1,()),y4.2.2.2.1,()))/\P ((y4.1,y4.2.1,y4.2.2.1,y4.2.2.2.1,()),y4.2.2.2.1,()))/\(P ((y4.1,y4.2.1,y4.2.2.1,y4.2.2.2.1,()),y4.2.2.2.1,())/\P ((y4.1,y4.2.1,y4.2.2.1,y4.2.2.2.1,()),y4.2.2.2.1,()))/\P ((y4.1,y4.2.1,y4.2.2.1,y4.2.2.2.1,()),y4.2.2.2.1,()))/\ ∃(y3:List Int),Ck.fn (p.1,())=some y3/\ ∃(y4:Cc),Dh.fn ((p.1,p.2.1,p.2.2.1,()),y3,())=some y4/\((P ((y4.1,y4.2.1,y4.2.2.1,y4.2.2.2.1,()),y4.2.2.2.1,())/\P ((y4.1,y4.2.1,y4.2.2.1,y4.2.2.2.1,()),y4.2.2.2.1,()))/\P ((y4.1,y4.2.1,y4.2.2.1,y4.2.2.2.1,()),y4.2.2.2.1,()))/\(P ((y4.1,y4.2.1,y4.2.2.1,y4.2.2.2.1,()),y4.2.2.2.1,())/\P ((y4.1,y4.2.1,y4.2.2.1,y4.2.2.2.1,()),y4.2.2.2.1,()))/\P ((y4.1,y4.2.1,y4.2.2.1,y4.2.2.2.1,()),y4.2.2.2.1,()))/\(∃(y3:List Int),Ck.fn (p.1,())=some y3/\((∃(y4:Cc),Dh.fn ((p.1,p.2.1,p.2.2.1,()),y3,())=some y4/\((P ((y4.1,y4.2.1,y4.2.2.1,y4.2.2.2.1,()),y4.2.2.2.1,())/\P ((y4.1,y4.2.1,y4.2.2.1,y4.2.2.2.1,()),y4.2.2.2.1,()))/\P ((y4.1,y4.2.1,y4.2.2.1,y4.2.2.2.1,()),y4.2.2.2.1,()))/\(P ((y4.1,y4.2.1,y4.2.2.1,y4.2.2.2.1,()),y4.2.2.2.1,())/\P ((y4.1,y4.2.1,y4.2.2.1,y4.2.2.2.1,()),y4.2.2.2.1,()))/\P ((y4.1,y4.2.1,y4.2.2.1,y4.2.2.2.1,()),y4.2.2.2.1,()))/\ ∃(y4:Cc),Dh.fn ((p.1,p.2.1,p.2.2.1,()),y3,())=some y4/\((P ((y4.1,y4.2.1,y4.2.2.1,y4.2.2.2.1,()),y4.2.2.2.1,())/\P ((y4.1,y4.2.1,y4.2.2.1,y4.2.2.2.1,()),y4.2.2.2.1,()))/\P ((y4.1,y4.2.1,y4.2.2.1,y4.2.2.2.1,()),y4.2.2.2.1,()))/\(P ((y4.1,y4.2.1,y4.2.2.1,y4.2.2.2.1,()),y4.2.2.2.1,())/\P ((y4.1,y4.2.1,y4.2.2.1,y4.2.2.2.1,()),y4.2.2.2.1,()))/\P ((y4.1,y4.2.1,y4.2.2.1,y4.2.2.2.1,()),y4.2.2.2.1,()))/\ ∃(y4:Cc),Dh.fn ((p.1,p.2.1,p.2.2.1,()),y3,())=some y4/\((P ((y4.1,y4.2.1,y4.2.2.1,y4.2.2.2.1,()),y4.2.2.2.1,())/\P ((y4.1,y4.2.1,y4.2.2.1,y4.2.2.2.1,()),y4.2.2.2.1,()))/\P ((y4.1,y4.2.1,y4.2.2.1,y4.2.2.2.1,()),y4.2.2.2.1,()))/\(P ((y4.1,y4.2.1,y4.2.2.1,y4.2.2.2.1,()),y4.2.2.2.1,())/\P ((y4.1,y4.2.1,y4.2.2.1,y4.2.2.2.1,()),y4.2.2.2.1,()))/\P ((y4.1,y4.2.1,y4.2.2.1,y4.2.2.2.1,()),y4.2.2.2.1,()))/\(∃(y3:List Int),Ck.fn (p.1,())=some y3/\ ∃(y4:Cc),Dh.fn ((p.1,p.2.1,p.2.2.1,()),y3,())=some y4/\((P ((y4.1,y4.2.1,y4.2.2.1,y4.2.2.2.1,()),y4.2.2.2.1,())/\P ((y4.1,y4.2.1,y4.2.2.1,y4.2.2.2.1,()),y4.2.2.2.1,()))/\P ((y4.1,y4.2.1,y4.2.2.1,y4.2.2.2.1,()),y4.2.2.2.1,()))/\(P ((y4.1,y4.2.1,y4.2.2.1,y4.2.2.2.1,()),y4.2.2.2.1,())/\P ((y4.1,y4.2.1,y4.2.2.1,y4.2.2.2.1,()),y4.2.2.2.1,()))/\P ((y4.1,y4.2.1,y4.2.2.1,y4.2.2.2.1,()),y4.2.2.2.1,()))/\ ∃(y3:List Int),Ck.fn (p.1,())=some y3/\ ∃(y4:Cc),Dh.fn ((p.1,p.2.1,p.2.2.1,()),y3,())=some y4/\((P ((y4.1,y4.2.1,y4.2.2.1,y4.2.2.2.1,()),y4.2.2.2.1,())/\P ((y4.1,y4.2.1,y4.2.2.1,y4.2.2.2.1,()),y4.2.2.2.1,()))/\P ((y4.1,y4.2.1,y4.2.2.1,y4.2.2.2.1,()),y4.2.2.2.1,()))/\(P ((y4.1,y4.2.1,y4.2.2.1,y4.2.2.2.1,()),y4.2.2.2.1,())/\P ((y4.1,y4.2.1,y4.2.2.1,y4.2.2.2.1,()),y4.2.2.2.1,()))/\P ((y4.1,y4.2.1,y4.2.2.1,y4.2.2.2.1,()),y4.2.2.2.1,()))/\(∃(y3:List Int),Ck.fn (p.1,())=some y3/\ ∃(y4:Cc),Dh.fn ((p.1,p.2.1,p.2.2.1,()),y3,())=some y4/\((P ((y4.1,y4.2.1,y4.2.2.1,y4.2.2.2.1,()),y4.2.2.2.1,())/\P ((y4.1,y4.2.1,y4.2.2.1,y4.2.2.2.1,()),y4.2.2.2.1,()))/\P ((y4.1,y4.2.1,y4.2.2.1,y4.2.2.2.1,()),y4.2.2.2.1,()))/\(P ((y4.1,y4.2.1,y4.2.2.1,y4.2.2.2.1,()),y4.2.2.2.1,())/\P ((y4.1,y4.2.1,y4.2.2.1,y4.2.2.2.1,()),y4.2.2.2.1,()))/\P ((y4.1,y4.2.1,y4.2.2.1,y4.2.2.2.1,()),y4.2.2.2.1,()))/\(∃(y3:List Int),Ck.fn (p.1,())=some y3/\ ∃(y4:Cc),Dh.fn ((p.1,p.2.1,p.2.2.1,()),y3,())=some y4/\((P ((y4.1,y4.2.1,y4.2.2.1,y4.2.2.2.1,()),y4.2.2.2.1,())/\P ((y4.1,y4.2.1,y4.2.2.1,y4.2.2.2.1,()),y4.2.2.2.1,()))/\P ((y4.1,y4.2.1,y4.2.2.1,y4.2.2.2.1,()),y4.2.2.2.1,()))/\(P ((y4.1,y4.2.1,y4.2.2.1,y4.2.2.2.1,()),y4.2.2.2.1,())/\P ((y4.1,y4.2.1,y4.2.2.1,y4.2.2.2.1,()),y4.2.2.2.1,()))/\P ((y4.1,y4.2.1,y4.2.2.1,y4.2.2.2.1,()),y4.2.2.2.1,()))/\ ∃(y3:List Int),Ck.fn (p.1,())=some y3/\ ∃(y4:Cc),Dh.fn ((p.1,p.2.1,p.2.2.1,()),y3,())=some y4/\((P ((y4.1,y4.2.1,y4.2.2.1,y4.2.2.2.1,()),y4.2.2.2.1,())/\P ((y4.1,y4.2.1,y4.2.2.1,y4.2.2.2.1,()),y4.2.2.2.1,()))/\P ((y4.1,y4.2.1,y4.2.2.1,y4.2.2.2.1,()),y4.2.2.2.1,()))/\(P ((y4.1,y4.2.1,y4.2.2.1,y4.2.2.2.1,()),y4.2.2.2.1,())/\P ((y4.1,y4.2.1,y4.2.2.1,y4.2.2.2.1,()),y4.2.2.2.1,()))/\P ((y4.1,y4.2.1,y4.2.2.1,y4.2.2.2.1,()),y4.2.2.2.1,()))/\(∃(y3:List Int),Ck.fn (p.1,())=some y3/\ ∃(y4:Cc),Dh.fn ((p.1,p.2.1,p.2.2.1,()),y3,())=some y4/\((P ((y4.1,y4.2.1,y4.2.2.1,y4.2.2.2.1,()),y4.2.2.2.1,())/\P ((y4.1,y4.2.1,y4.2.2.1,y4.2.2.2.1,()),y4.2.2.2.1,()))/\P ((y4.1,y4.2.1,y4.2.2.1,y4.2.2.2.1,()),y4.2.2.2.1,()))/\(P ((y4.1,y4.2.1,y4.2.2.1,y4.2.2.2.1,()),y4.2.2.2.1,())/\P ((y4.1,y4.2.1,y4.2.2.1,y4.2.2.2.1,()),y4.2.2.2.1,()))/\P ((y4.1,y4.2.1,y4.2.2.1,y4.2.2.2.1,()),y4.2.2.2.1,()))/\(∃(y3:List Int),Ck.fn (p.1,())=some y3/\ ∃(y4:Cc),Dh.fn ((p.1,p.2.1,p.2.2.1,()),y3,())=some y4/\((P ((y4.1,y4.2.1,y4.2.2.1,y4.2.2.2.1,()),y4.2.2.2.1,())/\P ((y4.1,y4.2.1,y4.2.2.1,y4.2.2.2.1,()),y4.2.2.2.1,()))/\P ((y4.1,y4.2.1,y4.2.2.1,y4.2.2.2.1,()),y4.2.2.2.1,()))/\(P ((y4.1,y4.2.1,y4.2.2.1,y4.2.2.2.1,()),y4.2.2.2.1,())/\P ((y4.1,y4.2.1,y4.2.2.1,y4.2.2.2.1,()),y4.2.2.2.1,()))/\P ((y4.1,y4.2.1,y4.2.2.1,y4.2.2.2.1,()),y4.2.2.2.1,()))/\(∃(y3:List Int),Ck.fn (p.1,())=some y3/\ ∃(y4:Cc),Dh.fn ((p.1,p.2.1,p.2.2.1,()),y3,())=some y4/\((P ((y4.1,y4.2.1,y4.2.2.1,y4.2.2.2.1,()),y4.2.2.2.1,())/\P ((y4.1,y4.2.1,y4.2.2.1,y4.2.2.2.1,()),y4.2.2.2.1,()))/\P ((y4.1,y4.2.1,y4.2.2.1,y4.2.2.2.1,()),y4.2.2.2.1,()))/\(P ((y4.1,y4.2.1,y4.2.2.1,y4.2.2.2.1,()),y4.2.2.2.1,())/\P ((y4.1,y4.2.1,y4.2.2.1,y4.2.2.2.1,()),y4.2.2.2.1,()))/\P ((y4.1,y4.2.1,y4.2.2.1,y4.2.2.2.1,()),y4.2.2.2.1,()))/\ ∃(y3:List Int),Ck.fn (p.1,())=some y3/\ ∃(y4:Cc),Dh.fn ((p.1,p.2.1,p.2.2.1,()),y3,())=some y4/\((P ((y4.1,y4.2.1,y4.2.2.1,y4.2.2.2.1,()),y4.2.2.2.1,())/\P ((y4.1,y4.2.1,y4.2.2.1,y4.2.2.2.1,()),y4.2.2.2.1,()))/\P ((y4.1,y4.2.1,y4.2.2.1,y4.2.2.2.1,()),y4.2.2.2.1,()))/\(P ((y4.1,y4.2.1,y4.2.2.1,y4.2.2.2.1,()),y4.2.2.2.1,())/\P ((y4.1,y4.2.1,y4.2.2.1,y4.2.2.2.1,()),y4.2.2.2.1,()))/\P ((y4.1,y4.2.1,y4.2.2.1,y4.2.2.2.1,()),y4.2.2.2.1,())))=fnW Cf (look [(93,Dl),(115,Ck),(131,Dh)]) Sp Tryz.f102 (p,()) P:=by kernel_rfl
theorem MM (xs is:List Int) (P:List Int->Prop):(((0:Int)<=(↑is.length:Int)/\(↑is.length:Int)<(↑Bh:Int)+(1:Int))/\(↑is.length:Int)=(↑is.length:Int)/\0=0/\(List.replicate (↑is.length:Int).toNat (Int.ofNat (nat_lit 0))).length=(List.replicate (↑is.length:Int).toNat (Int.ofNat (nat_lit 0))).length/\Bm (λ(v3:Int×List Int×PUnit) (k4:Int×List Int×PUnit->Prop)=>Br (decide (v3.1<(↑is.length:Int))) (∃(y5:Int),idx is v3.1=some y5/\ ∃(y6:Int),idx xs y5=some y6/\((0:Int)<=v3.1/\v3.1<(↑v3.2.1.length:Int))/\0+v3.1.toNat<v3.2.1.length/\0=0/\v3.2.1.length=(v3.2.1.set (0+v3.1.toNat) y6).length/\k4 (IntKind.i64.wrap (v3.1+(1:Int)),v3.2.1.set (0+v3.1.toNat) y6,())) (P (List.take v3.2.1.length (List.drop 0 v3.2.1)))) ((0:Int),List.replicate (↑is.length:Int).toNat (Int.ofNat (nat_lit 0)),PUnit.unit))=fnW Cf (look []) Vo Tryz.f80 (xs,is,()) P:=by kernel_rfl
theorem JK {p:List Int} (h:Vx p):Fv p=true:=by
 refine Ed.2 ⟨h.pos,h.len,λj h1 h2=>?_⟩
 have:=h.row _ (List.getElem_mem h2)
 exact ⟨by omega,by omega,λhm=>by
  obtain ⟨i,hi,e⟩:=List.mem_iff_getElem.1 hm
  have lX:i<j:=by rw [List.length_take] at hi;omega
  rw [List.getElem_take] at e
  exact (List.pairwise_iff_getElem.1 h.nodup i j (by omega) h2 lX) e⟩
theorem Hs {p:PP} (hw:Gq p=true):Ax p=true/\(De p.2.2.1 (upto p.1.toNat)).2.2=true:=Bool.and_eq_true_iff.1 hw
theorem ly {p:PP} (hv:Ax p=true):Nf p p.1.toNat (Bp p) (Dj p):=(js hv).ok
theorem iX {p:PP} (hV:Valid p):x4 p.1.toNat λg=>some g∈p.2.2.1.map some:=
 ⟨by have:=hV.n;omega,λg Mo=>by obtain ⟨g',e,h⟩:=Wx (We hV).2.2 _ Mo;cases e;exact h⟩
theorem Ag4 {p:PP} (hv:Ax p=true) {x:List Int} (hx:x∈Bp p):Pm p.1.toNat x:=Vw.pm (iX (valid hv)) ((js hv).gen x hx)
theorem RH {p:PP} (hV:Valid p) {x:List Int} (h:Pm p.1.toNat x):Cy p.1 x=true:=by
 have:=hV.n
 have:=h.1
 exact Ed.2 ⟨by omega,JK h.2⟩
theorem BQ {p:PP} (_hV:Valid p) {x:List Int} (h:Cy p.1 x=true):Pm p.1.toNat x:=by
 obtain ⟨h1,h2⟩:=Ed.1 h
 exact ⟨by omega,bp h2⟩
theorem RV {p:PP} (hv:Ax p=true) {x:List Int} (hx:x∈Bp p):Cy p.1 x=true:=RH (valid hv) (Ag4 hv hx)
theorem WD {p:PP} (hv:Ax p=true) {x:List Int} (hx:x∈Bp p):Nh x:= λy hy=>by
 have h1:=(ly hv).row x hx y hy
 have:=(valid hv).n
 omega
theorem VZ {n:Nat} {x:List Int} (h:Pm n x):Nh x:= λy hy=>by
 have h1:=h.row y hy
 have:=h.n2
 omega
theorem GL {p:PP} (hw:Gq p=true):(Ln p).2.1=Bp p/\(Ln p).2.2.1=Dj p:=by
 have h:=(Hs hw).2
 refine xL 3001 0 ([upto p.1.toNat],[0],[0],[0]) [] _ _ ?_
 show Fq p.2.2.1 (Au p.2.2.1.length) 3001 0 [upto p.1.toNat] [0]=(Bp p,Dj p,true)
 rw [<-h]
 rfl
theorem UH {p:PP} (hw:Gq p=true) {s:List Int} (hs:Nh s):(Ln p).2.2.2.1 (Ih s)=if s∈Bp p then some (((Bp p).idxOf s:Nat):Int) else none:=by
 show Sz (Ln p).2.1 (Ih s)=_
 rw [(GL hw).1,tu hs λy hy=>WD (Hs hw).1 hy]
theorem Abl (e:Option XP) (s:List Int) (h:(∃e':XP,e=some e'/\ZD e')/\short s):fnW Cf (look [(109,Sk),(79,Cg)]) l7 Tryz.f83 (e,s,()) (λ(z:Int×Bool×Unit)=>z=QG e s):=by
 obtain ⟨⟨e',rfl,h1,h2⟩,hs⟩:=h
 have hv:=(Hs h1).1
 refine Eq.mp (Acd (some e') s _) ⟨e',rfl,_,if_pos hs,Br.of (λhb=>?_) λhb=>⟨e',rfl,_,if_pos hs,?_⟩⟩
 ·have hb:=Db hb
  show (0,false,())=kK e'.1 s
  unfold kK
  rw [if_neg λhm=>hb (RV hv hm)]
 ·have hb:Cy e'.1.1 s=true:=by simpa using hb
  have hp:=BQ (valid hv) hb
  dsimp only
  have e3:e'.2.2.2.1=(Ln e'.1).2.2.2.1:=by rw [<-h2]
  rw [e3,UH h1 (VZ hp)]
  show _=kK e'.1 s
  unfold kK
  split<;>rfl
theorem ES:Sound Tryz.prog 83 l7:=
 Sound.Cp Bg (Ae ie (Ae Ml Ai)) mixed Tryz.func83 (by kernel_rfl) (by kernel_rfl) λx h=>Abl x.1 x.2.1 h
theorem JZ (p:PP) (s:List Int) (h:Cb p/\short s):fnW Cf (look [(82,Pr),(83,l7)]) Vj Tryz.f62 (p,s,()) (λ(z:Option XP×Int×Bool×Unit)=>z=Pn p s):=by
 unfold Pn
 by_cases hw:Gq p=true
 ·rw [if_pos hw]
  have he:Pr.fn ((p.1,p.2.1,p.2.2.1,()),())=some (some (Ln p),true,()):=(if_pos h.1).trans (congrArg some (if_pos hw))
  refine Eq.mp (ue p s _) ⟨_,he,λhb=>by simp at hb,λ_=>⟨_,if_pos ⟨⟨Ln p,rfl,hw,rfl⟩,h.2⟩,?_⟩⟩
  rfl
 ·rw [if_neg hw]
  have he:Pr.fn ((p.1,p.2.1,p.2.2.1,()),())=some (none,false,()):=(if_pos h.1).trans (congrArg some (if_neg hw))
  exact Eq.mp (ue p s _) ⟨_,he,λ_=>rfl,λhb=>by simp at hb⟩
theorem rU:Sound Tryz.prog 62 Vj:=
 Sound.Cp Bg (Ae rV (Ae ES Ai)) mixed Tryz.func62 (by kernel_rfl) (by kernel_rfl) λx h=>JZ x.1 x.2.1 h
theorem kz {p:PP} {s:List Int} :Jn p s=true↔Gq p=true/\s∈Bp p:=by
 unfold Jn;rw [Bool.and_eq_true,decide_eq_true_iff]
theorem BN {p:PP} {s:List Int} :(Pn p s).2.2.1=Jn p s:=by
 unfold Pn kK Jn
 by_cases hw:Gq p=true
 ·rw [if_pos hw,hw,Bool.true_and]
  by_cases hm:s∈Bp p
  ·rw [if_pos hm,decide_eq_true hm]
  ·rw [if_neg hm,decide_eq_false hm]
 ·rw [if_neg hw,Bool.not_eq_true _|>.mp hw,Bool.false_and]
theorem DS (p:PP) (h:Cb p):fnW Cf (look [(93,Dl),(115,Ck),(131,Dh)]) Sp Tryz.f102 (p,()) (λ(z:SS×Bool×Unit)=>z=Cj p):=by
 refine Eq.mp (FQ p _) ⟨_,if_pos h,?_⟩
 show Br (!Ax p) _ _
 unfold Cj
 by_cases hv:Ax p=true
 ·rw [if_pos hv,hv]
  refine ⟨λhb=>by simp at hb,λ_=>?_⟩
  have hn:=(valid hv).n
  have hid:Ck.fn (p.1,())=some (upto p.1.toNat):=if_pos ⟨by show 0<=p.1;omega,by show p.1<=20;omega⟩
  have qL: ∀y∈upto p.1.toNat,0<=y/\y<p.1:= λy hy=>by have:=Jx.1 hy;omega
  have yc:Dh.fn ((p.1,p.2.1,p.2.2.1,()),upto p.1.toNat,())=some (Fg p.2.2.1 (upto p.1.toNat)):=if_pos ⟨hv,by show (upto p.1.toNat).length<=20;rw [Tu];omega,qL⟩
  have hz:(((Fg p.2.2.1 (upto p.1.toNat)).1,(Fg p.2.2.1 (upto p.1.toNat)).2.1,(Fg p.2.2.1 (upto p.1.toNat)).2.2.1,(Fg p.2.2.1 (upto p.1.toNat)).2.2.2.1,()),(Fg p.2.2.1 (upto p.1.toNat)).2.2.2.1,())=(Fg p.2.2.1 (upto p.1.toNat),Gq p,()):=by
   unfold Gq
   rw [hv,Bool.true_and]
   rfl
  repeat' (first|exact hz|refine ⟨_,hid,?_⟩|refine ⟨_,yc,?_⟩|refine ⟨?_,?_⟩)
 ·rw [if_neg hv]
  refine ⟨λ_=>rfl,λhb=>?_⟩
  exact absurd (by simpa using hb) hv
theorem qc:Sound Tryz.prog 102 Sp:=
 Sound.Cp Bg (Ae Nd (Ae dY (Ae mr Ai))) mixed Tryz.func102 (by kernel_rfl) (by kernel_rfl) λx h=>DS x.1 h
theorem ZK {b:Bool} (h:(!b)=true):b=false:=by cases b<;>simp_all
theorem KI (xs is:List Int) (h:short is/\Ie xs.length is):fnW Cf (look []) Vo Tryz.f80 (xs,is,()) (λ(z:List Int)=>z=Ca xs is):=by
 obtain ⟨h,hr⟩:=h
 unfold short at h
 have Mu:(Ca xs is).length=is.length:=pz xs is
 refine Eq.mp (MM xs is _) ⟨⟨by omega,by show (is.length:Int)<(4294967296:Int)+1;omega⟩,rfl,rfl,rfl,?_⟩
 refine Aj is.length (λv=>v.1) (λj v=>v.2.1.length=(Ca xs is).length/\v.2.1.take j=(Ca xs is).take j) rfl ⟨by rw [Mu];simp,by simp⟩ ?_
 rintro j ⟨i,ys,⟨⟩⟩ K hj hi ⟨h1,h2⟩ hK
 dsimp only at hi h1 h2⊢
 subst hi
 refine Br.dec (λhl=>?_) λhl=>?_
 ·have hl:j<is.length:=by omega
  have hx:=hr _ (List.getElem_mem hl)
  obtain ⟨xn,PF⟩:=Int.eq_ofNat_of_zero_le hx.1
  have Gd:j<(Ca xs is).length:=by rw [Mu];exact hl
  have e:xs[xn]'(by omega)=(Ca xs is)[j]:=by
   simp only [Ca,List.getElem_map,It,PF,Int.toNat_natCast]
   rw [Hl]
  refine ⟨_,An hl,xs[xn]'(by omega),by rw [PF];exact An (by omega),⟨by omega,by omega⟩,by rw [Int.toNat_natCast,Nat.zero_add];omega,rfl,by rw [List.length_set],?_⟩
  rw [Ah (by omega),Int.toNat_natCast,Nat.zero_add,e]
  refine hK hl _ rfl ⟨by rw [List.length_set];exact h1,?_⟩
  rw [List.take_add_one,List.take_set_of_le (by omega),h2,List.getElem?_set_self (by omega),List.take_add_one,List.getElem?_eq_getElem Gd]
 ·have:j=is.length:=by omega
  subst this
  rw [Bl,<-List.take_length (l:=ys),h1,Mu,h2,<-Mu,List.take_length]
theorem s8:Sound Tryz.prog 80 Vo:=
 Sound.Cp Bg Ai mixed Tryz.func80 (by kernel_rfl) (by kernel_rfl) λx h=>KI x.1 x.2.1 h
end Go.Proofs.YtfolipnappekaaaGreat

namespace Go.Proofs.YtfolipnappekaaaGreat
open Go.RowKit
theorem map_take {α β:Type} (f:α->β) {xs:List α} {j:Nat} (h:j<xs.length):(xs.take (j+1)).map f=(xs.take j).map f++ [f xs[j]]:=by
 rw [List.take_add_one,List.getElem?_eq_getElem h,List.map_append];rfl
end Go.Proofs.YtfolipnappekaaaGreat

namespace Go.Proofs.YtfolipnappekaaaGreat
open Go.RowKit
theorem LR {p:PP} (hw:Gq p=true):nM p.2.2.1 (Au p.2.2.1.length) (Bp p) (Dj p):=by
 obtain ⟨hv,hb⟩:=Hs hw
 have hn:=(valid hv).n
 exact o1 hv (by rw [Tu];omega) (λy hy=>by have:=Jx.1 hy;omega) hb
end Go.Proofs.YtfolipnappekaaaGreat

namespace Go.Proofs.YtfolipnappekaaaGreat
open Go.RowKit
theorem ZP {e:XP} (h:ZD e):e.2.2.1=Dj e.1:=(congrArg (λz:XP=>z.2.2.1) h.2).trans (GL h.1).2
theorem th {α:Type} {P:α->Bool} : ∀(l:List α) (i:Nat),l.any P=true-> ∃k,∃h:k<l.length,Ef P l (i:Int)=((i+k:Nat):Int)/\P l[k]=true/\ ∀j (h:j<k),P (l[j]'(by omega))=false
 | [],i,h=>by simp at h
 |y::r,i,h=>by
  simp only [Ef]
  by_cases hy:P y=true
  ·rw [if_pos hy]
   exact ⟨0,by simp,rfl,hy,λj hj=>absurd hj (Nat.not_lt_zero _)⟩
  ·rw [if_neg hy]
   have hr:r.any P=true:=by
    rw [List.any_cons,Bool.or_eq_true] at h
    exact h.resolve_left hy
   obtain ⟨k,hk,h1,h2,h3⟩:=th r (i+1) hr
   refine ⟨k+1,by simpa using hk,?_,h2,λj hj=>?_⟩
   ·rw [show ((i:Int)+1)=((i+1:Nat):Int) by push_cast;rfl,h1]
    congr 1
    omega
   ·cases j with
    |zero=>exact Bool.not_eq_true _|>.mp hy
    |succ j=>exact h3 j (by omega)
end Go.Proofs.YtfolipnappekaaaGreat

namespace Go.Proofs.YtfolipnappekaaaGreat
open Go.RowKit
theorem dF {s q t:List Int} (h:Ie s.length t):Ca (Aa s q) t=Aa (Ca s t) q:=by
 unfold Ca Aa
 rw [List.map_map]
 refine List.map_congr_left λy hy=>?_
 obtain ⟨h1,h2⟩:=h y hy
 have hy':y.toNat<s.length:=by omega
 show It (s.map (It q)) y=It q (It s y)
 unfold It
 rw [Hl (by rw [List.length_map];exact hy'),List.getElem_map,Hl hy']
 try rfl
theorem KQ {n:Nat} {t:List Int} (h: ∀y∈t,0<=y/\y<(n:Int)):Ca (upto n) t=t:=by
 unfold Ca
 refine (List.map_congr_left λy hy=>?_).trans (List.map_id t)
 obtain ⟨h1,h2⟩:=h y hy
 obtain ⟨k,rfl⟩:=Int.eq_ofNat_of_zero_le h1
 have hk:k<n:=by omega
 show It (upto n) (k:Int)=(k:Int)
 unfold It
 rw [Int.toNat_natCast,List.getD_eq_getElem?_getD,qy hk]
 rfl
noncomputable def gY (p:PP) (t:List Int):List (List Int):=(De p.2.2.1 t).1
noncomputable def QI (p:PP) (t:List Int):List Int:=(De p.2.2.1 t).2.1
theorem zK {p:PP} {t:List Int} (ht:Dc p t=true): ∀y∈t,0<=y/\y<((p.1.toNat:Nat):Int):= λy hy=>by
 have h1:=(Fk ht).2 y hy
 have:=(valid (Mm.1 ht).1).n
 omega
theorem Nj.congr {g:List (List Int)} {ls:List Int} {L:List (List Int)} {S S':List Int->Prop} {d:List Int->Int} (h:Nj g ls L S d) (e: ∀x∈L,S x↔S' x):Nj g ls L S' d:=
 ⟨h.nn,λx hx=>(h.zero x hx).trans (e x hx),h.step,h.down⟩
theorem KP {p:PP} {t:List Int} (ht:Dc p t=true):(gY p t).getD 0 []=t/\t∈gY p t:=by
 obtain ⟨_,A,h⟩:=uv (Mm.1 ht).1 (Fk ht).1 (Fk ht).2
 have h:gY p t=t::A:=h
 rw [h]
 exact ⟨rfl,by simp⟩
end Go.Proofs.YtfolipnappekaaaGreat

namespace Go.Proofs.YtfolipnappekaaaGreat
open Go.RowKit
noncomputable abbrev Vi:Spec:=Cp (.pair Vb (.pair tL .unit)) tI false true (λx=>Dd (List.length x.2.1) x.1.1 x.1.2.2.1/\List.length x.1.2.1=List.length x.1.1) (λx=>Jw x.1.1 x.1.2.1 x.2.1)
theorem MC (f:List (List Int)×List Int×List Int×Bool×Unit) (s:List Int) (P:Int->Prop):(∃(y3:Int),Qw.fn ((f.1,f.2.1,f.2.2.1,f.2.2.2.1,()),s,())=some y3/\Br (decide (y3<(0:Int))) (P (-1:Int)) (∃(y4:Int),idx f.2.1 y3=some y4/\P y4))=fnW Cf (look [(132,Qw)]) Vi Tryz.f103 (f,s,()) P:=by kernel_rfl
theorem JX (f:SS) (s:List Int) (h:Dd (List.length s) f.1 f.2.2.1/\List.length f.2.1=List.length f.1):fnW Cf (look [(132,Qw)]) Vi Tryz.f103 (f,s,()) (λ(z:Int)=>z=Jw f.1 f.2.1 s):=by
 obtain ⟨h1,h2⟩:=h
 refine Eq.mp (MC f s _) ⟨_,if_pos h1,?_⟩
 show Br (decide (fT f.1 s<0)) _ _
 unfold fT Jw
 by_cases hm:s∈f.1
 ·have hl:=List.idxOf_lt_length_of_mem hm
  rw [if_pos hm,if_pos hm]
  refine Br.dec (λhn=>absurd hn (by omega)) λ_=>?_
  have mO:List.idxOf s f.1<f.2.1.length:=by omega
  refine ⟨f.2.1[List.idxOf s f.1],?_,by rw [Hl mO]⟩
  show idx f.2.1 (if s∈f.1 then ((List.idxOf s f.1:Nat):Int) else-1)=_
  rw [if_pos hm]
  exact An mO
 ·rw [if_neg hm,if_neg hm]
  exact ⟨λ_=>rfl,λhn=>by simp at hn⟩
theorem rS:Sound Tryz.prog 103 Vi:=
 Sound.Cp Bg (Ae jG Ai) mixed Tryz.func103 (by kernel_rfl) (by kernel_rfl) λx h=>JX x.1 x.2.1 h
end Go.Proofs.YtfolipnappekaaaGreat

namespace Go.Proofs.YtfolipnappekaaaGreat
open Go.RowKit
theorem NX {p:PP} (hw:Gq p=true):Nj p.2.2.1 (Au p.2.2.1.length) (Bp p) (λx=>x=(Bp p).getD 0 []) (Jw (Bp p) (Dj p)):=
 yD (valid (Hs hw).1) (ly (Hs hw).1) (LR hw)
theorem ZL {p:PP} {x:List Int} (hx:x∈Bp p):(Dj p).getD ((Bp p).idxOf x) 0=Jw (Bp p) (Dj p) x:=by unfold Jw;rw [if_pos hx]
theorem sM {p:PP} (hw:Gq p=true) {x:List Int} (hx:x∈Bp p):0<=Jw (Bp p) (Dj p) x/\Jw (Bp p) (Dj p) x<=3000:=by
 have bY:=ly (Hs hw).1
 have kD:=bY.ok.lP
 refine ⟨(NX hw).nn x hx,?_⟩
 obtain ⟨i,hi,rfl⟩:=List.mem_iff_getElem.1 hx
 have hiD:i<(Dj p).length:=by rw [bY.len];exact hi
 have h1:=bY.dep i hiD
 have h2:Jw (Bp p) (Dj p) ((Bp p)[i])=(Dj p).getD i 0:=by
  rw [<-Hl (d:= []) hi];exact gJ bY.ok.nodup hi
 rw [h2,Hl hiD]
 omega
end Go.Proofs.YtfolipnappekaaaGreat

namespace Go.Proofs.YtfolipnappekaaaGreat
open Go.RowKit
def known (row:Row):List (List Int):=row.filterMap id
mutual
def fh (n:Nat):Nat->Nat->List Int->As×As->As×As
 |0,_,_,s=>s
 |f+1,k,p,s=>if Du s.2 (n-k) k p=true then s else
   ((known (s.2.getD k [])).map λu=>Aa u p).foldl (λs q=>bQ n f k q s) (s.1.set k (s.1.getD k []++ [some p]),s.2)
def bQ (n:Nat):Nat->Nat->List Int->As×As->As×As
 |0,_,_,s=>s
 |f+1,k,p,s=>match (s.2.getD k []).getD (ap p k) none with
  |some t=>fh n f (k+1) (Aa p (Ag t)) s
  |none=>((s.1.getD k []).map λo=>Aa p (o.getD [])).foldl (λs q=>bQ n f k q s) (s.1,s.2.set k ((s.2.getD k []).set (ap p k) (some p)))
end
structure Part (n k:Nat) (s:As×As):Prop where
 l1:s.1.length=n
 l2:s.2.length=n
 pg:PG n k (s.1.getD k [])
 row:Pf n k (s.1.getD k []) (s.2.getD k [])
 comp:Zj n (n-(k+1)) (k+1) s
 gb:GBf (n-(k+1)) (k+1) s
 sub: ∀g,some g∈s.1.getD (k+1) []->Gn n (s.1.getD k []) g
def Hd (n k:Nat) (s:As×As) (q:List Int):Prop:= ∃t,(s.2.getD k []).getD (ap q k) none=some t/\Du s.2 (n-(k+1)) (k+1) (Aa q (Ag t))=true
structure Xo (n k:Nat) (s s':As×As):Prop where
 grow:Qg k s s'
 same:s'.1.getD k []=s.1.getD k []
 part:Part n k s'
 Cs: ∀q,Pm n q->Fx k q->Hd n k s q->Hd n k s' q
 new: ∀y t,(s'.2.getD k []).getD y none=some t->(s.2.getD k []).getD y none=some t\/ ∀g,some g∈s.1.getD k []->Hd n k s' (Aa t g)
theorem Xo.refl {n k:Nat} {s:As×As} (h:Part n k s):Xo n k s s:=⟨Qg.refl _ _,rfl,h,λ_ _ _ h=>h,λ_ _ h=> .inl h⟩
theorem Part.tg {n k:Nat} {s:As×As} (h:Part n k s) (hk:k<n) {y:Nat} {t g:List Int} (ht:(s.2.getD k []).getD y none=some t) (hg:some g∈s.1.getD k []):Pm n (Aa t g)/\Fx k (Aa t g)/\ap (Aa t g) k=ap g y:=by
 obtain ⟨t1,t2,t3,t4⟩:=h.row.rt _ _ ht
 obtain ⟨g',e,g1,g2⟩:=h.pg _ hg
 cases e
 exact ⟨t1.comp g1,Fx.comp t1 g1 t2 g2 (by omega),by rw [Fp t1 g1 hk,t3]⟩
theorem Xo.trans {n k:Nat} {a b c:As×As} (hk:k<n) (h:Xo n k a b) (h':Xo n k b c):Xo n k a c:=by
 refine ⟨h.grow.trans h'.grow (Nat.le_refl _),h'.same.trans h.same,h'.part,λq h1 h2 h3=>h'.Cs q h1 h2 (h.Cs q h1 h2 h3),λy t e=>?_⟩
 rcases h'.new y t e with e1|e1
 ·rcases h.new y t e1 with e2|e2
  ·exact .inl e2
  ·refine .inr λg hg=>?_
   obtain ⟨p1,p2,_⟩:=h.part.tg hk e1 (by rw [h.same];exact hg)
   exact h'.Cs _ p1 p2 (e2 g hg)
 ·exact .inr λg hg=>e1 g (by rw [h.same];exact hg)
theorem Part.pms {n k:Nat} {s:As×As} (h1:1<=n) (h2:n<=20) (h:Part n k s):x4 n λg=>some g∈s.1.getD k []:=⟨⟨h1,h2⟩,λg hg=>by obtain ⟨g',e,h,_⟩:=h.pg _ hg;cases e;exact h⟩
theorem Part.v {n k:Nat} {s:As×As} (h:Part n k s):V n (n-(k+1)) (k+1) s:=⟨h.l1,h.l2,h.comp,h.gb⟩
theorem sL (row:Row):qQ row+Hq row=row.length:=by
 induction row with
 |nil=>rfl
 |cons o r ih=>
  unfold qQ Hq at*
  cases o<;>simp [List.countP_cons]<;>omega
theorem DB {a b:Row} (hl:b.length=a.length) (h: ∀y t,a.getD y none=some t->b.getD y none=some t):Hq b<=Hq a:=by
 have h1:=(kf a b hl.symm h).1
 have h2:=sL a
 have h3:=sL b
 omega
def HN (n k:Nat):Nat:=(n-k)*(n+2)+(n+1)
def iy (n k:Nat) (s:As×As):Nat:=(n-k)*(n+2)+Hq (s.2.getD k [])
theorem Xo.mu {n k:Nat} {s s':As×As} (h:Xo n k s s'):iy n k s'<=iy n k s:=by
 have:=DB (h.grow.RQ k) (h.grow.qw k)
 unfold iy;omega
theorem eB {n k f:Nat} (hk:k<n) {gs:List PO}
  (IH: ∀q s,Part n k s->s.1.getD k []=gs->Pm n q->Fx k q->Gn n gs q->iy n k s<=f->(Xo n k s (bQ n f k q s)/\Hd n k (bQ n f k q s) q)/\ ∀f',f<=f'->bQ n f' k q s=bQ n f k q s):
  ∀(qs:List (List Int)) (s:As×As),Part n k s->s.1.getD k []=gs->(∀q∈qs,Pm n q/\Fx k q/\Gn n gs q)->iy n k s<=f->
   Xo n k s (qs.foldl (λs q=>bQ n f k q s) s)/\(∀q∈qs,Hd n k (qs.foldl (λs q=>bQ n f k q s) s) q)/\ ∀f',f<=f'->qs.foldl (λs q=>bQ n f' k q s) s=qs.foldl (λs q=>bQ n f k q s) s
 | [],s,hp,_,_,_=>⟨Xo.refl hp,λq hq=>(by cases hq),λ_ _=>rfl⟩
 |q::qs,s,hp,hg,hq,hm=>by
  obtain ⟨q1,q2,q3⟩:=hq q (by simp)
  obtain ⟨⟨a1,a2⟩,a3⟩:=IH q s hp hg q1 q2 q3 hm
  obtain ⟨b1,b2,b3⟩:=eB hk IH qs (bQ n f k q s) a1.part (a1.same.trans hg) (λq' h=>hq q' (List.mem_cons_of_mem _ h)) (Nat.le_trans a1.mu hm)
  simp only [List.foldl_cons]
  refine ⟨a1.trans hk b1,λq' cD=>?_,λf' hf=>?_⟩
  ·rcases List.mem_cons.1 cD with rfl|cD
   ·exact b1.Cs _ q1 q2 a2
   ·exact b2 q' cD
  ·rw [a3 f' hf];exact b3 f' hf
theorem xZ {n k:Nat} (h1:1<=n) (h2:n<=20) (hk:k<n) {s s':As×As} (hs:Zj n (n-(k+1)) (k+1) s) (yi:Zj n (n-(k+1)) (k+1) s') (hg:Qg k s s') {x:List Int} (hx:Pm n x) (hf:Fx (k+1) x)
  (h:Du s.2 (n-(k+1)) (k+1) x=true):Du s'.2 (n-(k+1)) (k+1) x=true:=
 (Oh h1 h2 _ (k+1) s' (by omega) yi x hx hf).2 (((Oh h1 h2 _ (k+1) s (by omega) hs x hx hf).1 h).mono λg x5=>hg.sS _ _ x5)
theorem eP {row:Row} {u:List Int} :u∈known row↔ ∃y,row.getD y none=some u:=by
 unfold known
 rw [List.mem_filterMap]
 constructor
 ·rintro ⟨o,ho,e⟩
  obtain ⟨y,hy,rfl⟩:=List.mem_iff_getElem.1 ho
  exact ⟨y,by rw [List.getD_eq_getElem?_getD,List.getElem?_eq_getElem hy];exact e⟩
 ·rintro ⟨y,hy⟩
  have hl:=iY hy
  rw [List.getD_eq_getElem?_getD,List.getElem?_eq_getElem hl] at hy
  exact ⟨row[y],List.getElem_mem hl,hy⟩
theorem GD {n:Nat} (h1:1<=n) (h2:n<=20): ∀f:Nat,
  (∀k p s,k<=n->V n (n-k) k s->Pm n p->Fx k p->HN n k<=f->NB n (n-k) k s p (fh n f k p s)/\ ∀f',f<=f'->fh n f' k p s=fh n f k p s)/\
  (∀k q s,k<n->Part n k s->Pm n q->Fx k q->Gn n (s.1.getD k []) q->iy n k s<=f->(Xo n k s (bQ n f k q s)/\Hd n k (bQ n f k q s) q)/\ ∀f',f<=f'->bQ n f' k q s=bQ n f k q s)
 |0=>⟨λk p s _ _ _ _ h=>by unfold HN at h;omega,λk q s hk _ _ _ _ h=>by
   unfold iy at h
   have:1*(n+2)<=(n-k)*(n+2):=Nat.mul_le_mul_right _ (by omega)
   omega⟩
 |f+1=>by
  obtain ⟨ihG,ihP⟩:=GD h1 h2 f
  refine ⟨λk p s hk hv hp hf TV=>?_,λk q s hk Xm hq hf AI TV=>?_⟩
  ·
   have ym: ∀f',f+1<=f'-> ∃AF,f'=AF+1/\f<=AF:= λf' h=>⟨f'-1,by omega,by omega⟩
   by_cases hh:Du s.2 (n-k) k p=true
   ·have e: ∀f',fh n (f'+1) k p s=s:= λf'=>by simp only [fh];rw [if_pos hh]
    rw [e f]
    refine ⟨⟨hv,Qg.refl _ _,(Oh h1 h2 _ k s (by omega) hv.2.2.1 p hp hf).1 hh,λo ho=> .inl ho⟩,λf' AH=>?_⟩
    obtain ⟨AF,rfl,_⟩:=ym f' AH
    exact e AF
   have OU:k<n:=by
    refine Nat.lt_of_le_of_ne hk λe=>hh ?_
    subst e
    rw [Nat.sub_self];rfl
   obtain ⟨v1,v2,hc,sZ⟩:=hv
   have fJ:=hc
   have Ao0:=sZ
   obtain ⟨m,hm⟩: ∃m,n-k=m+1:=⟨n-k-1,by omega⟩
   have yf:n-(k+1)=m:=by omega
   rw [hm] at hc sZ
   obtain ⟨c1,c2,c3⟩:=hc
   generalize j5:s.1.getD k []++ [some p]=gs
   have Ub:some p∈gs:=by rw [<-j5];simp
   have Kq: ∀o∈s.1.getD k [],o∈gs:= λo ho=>by rw [<-j5];exact List.mem_append_left _ ho
   have hg:PG n k gs:= λo ho=>by
    rw [<-j5] at ho
    rcases List.mem_append.1 ho with ho|ho
    ·exact c2.pg o ho
    ·rw [List.mem_singleton] at ho;exact ⟨p,ho,hp,hf⟩
   have hS:x4 n λg=>some g∈gs:=⟨⟨h1,h2⟩,λg Mo=>by obtain ⟨g',e,h,_⟩:=hg _ Mo;cases e;exact h⟩
   have pL: ∀i,(s.1.set k gs).getD i []=if i=k then gs else s.1.getD i []:= λi=>by
    rw [Gz]
    by_cases e:k=i
    ·subst e;rw [if_pos ⟨rfl,by omega⟩,if_pos rfl]
    ·rw [if_neg (λhh=>e hh.1),if_neg (Ne.symm e)]
   have qL: ∀i,k+1<=i->(s.1.set k gs).getD i []=s.1.getD i []/\s.2.getD i []=s.2.getD i []:= λi hi=>⟨by rw [pL i,if_neg (by omega)],rfl⟩
   have yg:Part n k (s.1.set k gs,s.2):=by
    refine ⟨by simpa using v1,v2,?_,?_,?_,?_,λg Mo=>?_⟩
    ·show PG n k ((s.1.set k gs).getD k []);rw [pL k,if_pos rfl];exact hg
    ·show Pf n k ((s.1.set k gs).getD k []) _
     rw [pL k,if_pos rfl]
     exact ⟨c2.rl,c2.r0,λy t e=>⟨(c2.rt y t e).1,(c2.rt y t e).2.1,(c2.rt y t e).2.2.1,(c2.rt y t e).2.2.2.mono λg hg=>Kq _ hg⟩⟩
    ·rw [yf];exact Ou m (k+1) qL c1
    ·rw [yf];exact Wk m (k+1) qL sZ.1
    ·have Mo:some g∈(s.1.set k gs).getD (k+1) []:=Mo
     rw [(qL (k+1) (Nat.le_refl _)).1] at Mo
     show Gn n ((s.1.set k gs).getD k []) g
     rw [pL k,if_pos rfl]
     exact (c3 g Mo).mono λg hg=>Kq _ hg
   have eH:((s.1.set k gs,s.2):As×As).1.getD k []=gs:=by show (s.1.set k gs).getD k []=gs;rw [pL k,if_pos rfl]
   have gR:Qg k s (s.1.set k gs,s.2):=by
    refine ⟨by simp,rfl,λi hi=>⟨?_,rfl⟩,λi o ho=>?_,λi y t e=>e,λi=>rfl⟩
    ·show (s.1.set k gs).getD i []=_;rw [pL i,if_neg (by omega)]
    ·show o∈(s.1.set k gs).getD i []
     rw [pL i]
     split
     ·rename_i hi;subst hi;exact Kq o ho
     ·exact ho
   have hmP:iy n k (s.1.set k gs,s.2)<=f:=by
    have hn:=dD (s.2.getD k [])
    have hr:=c2.rl
    unfold iy
    unfold HN at TV
    show (n-k)*(n+2)+Hq (s.2.getD k [])<=f
    omega
   have JF: ∀q∈(known (s.2.getD k [])).map (λu=>Aa u p),Pm n q/\Fx k q/\Gn n gs q:= λq hq=>by
    obtain ⟨u,hu,rfl⟩:=List.mem_map.1 hq
    obtain ⟨y,hy⟩:=eP.1 hu
    obtain ⟨t1,t2,t3,t4⟩:=c2.rt _ _ hy
    exact ⟨t1.comp hp,Fx.comp t1 hp t2 hf hk, .mul (t4.mono λg hg=>Kq _ hg) Ub⟩
   obtain ⟨r1,r2,r3⟩:=eB OU (gs:=gs) (λq s j7 Mo a b c d=>ihP k q s OU j7 a b (by rw [Mo];exact c) d) ((known (s.2.getD k [])).map λu=>Aa u p) (s.1.set k gs,s.2) yg eH JF hmP
   have e: ∀f',fh n (f'+1) k p s=((known (s.2.getD k [])).map λu=>Aa u p).foldl (λs q=>bQ n f' k q s) (s.1.set k gs,s.2):= λf'=>by simp only [fh];rw [if_neg hh,j5]
   refine ⟨?_,λf' AH=>by obtain ⟨AF,rfl,OL⟩:=ym f' AH;rw [e AF,e f];exact r3 AF OL⟩
   rw [e f]
   generalize ((known (s.2.getD k [])).map λu=>Aa u p).foldl (λs q=>bQ n f k q s) (s.1.set k gs,s.2)=s' at r1 r2
   have j7:=r1.part
   have BV:s'.1.getD k []=gs:=r1.same.trans eH
   have hHd: ∀y t g,(s'.2.getD k []).getD y none=some t->some g∈gs->Hd n k s' (Aa t g):= λy t g ht x5=>by
    rcases r1.new y t ht with e1|e1
    ·have e1:(s.2.getD k []).getD y none=some t:=e1
     by_cases Ny:g=p
     ·subst Ny
      exact r2 _ (List.mem_map.2 ⟨t,eP.2 ⟨y,e1⟩,rfl⟩)
     ·have hg0:some g∈s.1.getD k []:=by
       rw [<-j5] at x5
       rcases List.mem_append.1 x5 with h|h
       ·exact h
       ·rw [List.mem_singleton] at h;cases h;exact absurd rfl Ny
      obtain ⟨x1,x2,x3⟩:=yg.tg OU e1 (by rw [eH];exact x5)
      refine r1.Cs _ x1 x2 ?_
      obtain ⟨t',td⟩:=Option.ne_none_iff_exists'.1 (c2.cl y t g e1 hg0)
      refine ⟨t',by show (s.2.getD k []).getD _ none=_;rw [x3];exact td,?_⟩
      show Du s.2 (n-(k+1)) (k+1) _=true
      rw [yf]
      exact c2.sg y t g t' e1 hg0 td
    ·exact e1 g (by rw [eH];exact x5)
   have Aae:TL n k gs (s'.2.getD k []) (λq=>Du s'.2 m (k+1) q=true):=by
    have hr:=j7.row
    rw [BV] at hr
    refine ⟨hg,hr.rl,hr.r0,hr.rt,λy t g ht x5=>?_,λy t g t' ht x5 td=>?_⟩
    ·obtain ⟨t',td,_⟩:=hHd y t g ht x5
     obtain ⟨_,_,x3⟩:=j7.tg OU ht (by rw [BV];exact x5)
     rw [<-x3,td];simp
    ·obtain ⟨t'',Af1,hx⟩:=hHd y t g ht x5
     obtain ⟨_,_,x3⟩:=j7.tg OU ht (by rw [BV];exact x5)
     rw [x3,td] at Af1
     cases Af1
     rw [<-yf];exact hx
   have ya:Zj n (m+1) k s':=⟨by rw [<-yf];exact j7.comp,by rw [BV];exact Aae,λg x5=>j7.sub g x5⟩
   have Vf:Gn n (s'.1.getD k []) p:=by rw [BV];exact Vw.one hS Ub
   have oF:=gR.trans r1.grow (Nat.le_refl _)
   rw [hm]
   refine ⟨⟨j7.l1,j7.l2,ya,by rw [<-yf];exact j7.gb,?_⟩,oF,Vf,λo ho=>?_⟩
   ·have hold:=sZ.2
    obtain ⟨p1,p2⟩:=pB oF.RQ oF.qw (m+1) k
    have Ff:dG s.2 (m+1) k≠dG s'.2 (m+1) k:= λe=>by
     have:=Xx (m+1) k p (p2 e)
     rw [(Oh h1 h2 (m+1) k s' (by omega) ya p hp hf).2 Vf] at this
     rw [hm] at hh
     exact hh this.symm
    rw [BV,<-j5,List.length_append,List.length_singleton]
    omega
   ·rw [BV,<-j5] at ho
    rcases List.mem_append.1 ho with ho|ho
    ·exact .inl ho
    ·rw [List.mem_singleton] at ho;exact .inr ho
  ·
   have ym: ∀f',f+1<=f'-> ∃AF,f'=AF+1/\f<=AF:= λf' h=>⟨f'-1,by omega,by omega⟩
   have hS:=Xm.pms h1 h2
   have hmul:(n-k)*(n+2)=(n-(k+1))*(n+2)+(n+2):=by
    rw [show n-k=n-(k+1)+1 by omega,Nat.add_mul,Nat.one_mul]
   cases Gl:(s.2.getD k []).getD (ap q k) none with
   |some t=>
    have e: ∀f',bQ n (f'+1) k q s=fh n f' (k+1) (Aa q (Ag t)) s:= λf'=>by simp only [bQ];rw [Gl]
    obtain ⟨t1,t2,t3,t4⟩:=Xm.row.rt _ _ Gl
    have hx:=hq.comp t1.inv
    have hfx:=Fx.div hq t1 hf t2 hk t3
    have hxg:Gn n (s.1.getD k []) (Aa q (Ag t)):=Vw.comp hS AI (Vw.nC hS t4)
    obtain ⟨a1,a2⟩:=ihG (k+1) _ s (by omega) Xm.v hx hfx (by unfold HN;unfold iy at TV;omega)
    refine ⟨?_,λf' AH=>by obtain ⟨AF,rfl,OL⟩:=ym f' AH;rw [e AF,e f];exact a2 AF OL⟩
    rw [e f]
    generalize fh n f (k+1) (Aa q (Ag t)) s=s' at a1
    obtain ⟨av,ag,ai,ags⟩:=a1
    obtain ⟨w1,w2,w3,w4⟩:=av
    obtain ⟨lo1,lo2⟩:=ag.low k (by omega)
    have Ak3:Part n k s':=⟨w1,w2,by rw [lo1];exact Xm.pg,by rw [lo1,lo2];exact Xm.row,w3,w4,λg x5=>by
     rw [lo1]
     rcases ags _ x5 with h|h
     ·exact Xm.sub g h
     ·cases h;exact hxg⟩
    refine ⟨⟨ag.Ex (by omega),lo1,Ak3,λq' q1 q2 ⟨t',e1,e2⟩=>?_,λy t e=> .inl (by rw [lo2] at e;exact e)⟩,t,by rw [lo2];exact Gl,?_⟩
    ·obtain ⟨u1,u2,u3,_⟩:=Xm.row.rt _ _ e1
     exact ⟨t',by rw [lo2];exact e1,xZ h1 h2 hk Xm.comp w3 (ag.Ex (by omega)) (q1.comp u1.inv) (Fx.div q1 u1 q2 u2 hk u3) e2⟩
    ·exact (Oh h1 h2 _ (k+1) s' (by omega) w3 _ hx hfx).2 ai
   |none=>
    have e: ∀f',bQ n (f'+1) k q s=((s.1.getD k []).map λo=>Aa q (o.getD [])).foldl (λs q=>bQ n f' k q s) (s.1,s.2.set k ((s.2.getD k []).set (ap q k) (some q))):= λf'=>by simp only [bQ];rw [Gl]
    have hy:ap q k<n:=hq.lt hk
    have OZ:=Xm.row.rl
    have hyk:ap q k≠k:= λh=>by rw [h,Xm.row.r0] at Gl;cases Gl
    have mO:=Xm.l2
    generalize lY:(s.2.getD k []).set (ap q k) (some q)=Rh
    have aF: ∀y,Rh.getD y none=if ap q k=y then some q else (s.2.getD k []).getD y none:= λy=>by
     rw [<-lY,Gz]
     by_cases h:ap q k=y
     ·rw [if_pos ⟨h,by omega⟩,if_pos h]
     ·rw [if_neg λhh=>h hh.1,if_neg h]
    have YV: ∀i,(s.2.set k Rh).getD i []=if i=k then Rh else s.2.getD i []:= λi=>by
     rw [Gz]
     by_cases e:k=i
     ·subst e;rw [if_pos ⟨rfl,by omega⟩,if_pos rfl]
     ·rw [if_neg (λhh=>e hh.1),if_neg (Ne.symm e)]
    have qL: ∀i,k+1<=i->s.1.getD i []=s.1.getD i []/\(s.2.set k Rh).getD i []=s.2.getD i []:= λi hi=>⟨rfl,by rw [YV i,if_neg (by omega)]⟩
    have OQ:((s.1,s.2.set k Rh):As×As).2.getD k []=Rh:=by show (s.2.set k Rh).getD k []=Rh;rw [YV k,if_pos rfl]
    have yg:Part n k (s.1,s.2.set k Rh):=by
     refine ⟨Xm.l1,by simpa using mO,Xm.pg,?_,Ou _ (k+1) qL Xm.comp,Wk _ (k+1) qL Xm.gb,Xm.sub⟩
     rw [OQ]
     refine ⟨by rw [<-lY,List.length_set];exact OZ,by rw [aF k,if_neg hyk];exact Xm.row.r0,λy t e=>?_⟩
     rw [aF y] at e
     split at e
     ·rename_i h
      cases e
      exact ⟨hq,hf,h,AI⟩
     ·exact Xm.row.rt y t e
    have gR:Qg k s (s.1,s.2.set k Rh):=by
     refine ⟨rfl,by simp,λi hi=>⟨rfl,?_⟩,λi o ho=>ho,λi y t et=>?_,λi=>?_⟩
     ·show (s.2.set k Rh).getD i []=_;rw [YV i,if_neg (by omega)]
     ·show ((s.2.set k Rh).getD i []).getD y none=some t
      rw [YV i]
      split
      ·rename_i hi
       subst hi
       rw [aF y]
       split
       ·rename_i h;rw [<-h,Gl] at et;cases et
       ·exact et
      ·exact et
     ·show ((s.2.set k Rh).getD i []).length=_
      rw [YV i]
      split
      ·rename_i hi;subst hi;rw [<-lY,List.length_set]
      ·rfl
    have hnn:Hq Rh+1=Hq (s.2.getD k []):=by rw [<-lY];exact kQ Gl (by omega)
    have hmP:iy n k (s.1,s.2.set k Rh)<=f:=by
     unfold iy
     rw [OQ]
     unfold iy at TV
     omega
    have JF: ∀x∈(s.1.getD k []).map (λo=>Aa q (o.getD [])),Pm n x/\Fx k x/\Gn n (s.1.getD k []) x:= λx hx=>by
     obtain ⟨o,ho,rfl⟩:=List.mem_map.1 hx
     obtain ⟨g,rfl,g1,g2⟩:=Xm.pg o ho
     exact ⟨hq.comp g1,Fx.comp hq g1 hf g2 (by omega), .mul AI ho⟩
    obtain ⟨r1,r2,r3⟩:=eB hk (gs:=s.1.getD k []) (λq s j7 Mo a b c d=>ihP k q s hk j7 a b (by rw [Mo];exact c) d) ((s.1.getD k []).map λo=>Aa q (o.getD [])) (s.1,s.2.set k Rh) yg rfl JF hmP
    have e': ∀f',bQ n (f'+1) k q s=((s.1.getD k []).map λo=>Aa q (o.getD [])).foldl (λs q=>bQ n f' k q s) (s.1,s.2.set k Rh):= λf'=>by rw [e f',lY]
    refine ⟨?_,λf' AH=>by obtain ⟨AF,rfl,OL⟩:=ym f' AH;rw [e' AF,e' f];exact r3 AF OL⟩
    rw [e' f]
    generalize ((s.1.getD k []).map λo=>Aa q (o.getD [])).foldl (λs q=>bQ n f k q s) (s.1,s.2.set k Rh)=s' at r1 r2
    have yk:s'.1.getD k []=s.1.getD k []:=r1.same
    have Aa9: ∀x,Pm n x->Fx k x->Hd n k s x->Hd n k (s.1,s.2.set k Rh) x:= λx x1 x2 ⟨t',e1,e2⟩=>by
     obtain ⟨u1,u2,u3,_⟩:=Xm.row.rt _ _ e1
     exact ⟨t',gR.qw k _ _ e1,xZ h1 h2 hk Xm.comp yg.comp gR (x1.comp u1.inv) (Fx.div x1 u1 x2 u2 hk u3) e2⟩
    have hqq:(s'.2.getD k []).getD (ap q k) none=some q:=r1.grow.qw k _ _ (by rw [OQ,aF,if_pos rfl])
    refine ⟨⟨gR.trans r1.grow (Nat.le_refl _),yk,r1.part,λx x1 x2 x3=>r1.Cs x x1 x2 (Aa9 x x1 x2 x3),λy t ht=>?_⟩,q,hqq,?_⟩
    ·rcases r1.new y t ht with e1|e1
     ·rw [OQ,aF y] at e1
      split at e1
      ·cases e1
       refine .inr λg hg=>r2 _ (List.mem_map.2 ⟨some g,hg,rfl⟩)
      ·exact .inl e1
     ·exact .inr e1
    ·rw [Zq hq]
     exact (Oh h1 h2 _ (k+1) s' (by omega) r1.part.comp _ (Pm.id h1 h2) (λi hi=>cK (by omega))).2 .id
end Go.Proofs.YtfolipnappekaaaGreat

namespace Go.Proofs.YtfolipnappekaaaGreat
open Go.RowKit
theorem GB {n f k:Nat} {p:List Int} {s:As×As} :fh n (f+1) k p s=if Du s.2 (n-k) k p=true then s else
  ((known (s.2.getD k [])).map λu=>Aa u p).foldl (λs q=>bQ n f k q s) (s.1.set k (s.1.getD k []++ [some p]),s.2):=by simp only [fh]
theorem GC {n f k:Nat} {p:List Int} {s:As×As} :bQ n (f+1) k p s=match (s.2.getD k []).getD (ap p k) none with
  |some t=>fh n f (k+1) (Aa p (Ag t)) s
  |none=>((s.1.getD k []).map λo=>Aa p (o.getD [])).foldl (λs q=>bQ n f k q s) (s.1,s.2.set k ((s.2.getD k []).set (ap p k) (some p))):=by simp only [bQ]<;>rfl
theorem YQ {n k:Nat} (h2:n<=20):(n-k)*(n+2)<=440:=Nat.le_trans (Nat.mul_le_mul (show n-k<=20 by omega) (show n+2<=22 by omega)) (by omega)
theorem QM {n k f:Nat} (h2:n<=20) (hf:500<=f):HN n k<=f:=by have:=YQ (k:=k) h2;unfold HN;omega
theorem Ab9 {n k f:Nat} {s:As×As} (h2:n<=20) (hp:Part n k s) (hf:500<=f):iy n k s<=f:=by
 have:=YQ (k:=k) h2
 have h:=dD (s.2.getD k [])
 have hr:=hp.row.rl
 unfold iy;omega
theorem ZF {n k:Nat} (h1:1<=n) (h2:n<=20) {p:List Int} {s:As×As} (hk:k<=n) (hv:V n (n-k) k s) (hp:Pm n p) (hf:Fx k p):NB n (n-k) k s p (fh n 1000 k p s):=
 ((GD h1 h2 1000).1 k p s hk hv hp hf (QM h2 (by omega))).1
def dg (n k:Nat) (qs:List (List Int)) (s:As×As):As×As:=qs.foldl (λs q=>bQ n 1000 k q s) s
theorem om {n k:Nat} (h1:1<=n) (h2:n<=20) (hk:k<n) {qs:List (List Int)} {s:As×As} (hp:Part n k s) (hq: ∀q∈qs,Pm n q/\Fx k q/\Gn n (s.1.getD k []) q):
  Xo n k s (dg n k qs s)/\qs.foldl (λs q=>bQ n 999 k q s) s=dg n k qs s:=by
 have h:=eB hk (f:=999) (gs:=s.1.getD k []) (λq s' j7 Mo a b c d=>(GD h1 h2 999).2 k q s' hk j7 a b (by rw [Mo];exact c) d) qs s hp rfl hq (Ab9 h2 hp (by omega))
 have e:=h.2.2 1000 (by omega)
 refine ⟨?_,e.symm⟩
 unfold dg
 rw [e];exact h.1
theorem oo {n k:Nat} {qs:List (List Int)} {s:As×As} {j:Nat} (hj:j<qs.length):dg n k (qs.take (j+1)) s=bQ n 1000 k qs[j] (dg n k (qs.take j) s):=by
 unfold dg
 rw [List.take_add_one,List.getElem?_eq_getElem hj,Option.toList_some,List.foldl_append]
 rfl
theorem xd {n k:Nat} (h1:1<=n) (h2:n<=20) {p:List Int} {s:As×As} (OU:k<n) (hv:V n (n-k) k s) (hp:Pm n p) (hf:Fx k p):
  Part n k (s.1.set k (s.1.getD k []++ [some p]),s.2)/\ ∀q∈(known (s.2.getD k [])).map (λu=>Aa u p),Pm n q/\Fx k q/\Gn n ((s.1.set k (s.1.getD k []++ [some p])).getD k []) q:=by
 obtain ⟨v1,v2,hc,sZ⟩:=hv
 obtain ⟨m,hm⟩: ∃m,n-k=m+1:=⟨n-k-1,by omega⟩
 have yf:n-(k+1)=m:=by omega
 rw [hm] at hc sZ
 obtain ⟨c1,c2,c3⟩:=hc
 generalize j5:s.1.getD k []++ [some p]=gs
 have Ub:some p∈gs:=by rw [<-j5];simp
 have Kq: ∀o∈s.1.getD k [],o∈gs:= λo ho=>by rw [<-j5];exact List.mem_append_left _ ho
 have hg:PG n k gs:= λo ho=>by
  rw [<-j5] at ho
  rcases List.mem_append.1 ho with ho|ho
  ·exact c2.pg o ho
  ·rw [List.mem_singleton] at ho;exact ⟨p,ho,hp,hf⟩
 have pL: ∀i,(s.1.set k gs).getD i []=if i=k then gs else s.1.getD i []:= λi=>by
  rw [Gz]
  by_cases e:k=i
  ·subst e;rw [if_pos ⟨rfl,by omega⟩,if_pos rfl]
  ·rw [if_neg (λhh=>e hh.1),if_neg (Ne.symm e)]
 have qL: ∀i,k+1<=i->(s.1.set k gs).getD i []=s.1.getD i []/\s.2.getD i []=s.2.getD i []:= λi hi=>⟨by rw [pL i,if_neg (by omega)],rfl⟩
 refine ⟨⟨by simpa using v1,v2,?_,?_,?_,?_,λg Mo=>?_⟩,λq hq=>?_⟩
 ·show PG n k ((s.1.set k gs).getD k []);rw [pL k,if_pos rfl];exact hg
 ·show Pf n k ((s.1.set k gs).getD k []) _
  rw [pL k,if_pos rfl]
  exact ⟨c2.rl,c2.r0,λy t e=>⟨(c2.rt y t e).1,(c2.rt y t e).2.1,(c2.rt y t e).2.2.1,(c2.rt y t e).2.2.2.mono λg hg=>Kq _ hg⟩⟩
 ·rw [yf];exact Ou m (k+1) qL c1
 ·rw [yf];exact Wk m (k+1) qL sZ.1
 ·have Mo:some g∈(s.1.set k gs).getD (k+1) []:=Mo
  rw [(qL (k+1) (Nat.le_refl _)).1] at Mo
  show Gn n ((s.1.set k gs).getD k []) g
  rw [pL k,if_pos rfl]
  exact (c3 g Mo).mono λg hg=>Kq _ hg
 ·rw [pL k,if_pos rfl]
  obtain ⟨u,hu,rfl⟩:=List.mem_map.1 hq
  obtain ⟨y,hy⟩:=eP.1 hu
  obtain ⟨t1,t2,t3,t4⟩:=c2.rt _ _ hy
  exact ⟨t1.comp hp,Fx.comp t1 hp t2 hf (by omega), .mul (t4.mono λg hg=>Kq _ hg) Ub⟩
theorem NK {n k:Nat} (h1:1<=n) (h2:n<=20) {p:List Int} {s:As×As} (OU:k<n) (hv:V n (n-k) k s) (hp:Pm n p) (hf:Fx k p) (hh: ¬Du s.2 (n-k) k p=true):
  fh n 1000 k p s=dg n k ((known (s.2.getD k [])).map λu=>Aa u p) (s.1.set k (s.1.getD k []++ [some p]),s.2):=by
 obtain ⟨a1,a2⟩:=xd h1 h2 OU hv hp hf
 rw [<-(om h1 h2 OU a1 a2).2]
 exact (GB (f:=999)).trans (if_neg hh)
theorem GA {n k:Nat} {p:List Int} {s:As×As} (hh:Du s.2 (n-k) k p=true):fh n 1000 k p s=s:=by
 exact (GB (f:=999)).trans (if_pos hh)
theorem NM {n k:Nat} (h1:1<=n) (h2:n<=20) {q t:List Int} {s:As×As} (hk:k<n) (Xm:Part n k s) (hq:Pm n q) (hf:Fx k q) (Gl:(s.2.getD k []).getD (ap q k) none=some t):
  bQ n 1000 k q s=fh n 1000 (k+1) (Aa q (Ag t)) s:=by
 obtain ⟨t1,t2,t3,t4⟩:=Xm.row.rt _ _ Gl
 rw [((GD h1 h2 999).1 (k+1) _ s (by omega) Xm.v (hq.comp t1.inv) (Fx.div hq t1 hf t2 hk t3) (QM h2 (by omega))).2 1000 (by omega)]
 refine (GC (f:=999)).trans ?_
 rw [Gl]
theorem xe {n k:Nat} {q:List Int} {s:As×As} (hk:k<n) (Xm:Part n k s) (hq:Pm n q) (hf:Fx k q) (AI:Gn n (s.1.getD k []) q) (Gl:(s.2.getD k []).getD (ap q k) none=none):
  Part n k (s.1,s.2.set k ((s.2.getD k []).set (ap q k) (some q)))/\ ∀x∈(s.1.getD k []).map (λo=>Aa q (o.getD [])),Pm n x/\Fx k x/\Gn n (s.1.getD k []) x:=by
 have OZ:=Xm.row.rl
 have hy:ap q k<n:=hq.lt hk
 have hyk:ap q k≠k:= λh=>by rw [h,Xm.row.r0] at Gl;cases Gl
 have mO:=Xm.l2
 generalize lY:(s.2.getD k []).set (ap q k) (some q)=Rh
 have aF: ∀y,Rh.getD y none=if ap q k=y then some q else (s.2.getD k []).getD y none:= λy=>by
  rw [<-lY,Gz]
  by_cases h:ap q k=y
  ·rw [if_pos ⟨h,by omega⟩,if_pos h]
  ·rw [if_neg λhh=>h hh.1,if_neg h]
 have YV: ∀i,(s.2.set k Rh).getD i []=if i=k then Rh else s.2.getD i []:= λi=>by
  rw [Gz]
  by_cases e:k=i
  ·subst e;rw [if_pos ⟨rfl,by omega⟩,if_pos rfl]
  ·rw [if_neg (λhh=>e hh.1),if_neg (Ne.symm e)]
 have qL: ∀i,k+1<=i->s.1.getD i []=s.1.getD i []/\(s.2.set k Rh).getD i []=s.2.getD i []:= λi hi=>⟨rfl,by rw [YV i,if_neg (by omega)]⟩
 have OQ:((s.1,s.2.set k Rh):As×As).2.getD k []=Rh:=by show (s.2.set k Rh).getD k []=Rh;rw [YV k,if_pos rfl]
 refine ⟨⟨Xm.l1,by simpa using mO,Xm.pg,?_,Ou _ (k+1) qL Xm.comp,Wk _ (k+1) qL Xm.gb,Xm.sub⟩,λx hx=>?_⟩
 ·rw [OQ]
  refine ⟨by rw [<-lY,List.length_set];exact OZ,by rw [aF k,if_neg hyk];exact Xm.row.r0,λy t e=>?_⟩
  rw [aF y] at e
  split at e
  ·rename_i h
   cases e
   exact ⟨hq,hf,h,AI⟩
  ·exact Xm.row.rt y t e
 ·obtain ⟨o,ho,rfl⟩:=List.mem_map.1 hx
  obtain ⟨g,rfl,g1,g2⟩:=Xm.pg o ho
  exact ⟨hq.comp g1,Fx.comp hq g1 hf g2 (by omega), .mul AI ho⟩
theorem NL {n k:Nat} (h1:1<=n) (h2:n<=20) {q:List Int} {s:As×As} (hk:k<n) (Xm:Part n k s) (hq:Pm n q) (hf:Fx k q) (AI:Gn n (s.1.getD k []) q) (Gl:(s.2.getD k []).getD (ap q k) none=none):
  bQ n 1000 k q s=dg n k ((s.1.getD k []).map λo=>Aa q (o.getD [])) (s.1,s.2.set k ((s.2.getD k []).set (ap q k) (some q))):=by
 obtain ⟨a1,a2⟩:=xe hk Xm hq hf AI Gl
 rw [<-(om h1 h2 hk a1 a2).2]
 refine (GC (f:=999)).trans ?_
 rw [Gl]
def Kn (n:Nat) (gens:List PO):As×As:=gens.foldl (λs o=>fh n 1000 0 (o.getD []) s) (Nu n,Ss n)
theorem uk {n:Nat} {gens:List PO} {j:Nat} (hj:j<gens.length):Kn n (gens.take (j+1))=fh n 1000 0 (gens[j].getD []) (Kn n (gens.take j)):=by
 unfold Kn
 rw [List.take_add_one,List.getElem?_eq_getElem hj,Option.toList_some,List.foldl_append]
 rfl
theorem gC {n:Nat} (h1:1<=n) (h2:n<=20): ∀(gens:List PO) (s:As×As),ZE n gens->V n n 0 s->V n n 0 (gens.foldl (λs o=>fh n 1000 0 (o.getD []) s) s)/\
  Qg 0 s (gens.foldl (λs o=>fh n 1000 0 (o.getD []) s) s)/\(∀g,some g∈gens->Gn n ((gens.foldl (λs o=>fh n 1000 0 (o.getD []) s) s).1.getD 0 []) g)/\ ∀o∈(gens.foldl (λs o=>fh n 1000 0 (o.getD []) s) s).1.getD 0 [],o∈s.1.getD 0 []\/o∈gens
 | [],s,_,hv=>⟨hv,Qg.refl _ _,(λ_ hg=>by cases hg),λ_ ho=> .inl ho⟩
 |o::gens,s,hg,hv=>by
  obtain ⟨g,rfl,Ny⟩:=hg o (by simp)
  have ha:=ZF h1 h2 (k:=0) (Nat.zero_le _) (by rw [Nat.sub_zero];exact hv) Ny (λi hi=>absurd hi (Nat.not_lt_zero _))
  have GV:=ha.v
  rw [Nat.sub_zero] at GV
  obtain ⟨a1,a2,a3,a4⟩:=gC h1 h2 gens (fh n 1000 0 g s) (λo ho=>hg o (by simp [ho])) GV
  refine ⟨a1,ha.grow.trans a2 (Nat.le_refl _),λg' Mo=>?_,λo ho=>?_⟩
  ·rcases List.mem_cons.1 Mo with e|Mo
   ·cases e;exact ha.Ab5.mono λg hg=>a2.sS _ _ hg
   ·exact a3 g' Mo
  ·rcases a4 o ho with h|h
   ·rcases ha.gens o h with h|h
    ·exact .inl h
    ·exact .inr (by simp [h])
   ·exact .inr (by simp [h])
theorem sC {n:Nat} (h1:1<=n) (h2:n<=20) {gens:List PO} (hg:ZE n gens):V n n 0 (Kn n gens):=(gC h1 h2 gens _ hg (nG h1 h2)).1
theorem xY {n:Nat} (h1:1<=n) (h2:n<=20) {gens:List PO} (hg:ZE n gens) {p:List Int} (hp:Pm n p):Du (Kn n gens).2 n 0 p=true↔Gn n gens p:=by
 obtain ⟨a1,a2,a3,a4⟩:=gC h1 h2 gens _ hg (nG h1 h2)
 have hS:x4 n λg=>some g∈gens:=⟨⟨h1,h2⟩,λg Mo=>by obtain ⟨g',e,h⟩:=hg _ Mo;cases e;exact h⟩
 have Kq: ∀g,some g∈(Kn n gens).1.getD 0 []->some g∈gens:= λg Mo=>by
  rcases a4 _ Mo with h|h
  ·have h:some g∈(Nu n).getD 0 []:=h
   rw [Sr] at h;cases h
  ·exact h
 have ZX:x4 n λg=>some g∈(Kn n gens).1.getD 0 []:=⟨⟨h1,h2⟩,λg Mo=>hS.2 g (Kq g Mo)⟩
 refine (Oh h1 h2 n 0 (Kn n gens) (by omega) a1.2.2.1 p hp λi hi=>absurd hi (Nat.not_lt_zero _)).trans ⟨λh=>h.mono Kq,λh=>h.trans ZX λg Mo=>a3 g Mo⟩
end Go.Proofs.YtfolipnappekaaaGreat

namespace Go.Proofs.YtfolipnappekaaaGreat
open Go.RowKit
def Jh (T:As):Nat->Nat->List Int->List Int×Int×Unit
 |0,l,p=>(p,(l:Int),())
 |k+1,l,p=>match (T.getD l []).getD (It p (l:Int)).toNat none with
  |none=>(p,(l:Int),())
  |some t=>Jh T k (l+1) (Aa p (Ag t))
theorem pQ {T:As} : ∀(k l:Nat) (p:List Int),(Jh T k l p).2.1=((l+k:Nat):Int)↔Du T k l p=true
 |0,l,p=>by simp [Jh,Du]
 |k+1,l,p=>by
  unfold Jh Du
  cases (T.getD l []).getD (It p (l:Int)).toNat none with
  |none=>
   constructor
   ·intro h
    have h:(l:Int)=((l+(k+1):Nat):Int):=h
    omega
   ·intro h;cases h
  |some t=>
   have h:=pQ (T:=T) k (l+1) (Aa p (Ag t))
   rw [show l+1+k=l+(k+1) by omega] at h
   exact h
theorem CQ {row:Row} {y:Nat} (h:y<row.length):known (row.take (y+1))=known (row.take y)++(row[y]).toList:=by
 unfold known
 rw [List.take_succ_eq_append_getElem h,List.filterMap_append]
 cases row[y]<;>rfl
theorem tv (row:Row):(known row).length<=row.length:=List.length_filterMap_le _ _
theorem sQ {n k:Nat} (h1:1<=n) (h2:n<=20) (hk:k<n) {qs:List (List Int)} {s:As×As} (hp:Part n k s) (hq: ∀q∈qs,Pm n q/\Fx k q/\Gn n (s.1.getD k []) q) (j:Nat):Xo n k s (dg n k (qs.take j) s):=
 (om h1 h2 hk hp λq h=>hq q (List.mem_of_mem_take h)).1
theorem CZ {n k:Nat} {s:As×As} (hp:Part n k s):iy n k s<HN n k:=by
 have h:=dD (s.2.getD k [])
 have hr:=hp.row.rl
 unfold iy HN
 omega
theorem QN {n k:Nat} {s:As×As} (hk:k<n):HN n (k+1)<iy n k s:=by
 obtain ⟨m,hm⟩: ∃m,n-k=m+1:=⟨n-k-1,by omega⟩
 have yf:n-(k+1)=m:=by omega
 unfold HN iy
 rw [hm,yf,Nat.succ_mul]
 omega
theorem VM {n k y:Nat} {s:As×As} {q:List Int} (hk:k<s.2.length) (hy:y<(s.2.getD k []).length) (h:(s.2.getD k []).getD y none=none):
  iy n k (s.1,s.2.set k ((s.2.getD k []).set y (some q)))+1=iy n k s:=by
 have h1:=kQ (t:=q) h hy
 have h2:(s.2.set k ((s.2.getD k []).set y (some q))).getD k []=(s.2.getD k []).set y (some q):=by
  rw [Gz,if_pos ⟨rfl,hk⟩]
 unfold iy
 show _+Hq ((s.2.set k ((s.2.getD k []).set y (some q))).getD k [])+1=_
 rw [h2]
 omega
def ke (n:Int) (g:List (List Int)):As×As:=Kn n.toNat (g.map some)
end Go.Proofs.YtfolipnappekaaaGreat
