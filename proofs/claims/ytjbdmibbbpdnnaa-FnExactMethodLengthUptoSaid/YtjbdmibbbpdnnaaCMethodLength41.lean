/-
  Part 42 of the proof that the statement FnExactMethodLength holds.
-/
import Derived.Test.YtjbdmibbbpdnnaaCMethodLength40
namespace Go.Proofs.Ytjbdmibbbpdnnaa
open Go.RowKit
def ap (p:List Int) (i:Nat):Nat:=(Cb p (i:Int)).toNat
def Pm (n:Nat) (p:List Int):Prop:=p.length=n/\Ul p
theorem Pm.n1 {n:Nat} {p:List Int} (h:Pm n p):1<=n:=h.1▸h.2.pos
theorem Pm.n2 {n:Nat} {p:List Int} (h:Pm n p):n<=20:=h.1▸h.2.len
theorem Pm.Rx {n:Nat} {p:List Int} (h:Pm n p) {i:Nat} (hi:i<n):Cb p (i:Int)=(ap p i:Int)/\ap p i<n:=by
 have eH:i<p.length:=by rw [h.1];exact hi
 have:=h.2.row _ (List.getElem_mem eH)
 unfold ap
 rw [Ik eH]
 have h1:=h.1
 omega
theorem Pm.lt {n:Nat} {p:List Int} (h:Pm n p) {i:Nat} (hi:i<n):ap p i<n:=(h.Rx hi).2
theorem Pm.ext {n:Nat} {p q:List Int} (h:Pm n p) (k:Pm n q) (e: ∀i,i<n->ap p i=ap q i):p=q:=by
 refine List.ext_getElem (by rw [h.1,k.1]) λi h1 h2=>?_
 have hi:i<n:=by rw [<-h.1];exact h1
 have a:=(h.Rx hi).1
 have b:=(k.Rx hi).1
 rw [Ik h1] at a
 rw [Ik h2] at b
 rw [a,b,e i hi]
theorem Pm.inj {n:Nat} {p:List Int} (h:Pm n p) {i j:Nat} (hi:i<n) (hj:j<n) (e:ap p i=ap p j):i=j:=
 h.2.inj i j (by rw [h.1];exact hi) (by rw [h.1];exact hj) e
theorem Pm.LJ {n:Nat} {p:List Int} (h:Pm n p) {k:Nat} (hk:k<n): ∃i,i<n/\ap p i=k:=by
 obtain ⟨i,h1,h2⟩:=h.2.LJ k (by rw [h.1];exact hk)
 exact ⟨i,by rw [<-h.1];exact h1,h2⟩
theorem Pm.of {n:Nat} {p:List Int} (hl:p.length=n) (h1:1<=n) (h2:n<=20) (f:Nat->Nat) (hf: ∀i,i<n->p[i]?=some (f i:Int)/\f i<n) (hi: ∀i j,i<n->j<n->f i=f j->i=j):Pm n p:=by
 refine ⟨hl,by omega,by omega,λy hy=>?_,?_⟩
 ·obtain ⟨i,hi,rfl⟩:=List.mem_iff_getElem.1 hy
  obtain ⟨h3,h4⟩:=hf i (by omega)
  rw [List.getElem?_eq_getElem hi] at h3
  rw [Option.some.inj h3]
  omega
 ·refine List.pairwise_iff_getElem.2 λi j h3 h4 h5 h6=>?_
  have a:=(hf i (by omega)).1
  have b:=(hf j (by omega)).1
  rw [List.getElem?_eq_getElem h3] at a
  rw [List.getElem?_eq_getElem h4] at b
  rw [Option.some.inj a,Option.some.inj b] at h6
  have:=hi i j (by omega) (by omega) (by omega)
  omega
theorem vu {n:Nat} {p q:List Int} (hp:Pm n p) (hq:Pm n q) {i:Nat} (hi:i<n):(Aa p q)[i]?=some (ap q (ap p i):Int):=by
 have h1:i<p.length:=by rw [hp.1];exact hi
 unfold Aa
 rw [List.getElem?_map,List.getElem?_eq_getElem h1]
 have a:=(hp.Rx hi).1
 rw [Ik h1] at a
 simp only [Option.map_some,a]
 rw [(hq.Rx (hp.Rx hi).2).1]
theorem Pm.comp {n:Nat} {p q:List Int} (hp:Pm n p) (hq:Pm n q):Pm n (Aa p q):=
 Pm.of (by rw [Nx,hp.1]) hp.n1 hp.n2 (λi=>ap q (ap p i)) (λi hi=>⟨vu hp hq hi,hq.lt (hp.lt hi)⟩) λi j hi hj e=>hp.inj hi hj (hq.inj (hp.lt hi) (hp.lt hj) e)
theorem IQ {p:List Int} {i k:Nat} (h:p[i]?=some (k:Int)):ap p i=k:=by
 unfold ap Cb
 rw [Int.toNat_natCast,List.getD_eq_getElem?_getD,h]
 simp
theorem Gb {n:Nat} {p q:List Int} (hp:Pm n p) (hq:Pm n q) {i:Nat} (hi:i<n):ap (Aa p q) i=ap q (ap p i):=IQ (vu hp hq hi)
theorem oM {n i:Nat} (hi:i<n):(upto n)[i]?=some (i:Int):=by simp [upto,hi]
theorem ek {n i:Nat} (hi:i<n):ap (upto n) i=i:=IQ (oM hi)
theorem Pm.id {n:Nat} (h1:1<=n) (h2:n<=20):Pm n (upto n):=Pm.of (by simp [upto]) h1 h2 (λi=>i) (λi hi=>⟨oM hi,hi⟩) λ_ _ _ _ e=>e
theorem CE {n:Nat} {p:List Int} (hp:Pm n p) {i:Nat} (hi:i<n):(An p)[ap p i]?=some (i:Int):=KN hp.2 (by rw [hp.1];exact hi)
theorem dF {n:Nat} {p:List Int} (hp:Pm n p) {i:Nat} (hi:i<n):ap (An p) (ap p i)=i:=IQ (CE hp hi)
theorem s8 {n:Nat} {p:List Int} (hp:Pm n p) {k:Nat} (hk:k<n):ap p (ap (An p) k)=k:=by
 obtain ⟨i,hi,rfl⟩:=hp.LJ hk
 rw [dF hp hi]
theorem Pm.inv {n:Nat} {p:List Int} (hp:Pm n p):Pm n (An p):=by
 refine Pm.of (by rw [lW,hp.1]) hp.n1 hp.n2 (λk=>ap (An p) k) (λk hk=>?_) λi j hi hj e=>?_
 ·obtain ⟨i,hi,rfl⟩:=hp.LJ hk
  rw [dF hp hi]
  exact ⟨CE hp hi,hi⟩
 ·rw [<-s8 hp hi,<-s8 hp hj,e]
theorem Ec {n:Nat} {p q r:List Int} (hp:Pm n p) (hq:Pm n q) (hr:Pm n r):Aa (Aa p q) r=Aa p (Aa q r):=
 ((hp.comp hq).comp hr).ext (hp.comp (hq.comp hr)) λi hi=>by rw [Gb (hp.comp hq) hr hi,Gb hp hq hi,Gb hp (hq.comp hr) hi,Gb hq hr (hp.lt hi)]
theorem comp_id {n:Nat} {p:List Int} (hp:Pm n p):Aa p (upto n)=p:=
 (hp.comp (Pm.id hp.n1 hp.n2)).ext hp λi hi=>by rw [Gb hp (Pm.id hp.n1 hp.n2) hi,ek (hp.lt hi)]
theorem id_comp {n:Nat} {p:List Int} (hp:Pm n p):Aa (upto n) p=p:=
 ((Pm.id hp.n1 hp.n2).comp hp).ext hp λi hi=>by rw [Gb (Pm.id hp.n1 hp.n2) hp hi,ek hi]
theorem c7 {n:Nat} {p:List Int} (hp:Pm n p):Aa p (An p)=upto n:=
 (hp.comp hp.inv).ext (Pm.id hp.n1 hp.n2) λi hi=>by rw [Gb hp hp.inv hi,dF hp hi,ek hi]
theorem Vd {n:Nat} {p:List Int} (hp:Pm n p):Aa (An p) p=upto n:=
 (hp.inv.comp hp).ext (Pm.id hp.n1 hp.n2) λi hi=>by rw [Gb hp.inv hp hi,s8 hp hi,ek hi]
theorem ng {n:Nat} {p q:List Int} (hp:Pm n p) (hq:Pm n q) (h:Aa p q=upto n):An p=q:=by
 rw [<-comp_id hp.inv,<-h,<-Ec hp.inv hp hq,Vd hp,id_comp hq]
theorem inv_mul {n:Nat} {p q:List Int} (hp:Pm n p) (hq:Pm n q):An (Aa p q)=Aa (An q) (An p):=
 ng (hp.comp hq) (hq.inv.comp hp.inv) (by
  rw [Ec hp hq (hq.inv.comp hp.inv),<-Ec hq hq.inv hp.inv,c7 hq,id_comp hp.inv,c7 hp])
theorem inv_inv {n:Nat} {p:List Int} (hp:Pm n p):An (An p)=p:=ng hp.inv hp (Vd hp)
theorem KO {n:Nat} (h1:1<=n) (h2:n<=20):An (upto n)=upto n:=ng (Pm.id h1 h2) (Pm.id h1 h2) (comp_id (Pm.id h1 h2))
inductive Xv (n:Nat) (S:List Int->Prop):List Int->Prop where
 |id:Xv n S (upto n)
 |mul {p g:List Int} :Xv n S p->S g->Xv n S (Aa p g)
 |inv {p g:List Int} :Xv n S p->S g->Xv n S (Aa p (An g))
def AQ (n:Nat) (S:List Int->Prop):Prop:=(1<=n/\n<=20)/\ ∀g,S g->Pm n g
theorem Xv.pm {n:Nat} {S:List Int->Prop} (hS:AQ n S) {p:List Int} (h:Xv n S p):Pm n p:=by
 induction h with
 |id=>exact Pm.id hS.1.1 hS.1.2
 |mul _ hg ih=>exact ih.comp (hS.2 _ hg)
 |inv _ hg ih=>exact ih.comp (hS.2 _ hg).inv
theorem Xv.comp {n:Nat} {S:List Int->Prop} (hS:AQ n S) {p q:List Int} (hp:Xv n S p) (hq:Xv n S q):Xv n S (Aa p q):=by
 induction hq with
 |id=>rw [comp_id (hp.pm hS)];exact hp
 |mul hq hg ih=>rw [<-Ec (hp.pm hS) (hq.pm hS) (hS.2 _ hg)];exact .mul ih hg
 |inv hq hg ih=>rw [<-Ec (hp.pm hS) (hq.pm hS) (hS.2 _ hg).inv];exact .inv ih hg
theorem Xv.one {n:Nat} {S:List Int->Prop} (hS:AQ n S) {g:List Int} (hg:S g):Xv n S g:=by
 have:=Xv.mul (n:=n) (S:=S) .id hg
 rwa [id_comp (hS.2 g hg)] at this
theorem Xv.XC {n:Nat} {S:List Int->Prop} (hS:AQ n S) {g:List Int} (hg:S g):Xv n S (An g):=by
 have:=Xv.inv (n:=n) (S:=S) .id hg
 rwa [id_comp (hS.2 g hg).inv] at this
theorem Xv.sN {n:Nat} {S:List Int->Prop} (hS:AQ n S) {p:List Int} (hp:Xv n S p):Xv n S (An p):=by
 induction hp with
 |id=>rw [KO hS.1.1 hS.1.2];exact .id
 |mul hq hg ih=>rw [inv_mul (hq.pm hS) (hS.2 _ hg)];exact (Xv.XC hS hg).comp hS ih
 |inv hq hg ih=>rw [inv_mul (hq.pm hS) (hS.2 _ hg).inv,inv_inv (hS.2 _ hg)];exact (Xv.one hS hg).comp hS ih
theorem Xv.trans {n:Nat} {S S':List Int->Prop} (hS':AQ n S') (h: ∀g,S g->Xv n S' g) {p:List Int} (hp:Xv n S p):Xv n S' p:=by
 induction hp with
 |id=>exact .id
 |mul _ hg ih=>exact ih.comp hS' (h _ hg)
 |inv _ hg ih=>exact ih.comp hS' ((h _ hg).sN hS')
abbrev PO:=Option (List Int)
abbrev Row:=List PO
abbrev Da:=List Row
def Hz (row:Row):List Int:=(upto row.length).filter λy=>(row.getD y.toNat none).isSome
def Jh (T:Da):Nat->Nat->List Int->Bool
 |0,_,_=>true
 |k+1,i,p=>match (T.getD i []).getD (Cb p (i:Int)).toNat none with
  |none=>false
  |some t=>Jh T k (i+1) (Aa p (An t))
def Lp (row:Row):Nat:=row.countP (·.isNone)
def Th (x:Int) (s:Row×List Int) (o:PO):Row×List Int:=
 match s.1.getD (Cb (o.getD []) x).toNat none with
 |some _=>s
 |none=>(s.1.set (Cb (o.getD []) x).toNat (some (Aa ((s.1.getD x.toNat none).getD []) (o.getD []))),s.2++ [Cb (o.getD []) x])
def Sy (x:Int) (gs:List PO) (s:Row×List Int):Row×List Int:=gs.foldl (Th x) s
def Sr (gs:List PO):Nat->List Int->Row->Row
 |0,_,row=>row
 |_+1,[],row=>row
 |f+1,x::q,row=>Sr gs f (Sy x gs (row,q)).2 (Sy x gs (row,q)).1
def Rp (gs:List PO) (row:Row):Row:=Sr gs 100 (Hz row) row
def Nd (row:Row) (y:Int) (g:PO):List Int:=
 Aa (Aa ((row.getD y.toNat none).getD []) (g.getD [])) (An ((row.getD (Cb (g.getD []) y).toNat none).getD []))
def bo (row:Row) (gs:List PO):List (List Int):=(Hz row).flatMap λy=>gs.map λg=>Nd row y g
def Dv:Nat->Nat->List Int->Da×Da->Da×Da
 |0,_,_,s=>s
 |k+1,l,p,s=>
  if Jh s.2 (k+1) l p=true then s else
   (bo (Rp (s.1.getD l []++ [some p]) (s.2.getD l [])) (s.1.getD l []++ [some p])).foldl (λs q=>Dv k (l+1) q s)
    (s.1.set l (s.1.getD l []++ [some p]),s.2.set l (Rp (s.1.getD l []++ [some p]) (s.2.getD l [])))
def Fx (l:Nat) (p:List Int):Prop:= ∀i,i<l->ap p i=i
def Gn (n:Nat) (gs:List PO):List Int->Prop:=Xv n λg=>some g∈gs
structure ON (n l:Nat) (gs:List PO) (row:Row) (H:List Int->Prop):Prop where
 pg: ∀o∈gs,∃g,o=some g/\Pm n g/\Fx l g
 rl:row.length=n
 r0:row.getD l none=some (upto n)
 rt: ∀y t,row.getD y none=some t->Pm n t/\Fx l t/\ap t l=y/\Gn n gs t
 cl: ∀y t g,row.getD y none=some t->some g∈gs->row.getD (ap g y) none≠none
 sg: ∀y t g t',row.getD y none=some t->some g∈gs->row.getD (ap g y) none=some t'->H (Aa (Aa t g) (An t'))
def fj (n:Nat):Nat->Nat->Da×Da->Prop
 |0,l,s=>s.1.getD l []= []
 |k+1,l,s=>fj n k (l+1) s/\ON n l (s.1.getD l []) (s.2.getD l []) (λq=>Jh s.2 k (l+1) q=true)/\ ∀g,some g∈s.1.getD (l+1) []->Gn n (s.1.getD l []) g
theorem RQ {l1 l2:List Nat} (hn:l1.Nodup) (hs: ∀x∈l1,x∈l2) (hl:l2.length<=l1.length): ∀x∈l2,x∈l1:=by
 induction l1 generalizing l2 with
 |nil=>
  intro x hx
  have:l2= []:=List.eq_nil_of_length_eq_zero (by simpa using hl)
  rw [this] at hx;cases hx
 |cons a l ih=>
  intro x hx
  obtain ⟨h1,h2⟩:=List.nodup_cons.1 hn
  have ha:=hs a (by simp)
  by_cases e:x=a
  ·subst e;simp
  ·refine List.mem_cons_of_mem _ (ih (l2:=l2.erase a) h2 (λy hy=>?_) ?_ x ((List.mem_erase_of_ne e).2 hx))
   ·have hya:y≠a:= λe'=>h1 (by rw [<-e'];exact hy)
    exact (List.mem_erase_of_ne hya).2 (hs y (by simp [hy]))
   ·rw [List.length_erase_of_mem ha]
    simp only [List.length_cons] at hl
    omega
theorem zh {n:Nat} {g:List Int} (hg:Pm n g) (D:Nat->Bool) (h: ∀y,y<n->D y=true->D (ap g y)=true) {y:Nat} (hy:y<n) (hD:D y=true): ∃x,x<n/\D x=true/\ap g x=y:=by
 have:=RQ (l1:=((List.range n).filter D).map (ap g)) (l2:=(List.range n).filter D) ?_ ?_ (by simp) y (List.mem_filter.2 ⟨List.mem_range.2 hy,hD⟩)
 ·obtain ⟨x,hx,e⟩:=List.mem_map.1 this
  obtain ⟨h1,h2⟩:=List.mem_filter.1 hx
  exact ⟨x,List.mem_range.1 h1,h2,e⟩
 ·refine List.pairwise_map.2 (List.Pairwise.imp_of_mem ?_ (List.nodup_range.filter D))
  intro a b ha hb Ex e
  exact Ex (hg.inj (List.mem_range.1 (List.mem_filter.1 ha).1) (List.mem_range.1 (List.mem_filter.1 hb).1) e)
 ·intro x hx
  obtain ⟨z,hz,rfl⟩:=List.mem_map.1 hx
  obtain ⟨h1,h2⟩:=List.mem_filter.1 hz
  exact List.mem_filter.2 ⟨List.mem_range.2 (hg.lt (List.mem_range.1 h1)),h z (List.mem_range.1 h1) h2⟩
theorem lP {row:Row} {y:Nat} {t:List Int} (h:row.getD y none=some t):y<row.length:=by
 rw [List.getD_eq_getElem?_getD] at h
 refine Classical.byContradiction λhn=>?_
 rw [List.getElem?_eq_none (by omega)] at h
 cases h
theorem ON.pms {n l:Nat} {gs:List PO} {row:Row} {H:List Int->Prop} (h:ON n l gs row H):AQ n λg=>some g∈gs:=by
 refine ⟨?_,λg hg=>?_⟩
 ·have:=(h.rt l _ h.r0).1
  exact ⟨this.n1,this.n2⟩
 ·obtain ⟨g',e,h1,_⟩:=h.pg _ hg
  cases e;exact h1
theorem Fx.inv {n l:Nat} {p:List Int} (hp:Pm n p) (h:Fx l p) (hl:l<=n):Fx l (An p):= λi hi=>by
 have:=dF hp (i:=i) (by omega)
 rwa [h i hi] at this
theorem Fx.comp {n l:Nat} {p q:List Int} (hp:Pm n p) (hq:Pm n q) (h1:Fx l p) (h2:Fx l q) (hl:l<=n):Fx l (Aa p q):= λi hi=>by
 rw [Gb hp hq (by omega),h1 i hi,h2 i hi]
theorem Fx.all {n:Nat} {p:List Int} (hp:Pm n p) (h:Fx n p):p=upto n:=hp.ext (Pm.id hp.n1 hp.n2) λi hi=>by rw [h i hi,ek hi]
theorem Fx.div {n l:Nat} {p t:List Int} (hp:Pm n p) (ht:Pm n t) (h1:Fx l p) (h2:Fx l t) (hl:l<n) (e:ap t l=ap p l):Fx (l+1) (Aa p (An t)):= λi hi=>by
 rw [Gb hp ht.inv (by omega)]
 by_cases OD:i<l
 ·rw [h1 i OD];exact h2.inv ht (by omega) i OD
 ·have:i=l:=by omega
  subst this
  rw [<-e,dF ht hl]
theorem hZ {n:Nat} (h1:1<=n) (h2:n<=20): ∀(k l:Nat) (s:Da×Da),l+k=n->fj n k l s-> ∀p,Pm n p->Fx l p->(Jh s.2 k l p=true↔Gn n (s.1.getD l []) p)
 |0,l,s,hk,hc,p,hp,hf=>by
  have hl:l=n:=by omega
  subst hl
  rw [hf.all hp]
  exact ⟨λ_=> .id,λ_=>rfl⟩
 |k+1,l,s,hk,hc,p,hp,hf=>by
  obtain ⟨c1,c2,c3⟩:=hc
  have hS:=c2.pms
  have ih:=hZ h1 h2 k (l+1) s (by omega) c1
  have hS1:AQ n λg=>some g∈s.1.getD (l+1) []:=⟨⟨h1,h2⟩,λg hg=>(c3 g hg).pm hS⟩
  have bg:l<n:=by omega
  constructor
  ·intro h
   simp only [Jh] at h
   rw [show (Cb p (l:Int)).toNat=ap p l from rfl] at h
   split at h
   ·cases h
   ·rename_i t ht
    obtain ⟨t1,t2,t3,t4⟩:=c2.rt _ _ ht
    have TG:=Fx.div hp t1 hf t2 bg t3
    have hg:=((ih _ (hp.comp t1.inv) TG).1 h).trans hS c3
    have:=Xv.comp hS hg t4
    rwa [Ec hp t1.inv t1,Vd t1,comp_id hp] at this
  ·intro h
   have key: ∀q,Gn n (s.1.getD l []) q-> ∃t,(s.2.getD l []).getD (ap q l) none=some t/\Gn n (s.1.getD (l+1) []) (Aa q (An t)):=by
    intro q hq
    induction hq with
    |id=>
     refine ⟨upto n,by rw [ek bg];exact c2.r0,?_⟩
     rw [KO h1 h2,comp_id (Pm.id h1 h2)]
     exact .id
    | @mul q g hq hg ihq=>
     obtain ⟨t,e1,e2⟩:=ihq
     have TT:=Xv.pm hS hq
     have Py:=hS.2 _ hg
     obtain ⟨t1,t2,t3,t4⟩:=c2.rt _ _ e1
     cases e3:(s.2.getD l []).getD (ap g (ap q l)) none with
     |none=>exact absurd e3 (c2.cl _ _ _ e1 hg)
     |some t'=>
      obtain ⟨u1,u2,u3,u4⟩:=c2.rt _ _ e3
      have hsg:=c2.sg _ _ _ _ e1 hg e3
      have hfg:Fx (l+1) (Aa (Aa t g) (An t')):=Fx.div (t1.comp Py) u1 (Fx.comp t1 Py t2 (by obtain ⟨g',e,_,h⟩:=c2.pg _ hg;cases e;exact h) (by omega)) u2 bg (by rw [u3,Gb t1 Py bg,t3])
      have VM:=(ih _ ((t1.comp Py).comp u1.inv) hfg).1 hsg
      refine ⟨t',by rw [Gb TT Py bg];exact e3,?_⟩
      have:=Xv.comp hS1 e2 VM
      rwa [show Aa (Aa q (An t)) (Aa (Aa t g) (An t'))=Aa (Aa q g) (An t') by
       rw [Ec TT t1.inv ((t1.comp Py).comp u1.inv),Ec t1 Py u1.inv,<-Ec t1.inv t1 (Py.comp u1.inv),Vd t1,id_comp (Py.comp u1.inv),Ec TT Py u1.inv]] at this
    | @inv q g hq hg ihq=>
     obtain ⟨t,e1,e2⟩:=ihq
     have TT:=Xv.pm hS hq
     have Py:=hS.2 _ hg
     obtain ⟨t1,t2,t3,t4⟩:=c2.rt _ _ e1
     have hy:ap q l<n:=TT.lt bg
     obtain ⟨x,hx,hD,he⟩:=zh Py (λy=>((s.2.getD l []).getD y none).isSome) (λy hy hd=>by
      obtain ⟨t0,QH⟩:=Option.isSome_iff_exists.1 hd
      exact Option.ne_none_iff_isSome.1 (c2.cl _ _ _ QH hg)) hy (by rw [e1];rfl)
     obtain ⟨t',e3⟩:=Option.isSome_iff_exists.1 hD
     obtain ⟨u1,u2,u3,u4⟩:=c2.rt _ _ e3
     have hsg:=c2.sg _ _ _ _ e3 hg (by rw [he];exact e1)
     have hfg:Fx (l+1) (Aa (Aa t' g) (An t)):=Fx.div (u1.comp Py) t1 (Fx.comp u1 Py u2 (by obtain ⟨g',e,_,h⟩:=c2.pg _ hg;cases e;exact h) (by omega)) t2 bg (by rw [t3,Gb u1 Py bg,u3,he])
     have VM:=Xv.sN hS1 ((ih _ ((u1.comp Py).comp t1.inv) hfg).1 hsg)
     have hax:ap (An g) (ap q l)=x:=by rw [<-he,dF Py hx]
     refine ⟨t',by rw [Gb TT Py.inv bg,hax];exact e3,?_⟩
     have:=Xv.comp hS1 e2 VM
     rwa [show Aa (Aa q (An t)) (An (Aa (Aa t' g) (An t)))=Aa (Aa q (An g)) (An t') by
      rw [inv_mul (u1.comp Py) t1.inv,inv_inv t1,inv_mul u1 Py,Ec TT t1.inv (t1.comp (Py.inv.comp u1.inv)),<-Ec t1.inv t1 (Py.inv.comp u1.inv),Vd t1,id_comp (Py.inv.comp u1.inv),Ec TT Py.inv u1.inv]] at this
   obtain ⟨t,e1,e2⟩:=key p h
   obtain ⟨t1,t2,t3,t4⟩:=c2.rt _ _ e1
   simp only [Jh]
   rw [show (Cb p (l:Int)).toNat=ap p l from rfl,e1]
   exact (ih _ (hp.comp t1.inv) (Fx.div hp t1 hf t2 bg t3)).2 e2
end Go.Proofs.Ytjbdmibbbpdnnaa

namespace Go.Proofs.Ytjbdmibbbpdnnaa
open Go.RowKit
theorem Oa {α:Type} (xs:List α) (i j:Nat) (x d:α):(xs.set i x).getD j d=if i=j/\i<xs.length then x else xs.getD j d:=by
 rw [List.getD_eq_getElem?_getD,List.getElem?_set,List.getD_eq_getElem?_getD]
 by_cases e:i=j
 ·subst e
  by_cases h:i<xs.length
  ·rw [if_pos rfl,if_pos h,if_pos ⟨rfl,h⟩];rfl
  ·rw [if_pos rfl,if_neg h,if_neg (λhh=>h hh.2),List.getElem?_eq_none (by omega)]
 ·rw [if_neg e,if_neg (λhh=>e hh.1)]
theorem Xv.mono {n:Nat} {S S':List Int->Prop} (h: ∀g,S g->S' g) {p:List Int} (hp:Xv n S p):Xv n S' p:=by
 induction hp with
 |id=>exact .id
 |mul _ hg ih=>exact .mul ih (h _ hg)
 |inv _ hg ih=>exact .inv ih (h _ hg)
structure Rv (n l:Nat) (gs:List PO) (row:Row):Prop where
 rl:row.length=n
 r0:row.getD l none=some (upto n)
 rt: ∀y t,row.getD y none=some t->Pm n t/\Fx l t/\ap t l=y/\Gn n gs t
def PG (n l:Nat) (gs:List PO):Prop:= ∀o∈gs,∃g,o=some g/\Pm n g/\Fx l g
structure Ext (n l:Nat) (gs:List PO) (row:Row) (q:List Int) (s':Row×List Int):Prop where
 ok:Rv n l gs s'.1
 mono: ∀y t,row.getD y none=some t->s'.1.getD y none=some t
 ZL:s'.2.length+Lp s'.1=q.length+Lp row
 oW: ∀y∈q,y∈s'.2
 new: ∀y∈s'.2,y∈q\/ ∃yn:Nat,y=yn/\s'.1.getD yn none≠none
 src: ∀y:Nat,s'.1.getD y none≠none->row.getD y none≠none\/(y:Int)∈s'.2
theorem Ext.refl {n l:Nat} {gs:List PO} {row:Row} {q:List Int} (h:Rv n l gs row):Ext n l gs row q (row,q):=⟨h,λ_ _ h=>h,rfl,λ_ h=>h,λ_ h=> .inl h,λ_ h=> .inl h⟩
theorem an {a b:Row} (h: ∀y t,a.getD y none=some t->b.getD y none=some t) {y:Nat} (hy:a.getD y none≠none):b.getD y none≠none:=by
 cases e:a.getD y none with
 |none=>exact absurd e hy
 |some t=>rw [h y t e];simp
theorem Ext.trans {n l:Nat} {gs:List PO} {row:Row} {q:List Int} {s1 s2:Row×List Int} (h:Ext n l gs row q s1) (k:Ext n l gs s1.1 s1.2 s2):Ext n l gs row q s2:=by
 refine ⟨k.ok,λy t e=>k.mono y t (h.mono y t e),k.ZL.trans h.ZL,λy hy=>k.oW y (h.oW y hy),λy hy=>?_,λy hy=>?_⟩
 ·rcases k.new y hy with h1|h1
  ·rcases h.new y h1 with h2|⟨yn,h2,h3⟩
   ·exact .inl h2
   ·exact .inr ⟨yn,h2,an k.mono h3⟩
  ·exact .inr h1
 ·rcases k.src y hy with h1|h1
  ·exact (h.src y h1).imp id λh2=>k.oW _ h2
  ·exact .inr h1
theorem EV {row:Row} {i:Nat} {t:List Int} (h:row.getD i none=none) (hi:i<row.length):Lp (row.set i (some t))+1=Lp row:=by
 unfold Lp
 have e:row[i]=none:=by
  rw [List.getD_eq_getElem?_getD,List.getElem?_eq_getElem hi] at h
  exact h
 have h1:=List.countP_set (p:= λo:PO=>o.isNone) (l:=row) (i:=i) (a:=some t) hi
 have nc:0<row.countP (·.isNone):=List.countP_pos_iff.2 ⟨row[i],List.getElem_mem hi,by rw [e];rfl⟩
 rw [h1,e]
 simp
 omega
theorem RP {n l:Nat} {gs:List PO} (bg:l<n) (hg:PG n l gs) {row:Row} {q:List Int} (h:Rv n l gs row) {x:Nat} {t:List Int} (hx:row.getD x none=some t) {g:List Int} (ho:some g∈gs):
  Ext n l gs row q (Th (x:Int) (row,q) (some g))/\(Th (x:Int) (row,q) (some g)).1.getD (ap g x) none≠none:=by
 obtain ⟨g',e,Py,VL⟩:=hg _ ho
 cases e
 obtain ⟨t1,t2,t3,t4⟩:=h.rt _ _ hx
 have CC:x<n:=by rw [<-h.rl];exact lP hx
 obtain ⟨a1,a2⟩:=Py.Rx CC
 unfold Th
 simp only [Option.getD_some,a1,Int.toNat_natCast]
 cases e:row.getD (ap g x) none with
 |some u=>exact ⟨Ext.refl h,by simp only;rw [e];simp⟩
 |none=>
  simp only [hx,Option.getD_some]
  have hl:ap g x<row.length:=by rw [h.rl];exact a2
  have hS:AQ n λg=>some g∈gs:=⟨⟨t1.n1,t1.n2⟩,λg Zj=>by obtain ⟨g',e,h1,_⟩:=hg _ Zj;cases e;exact h1⟩
  have Ae: ∀y,(row.set (ap g x) (some (Aa t g))).getD y none=if ap g x=y/\ap g x<row.length then some (Aa t g) else row.getD y none:= λy=>Oa _ _ _ _ _
  have Ex: ∀y u,row.getD y none=some u->ap g x≠y:= λy u hu e'=>by rw [<-e',e] at hu;cases hu
  refine ⟨⟨⟨by simp [h.rl],?_,λy u hu=>?_⟩,λy u hu=>?_,?_,λy hy=>List.mem_append_left _ hy,λy hy=>?_,λy hy=>?_⟩,?_⟩
  ·rw [Ae,if_neg (λhh=>Ex l _ h.r0 hh.1)];exact h.r0
  ·rw [Ae] at hu
   split at hu
   ·rename_i hc
    cases hu
    exact ⟨t1.comp Py,Fx.comp t1 Py t2 VL (by omega),by rw [Gb t1 Py bg,t3];exact hc.1, .mul t4 ho⟩
   ·exact h.rt y u hu
  ·show (row.set (ap g x) (some (Aa t g))).getD y none=some u
   rw [Ae,if_neg (λhh=>Ex y u hu hh.1)];exact hu
  ·have:=EV (t:=Aa t g) e hl
   simp only [List.length_append,List.length_cons,List.length_nil]
   omega
  ·rcases List.mem_append.1 hy with hy|hy
   ·exact .inl hy
   ·simp only [List.mem_singleton] at hy
    exact .inr ⟨ap g x,hy,by show (row.set (ap g x) (some (Aa t g))).getD (ap g x) none≠none;rw [Ae,if_pos ⟨rfl,hl⟩];simp⟩
  ·have hy:(row.set (ap g x) (some (Aa t g))).getD y none≠none:=hy
   rw [Ae] at hy
   split at hy
   ·rename_i hc
    exact .inr (by show (y:Int)∈q++ [(ap g x:Int)];rw [<-hc.1];simp)
   ·exact .inl hy
  ·show (row.set (ap g x) (some (Aa t g))).getD (ap g x) none≠none
   rw [Ae,if_pos ⟨rfl,hl⟩];simp
theorem MD {n l:Nat} {gs:List PO} (bg:l<n) (hg:PG n l gs): ∀(SU:List PO) {row:Row} {q:List Int},(∀o∈SU,o∈gs)->Rv n l gs row-> ∀ {x:Nat} {t:List Int},row.getD x none=some t->
  Ext n l gs row q (Sy (x:Int) SU (row,q))/\ ∀g,some g∈SU->(Sy (x:Int) SU (row,q)).1.getD (ap g x) none≠none
 | [],row,q,_,h,x,t,hx=>⟨Ext.refl h,λg hg=>by cases hg⟩
 |o::SU,row,q,hs,h,x,t,hx=>by
  obtain ⟨g,rfl,_,_⟩:=hg o (hs o (by simp))
  obtain ⟨e1,e2⟩:=RP (q:=q) bg hg h hx (hs (some g) (by simp))
  obtain ⟨f1,f2⟩:=MD bg hg SU (q:=(Th (x:Int) (row,q) (some g)).2) (λo ho=>hs o (by simp [ho])) e1.ok (e1.mono x t hx)
  have hb:Sy (x:Int) (some g::SU) (row,q)=Sy (x:Int) SU ((Th (x:Int) (row,q) (some g)).1,(Th (x:Int) (row,q) (some g)).2):=rfl
  rw [hb]
  refine ⟨e1.trans f1,λg' Zj=>?_⟩
  rcases List.mem_cons.1 Zj with e|Zj
  ·cases e;exact an f1.mono e2
  ·exact f2 g' Zj
def CZ (gs:List PO) (q:List Int) (row:Row):Prop:=
 (∀y∈q,∃yn:Nat,y=yn/\row.getD yn none≠none)/\ ∀y:Nat,row.getD y none≠none->(y:Int)∈q\/ ∀g,some g∈gs->row.getD (ap g y) none≠none
theorem zv {n l:Nat} {gs:List PO} (bg:l<n) (hg:PG n l gs) {x:Int} {q:List Int} {row:Row} (h:Rv n l gs row) (hq:CZ gs (x::q) row):
  Ext n l gs row q (Sy x gs (row,q))/\CZ gs (Sy x gs (row,q)).2 (Sy x gs (row,q)).1/\ ∃(xn:Nat) (t:List Int),x=xn/\row.getD xn none=some t:=by
 obtain ⟨xn,rfl,hx⟩:=hq.1 x (by simp)
 cases e:row.getD xn none with
 |none=>exact absurd e hx
 |some t=>
  obtain ⟨e1,e2⟩:=MD bg hg gs (q:=q) (λo ho=>ho) h e
  refine ⟨e1,⟨λy hy=>?_,λy hy=>?_⟩,xn,t,rfl,e⟩
  ·rcases e1.new y hy with h1|h1
   ·obtain ⟨yn,h2,h3⟩:=hq.1 y (by simp [h1])
    exact ⟨yn,h2,an e1.mono h3⟩
   ·exact h1
  ·rcases e1.src y hy with h1|h1
   ·rcases hq.2 y h1 with h2|h2
    ·rcases List.mem_cons.1 h2 with h2|h2
     ·have:y=xn:=by omega
      subst this
      exact .inr λg Zj=>e2 g Zj
     ·exact .inl (e1.oW _ h2)
    ·exact .inr λg Zj=>an e1.mono (h2 g Zj)
   ·exact .inl h1
theorem MI {n l:Nat} {gs:List PO} (bg:l<n) (hg:PG n l gs): ∀(f:Nat) (q:List Int) (row:Row),q.length+Lp row<=f->Rv n l gs row->CZ gs q row->
  Rv n l gs (Sr gs f q row)/\(∀y t,row.getD y none=some t->(Sr gs f q row).getD y none=some t)/\ ∀y t g,(Sr gs f q row).getD y none=some t->some g∈gs->(Sr gs f q row).getD (ap g y) none≠none
 |0,q,row,hf,h,hq=>by
  have:q= []:=List.eq_nil_of_length_eq_zero (by omega)
  subst this
  exact ⟨h,λ_ _ h=>h,λy t g e Zj=>by
   rcases hq.2 y (by rw [show row.getD y none=some t from e];simp) with h1|h1
   ·cases h1
   ·exact h1 g Zj⟩
 |f+1,[],row,hf,h,hq=>⟨h,λ_ _ h=>h,λy t g e Zj=>by
   rcases hq.2 y (by rw [show row.getD y none=some t from e];simp) with h1|h1
   ·cases h1
   ·exact h1 g Zj⟩
 |f+1,x::q,row,hf,h,hq=>by
  obtain ⟨e1,e2,_⟩:=zv bg hg h hq
  obtain ⟨r1,r2,r3⟩:=MI bg hg f _ _ (by have:=e1.ZL;simp only [List.length_cons] at hf;omega) e1.ok e2
  exact ⟨r1,λy t e=>r2 y t (e1.mono y t e),r3⟩
theorem Ni {row:Row} {y:Int} :y∈Hz row↔ ∃yn:Nat,y=yn/\row.getD yn none≠none:=by
 unfold Hz
 rw [List.mem_filter,Is]
 constructor
 ·rintro ⟨h1,h2⟩
  exact ⟨y.toNat,by omega,Option.ne_none_iff_isSome.2 h2⟩
 ·rintro ⟨yn,rfl,h⟩
  obtain ⟨t,ht⟩:=Option.ne_none_iff_exists'.1 h
  exact ⟨by have:=lP ht;omega,by simpa using Option.ne_none_iff_isSome.1 h⟩
theorem tj (row:Row):(Hz row).length<=row.length:=by
 unfold Hz
 refine Nat.le_trans (List.length_filter_le _ _) (by simp [upto])
theorem wN (row:Row):Lp row<=row.length:=List.countP_le_length
theorem wR {n l:Nat} {gs:List PO} (bg:l<n) (h2:n<=20) (hg:PG n l gs) {row:Row} (h:Rv n l gs row):
  Rv n l gs (Rp gs row)/\(∀y t,row.getD y none=some t->(Rp gs row).getD y none=some t)/\ ∀y t g,(Rp gs row).getD y none=some t->some g∈gs->(Rp gs row).getD (ap g y) none≠none:=
 MI bg hg 100 _ _ (by have:=tj row;have:=wN row;have:=h.rl;omega) h ⟨λy hy=>Ni.1 hy,λy hy=> .inl (Ni.2 ⟨y,rfl,hy⟩)⟩
theorem vf {n l:Nat} {gs:List PO} (bg:l<n) (hg:PG n l gs): ∀(f:Nat) (q:List Int) (row:Row),q.length+Lp row<=f->Rv n l gs row->CZ gs q row->Sr gs f q row=Sr gs (q.length+Lp row) q row
 |0,q,row,hf,_,_=>by
  have:q.length+Lp row=0:=by omega
  rw [this]
 |f+1,[],row,hf,_,_=>by
  cases h:([]:List Int).length+Lp row with
  |zero=>rfl
  |succ m=>rfl
 |f+1,x::q,row,hf,h,hq=>by
  obtain ⟨e1,e2,_⟩:=zv bg hg h hq
  have QC:=e1.ZL
  have:(x::q).length+Lp row=(q.length+Lp row)+1:=by simp only [List.length_cons];omega
  rw [this]
  simp only [Sr]
  rw [vf bg hg f _ _ (by simp only [List.length_cons] at hf;omega) e1.ok e2,QC]
def vr (row:Row):Nat:=row.countP (·.isSome)
theorem qv: ∀(a b:Row),a.length=b.length->(∀y t,a.getD y none=some t->b.getD y none=some t)->vr a<=vr b/\(vr a=vr b->a=b)
 | [],[],_,_=>⟨Nat.le_refl _,λ_=>rfl⟩
 | [],_::_,h,_=>by simp at h
 |_::_,[],h,_=>by simp at h
 |x::a,y::b,h,hm=>by
  obtain ⟨h1,h2⟩:=qv a b (by simpa using h) λi t e=>by simpa using hm (i+1) t (by simpa using e)
  unfold vr at h1 h2⊢
  cases x with
  |none=>
   cases y with
   |none=>simp only [List.countP_cons];exact ⟨by simpa using h1,λe=>by rw [h2 (by simpa using e)]⟩
   |some u=>
    simp only [List.countP_cons,Option.isSome_none,Option.isSome_some]
    simp only [if_true,Bool.false_eq_true,if_false]
    exact ⟨by omega,λe=>by omega⟩
  |some t=>
   have:=hm 0 t (by simp)
   simp only [List.getD_cons_zero] at this
   subst this
   simp only [List.countP_cons]
   exact ⟨by simpa using h1,λe=>by rw [h2 (by simpa using e)]⟩
def fZ (T:Da):Nat->Nat->Nat
 |0,_=>0
 |k+1,l=>vr (T.getD l [])+fZ T k (l+1)
def ZQ:Nat->Nat->Da×Da->Prop
 |0,_,_=>True
 |k+1,l,s=>ZQ k (l+1) s/\(s.1.getD l []).length<=fZ s.2 (k+1) l
structure Xc (l0:Nat) (s s':Da×Da):Prop where
 Ac1:s'.1.length=s.1.length
 nm:s'.2.length=s.2.length
 low: ∀i,i<l0->s'.1.getD i []=s.1.getD i []/\s'.2.getD i []=s.2.getD i []
 BK: ∀i o,o∈s.1.getD i []->o∈s'.1.getD i []
 NC: ∀i y t,(s.2.getD i []).getD y none=some t->(s'.2.getD i []).getD y none=some t
 XT: ∀i,(s'.2.getD i []).length=(s.2.getD i []).length
theorem Xc.refl (l0:Nat) (s:Da×Da):Xc l0 s s:=⟨rfl,rfl,λ_ _=>⟨rfl,rfl⟩,λ_ _ h=>h,λ_ _ _ h=>h,λ_=>rfl⟩
theorem Xc.trans {l0 l1:Nat} {a b c:Da×Da} (h:Xc l0 a b) (k:Xc l1 b c) (hl:l0<=l1):Xc l0 a c:=
 ⟨k.Ac1.trans h.Ac1,k.nm.trans h.nm,λi hi=>⟨(k.low i (by omega)).1.trans (h.low i hi).1,(k.low i (by omega)).2.trans (h.low i hi).2⟩,λi o ho=>k.BK i o (h.BK i o ho),λi y t e=>k.NC i y t (h.NC i y t e),λi=>(k.XT i).trans (h.XT i)⟩
theorem Xc.Fb {l0 l1:Nat} {a b:Da×Da} (h:Xc l1 a b) (hl:l0<=l1):Xc l0 a b:=(Xc.refl l0 a).trans h hl
theorem cy {T T':Da} : ∀(k l:Nat) (p:List Int),(∀i,l<=i->i<l+k->T'.getD i []=T.getD i [])->Jh T' k l p=Jh T k l p
 |0,_,_,_=>rfl
 |k+1,l,p,h=>by
  simp only [Jh]
  rw [h l (Nat.le_refl _) (by omega)]
  split
  ·rfl
  ·exact cy k (l+1) _ λi h1 h2=>h i (by omega) (by omega)
theorem fC {n:Nat} {s s':Da×Da} : ∀(k l:Nat),(∀i,l<=i->s'.1.getD i []=s.1.getD i []/\s'.2.getD i []=s.2.getD i [])->fj n k l s->fj n k l s'
 |0,l,h,hc=>by simp only [fj] at hc⊢;rw [(h l (Nat.le_refl _)).1];exact hc
 |k+1,l,h,hc=>by
  simp only [fj] at hc⊢
  obtain ⟨c1,c2,c3⟩:=hc
  refine ⟨fC k (l+1) (λi hi=>h i (by omega)) c1,?_,?_⟩
  ·rw [(h l (Nat.le_refl _)).1,(h l (Nat.le_refl _)).2]
   have e:(λq=>Jh s'.2 k (l+1) q=true)= λq=>Jh s.2 k (l+1) q=true:=funext λq=>by rw [cy k (l+1) q λi h1 h2=>(h i (by omega)).2]
   rw [e];exact c2
  ·rw [(h (l+1) (by omega)).1,(h l (Nat.le_refl _)).1];exact c3
theorem ri {T T':Da} : ∀(k l:Nat),(∀i,l<=i->T'.getD i []=T.getD i [])->fZ T' k l=fZ T k l
 |0,_,_=>rfl
 |k+1,l,h=>by simp only [fZ];rw [h l (Nat.le_refl _),ri k (l+1) λi hi=>h i (by omega)]
theorem mM {s s':Da×Da} : ∀(k l:Nat),(∀i,l<=i->s'.1.getD i []=s.1.getD i []/\s'.2.getD i []=s.2.getD i [])->ZQ k l s->ZQ k l s'
 |0,_,_,_=>trivial
 |k+1,l,h,hg=>⟨mM k (l+1) (λi hi=>h i (by omega)) hg.1,by
  rw [(h l (Nat.le_refl _)).1,ri (k+1) l λi hi=>(h i hi).2];exact hg.2⟩
theorem x6 {T T':Da} (hl: ∀i,(T'.getD i []).length=(T.getD i []).length) (hm: ∀i y t,(T.getD i []).getD y none=some t->(T'.getD i []).getD y none=some t):
  ∀(k l:Nat),fZ T k l<=fZ T' k l/\(fZ T k l=fZ T' k l-> ∀i,l<=i->i<l+k->T'.getD i []=T.getD i [])
 |0,l=>⟨Nat.le_refl _,λ_ i h1 h2=>by omega⟩
 |k+1,l=>by
  obtain ⟨h1,h2⟩:=x6 hl hm k (l+1)
  obtain ⟨h3,h4⟩:=qv (T.getD l []) (T'.getD l []) (hl l).symm (hm l)
  simp only [fZ]
  refine ⟨by omega,λe i g1 g2=>?_⟩
  by_cases hi:i=l
  ·subst hi;exact (h4 (by omega)).symm
  ·exact h2 (by omega) i (by omega) (by omega)
def V (n k l:Nat) (s:Da×Da):Prop:=s.1.length=n/\s.2.length=n/\fj n k l s/\ZQ k l s
structure ZP (n k l:Nat) (s:Da×Da) (p:List Int) (s':Da×Da):Prop where
 v:V n k l s'
 grow:Xc l s s'
 Aby:Gn n (s'.1.getD l []) p
 gens: ∀o∈s'.1.getD l [],o∈s.1.getD l []\/o=some p
theorem ON.row {n l:Nat} {gs:List PO} {row:Row} {H:List Int->Prop} (h:ON n l gs row H):Rv n l gs row:=⟨h.rl,h.r0,h.rt⟩
theorem dh {row:Row} {y:Nat} {t g t':List Int} (h1:row.getD y none=some t) (h2:row.getD (ap g y) none=some t'):Nd row (y:Int) (some g)=Aa (Aa t g) (An t'):=by
 unfold Nd
 rw [Int.toNat_natCast,h1,Option.getD_some,Option.getD_some,show (Cb g (y:Int)).toNat=ap g y from rfl,h2,Option.getD_some]
theorem jG {n l:Nat} {gs:List PO} {row:Row} (hg:PG n l gs) (_h:Rv n l gs row) (hc: ∀y t g,row.getD y none=some t->some g∈gs->row.getD (ap g y) none≠none) {q:List Int} :
  q∈bo row gs↔ ∃(y:Nat) (t g t':List Int),row.getD y none=some t/\some g∈gs/\row.getD (ap g y) none=some t'/\q=Aa (Aa t g) (An t'):=by
 unfold bo
 rw [List.mem_flatMap]
 constructor
 ·rintro ⟨y,hy,hq⟩
  obtain ⟨o,ho,rfl⟩:=List.mem_map.1 hq
  obtain ⟨yn,rfl,TY⟩:=Ni.1 hy
  obtain ⟨t,ht⟩:=Option.ne_none_iff_exists'.1 TY
  obtain ⟨g,rfl,Py,_⟩:=hg o ho
  obtain ⟨t',lV⟩:=Option.ne_none_iff_exists'.1 (hc yn t g ht ho)
  exact ⟨yn,t,g,t',ht,ho,lV,dh ht lV⟩
 ·rintro ⟨y,t,g,t',h1,h2,h3,rfl⟩
  obtain ⟨g',e,Py,_⟩:=hg _ h2
  cases e
  exact ⟨(y:Int),Ni.2 ⟨y,rfl,by rw [h1];simp⟩,List.mem_map.2 ⟨some g,h2,dh h1 h3⟩⟩
theorem s6 {n:Nat} (h1:1<=n) (h2:n<=20): ∀(k l:Nat) (p:List Int) (s:Da×Da),l+k=n->V n k l s->Pm n p->Fx l p->ZP n k l s p (Dv k l p s)
 |0,l,p,s,hk,hv,hp,hf=>by
  have hl:l=n:=by omega
  subst hl
  exact ⟨hv,Xc.refl _ _,by rw [hf.all hp];exact .id,λo ho=> .inl ho⟩
 |k+1,l,p,s,hk,hv,hp,hf=>by
  have bg:l<n:=by omega
  obtain ⟨v1,v2,hc,HY⟩:=hv
  have fK:=hc
  obtain ⟨c1,c2,c3⟩:=hc
  unfold Dv
  by_cases hh:Jh s.2 (k+1) l p=true
  ·rw [if_pos hh]
   exact ⟨⟨v1,v2,fK,HY⟩,Xc.refl _ _,(hZ h1 h2 (k+1) l s hk fK p hp hf).1 hh,λo ho=> .inl ho⟩
  rw [if_neg hh]
  generalize BR:s.1.getD l []++ [some p]=gs
  have Yp:some p∈gs:=by rw [<-BR];simp
  have Qm: ∀o∈s.1.getD l [],o∈gs:= λo ho=>by rw [<-BR];exact List.mem_append_left _ ho
  have hg:PG n l gs:= λo ho=>by
   rw [<-BR] at ho
   rcases List.mem_append.1 ho with ho|ho
   ·exact c2.pg o ho
   ·rw [List.mem_singleton] at ho;exact ⟨p,ho,hp,hf⟩
  have Abc:Rv n l gs (s.2.getD l []):=⟨c2.rl,c2.r0,λy t e=>⟨(c2.rt y t e).1,(c2.rt y t e).2.1,(c2.rt y t e).2.2.1,(c2.rt y t e).2.2.2.mono λg hg=>Qm _ hg⟩⟩
  obtain ⟨r1,r2,r3⟩:=wR bg h2 hg Abc
  generalize hR:Rp gs (s.2.getD l [])=R at r1 r2 r3
  have hS:AQ n λg=>some g∈gs:=⟨⟨h1,h2⟩,λg Zj=>by obtain ⟨g',e,h,_⟩:=hg _ Zj;cases e;exact h⟩
  have RJ: ∀i,((s.1.set l gs).getD i []=if i=l then gs else s.1.getD i [])/\(s.2.set l R).getD i []=if i=l then R else s.2.getD i []:= λi=>by
   rw [Oa,Oa]
   by_cases e:l=i
   ·subst e;rw [if_pos ⟨rfl,by omega⟩,if_pos rfl,if_pos ⟨rfl,by omega⟩,if_pos rfl];exact ⟨rfl,rfl⟩
   ·rw [if_neg (λhh=>e hh.1),if_neg (Ne.symm e),if_neg (λhh=>e hh.1),if_neg (Ne.symm e)];exact ⟨rfl,rfl⟩
  have TX: ∀i,l+1<=i->(s.1.set l gs).getD i []=s.1.getD i []/\(s.2.set l R).getD i []=s.2.getD i []:= λi hi=>by
   rw [(RJ i).1,(RJ i).2,if_neg (by omega),if_neg (by omega)];exact ⟨rfl,rfl⟩
  have eJ:V n k (l+1) (s.1.set l gs,s.2.set l R):=⟨by simpa using v1,by simpa using v2,fC k (l+1) TX c1,mM k (l+1) TX HY.1⟩
  have VN:Xc l s (s.1.set l gs,s.2.set l R):=by
   refine ⟨by simp,by simp,λi hi=>?_,λi o ho=>?_,λi y t e=>?_,λi=>?_⟩
   ·rw [(RJ i).1,(RJ i).2,if_neg (by omega),if_neg (by omega)];exact ⟨rfl,rfl⟩
   ·rw [(RJ i).1]
    split
    ·rename_i hi;subst hi;exact Qm o ho
    ·exact ho
   ·rw [(RJ i).2]
    split
    ·rename_i hi;subst hi;exact r2 y t e
    ·exact e
   ·rw [(RJ i).2]
    split
    ·rename_i hi;subst hi;rw [r1.rl,c2.rl]
    ·rfl
  have hq: ∀q∈bo R gs,Pm n q/\Fx (l+1) q/\Gn n gs q:= λq hq=>by
   obtain ⟨y,t,g,t',e1,e2,e3,rfl⟩:=(jG hg r1 r3).1 hq
   obtain ⟨t1,t2,t3,t4⟩:=r1.rt _ _ e1
   obtain ⟨u1,u2,u3,u4⟩:=r1.rt _ _ e3
   obtain ⟨g',e,Py,VL⟩:=hg _ e2
   cases e
   exact ⟨(t1.comp Py).comp u1.inv,Fx.div (t1.comp Py) u1 (Fx.comp t1 Py t2 VL (by omega)) u2 bg (by rw [u3,Gb t1 Py bg,t3]),Xv.comp hS (.mul t4 e2) (Xv.sN hS u4)⟩
  have fold: ∀(qs:List (List Int)) (s1:Da×Da),(∀q∈qs,Pm n q/\Fx (l+1) q)->V n k (l+1) s1->
    V n k (l+1) (qs.foldl (λs q=>Dv k (l+1) q s) s1)/\Xc (l+1) s1 (qs.foldl (λs q=>Dv k (l+1) q s) s1)/\
     (∀q∈qs,Gn n ((qs.foldl (λs q=>Dv k (l+1) q s) s1).1.getD (l+1) []) q)/\ ∀o∈(qs.foldl (λs q=>Dv k (l+1) q s) s1).1.getD (l+1) [],o∈s1.1.getD (l+1) []\/ ∃q∈qs,o=some q:=by
   intro qs
   induction qs with
   |nil=>exact λs1 _ hv=>⟨hv,Xc.refl _ _,(λq hq=>by cases hq),λo ho=>Or.inl ho⟩
   |cons q qs ih=>
    intro s1 QE hv
    have ha:=s6 h1 h2 k (l+1) q s1 (by omega) hv (QE q (by simp)).1 (QE q (by simp)).2
    obtain ⟨g1,g2,g3,g4⟩:=ih (Dv k (l+1) q s1) (λq' dP=>QE q' (by simp [dP])) ha.v
    simp only [List.foldl_cons]
    refine ⟨g1,ha.grow.trans g2 (Nat.le_refl _),λq' dP=>?_,λo ho=>?_⟩
    ·rcases List.mem_cons.1 dP with rfl|dP
     ·exact ha.Aby.mono λg hg=>g2.BK _ _ hg
     ·exact g3 q' dP
    ·rcases g4 o ho with h|⟨q',dP,h⟩
     ·rcases ha.gens o h with h|h
      ·exact .inl h
      ·exact .inr ⟨q,by simp,h⟩
     ·exact .inr ⟨q',by simp [dP],h⟩
  obtain ⟨f1,f2,f3,f4⟩:=fold (bo R gs) (s.1.set l gs,s.2.set l R) (λq h=>⟨(hq q h).1,(hq q h).2.1⟩) eJ
  generalize (bo R gs).foldl (λs q=>Dv k (l+1) q s) (s.1.set l gs,s.2.set l R)=s' at f1 f2 f3 f4
  obtain ⟨w1,w2,w3,w4⟩:=f1
  have ZT:s'.1.getD l []=gs:=by rw [(f2.low l (by omega)).1,(RJ l).1,if_pos rfl]
  have el2:s'.2.getD l []=R:=by rw [(f2.low l (by omega)).2,(RJ l).2,if_pos rfl]
  have JQ:=VN.trans f2 (by omega)
  have Agn:ON n l gs R (λq=>Jh s'.2 k (l+1) q=true):=⟨hg,r1.rl,r1.r0,r1.rt,r3,λy t g t' e1 e2 e3=>by
   have hm:=(jG hg r1 r3).2 ⟨y,t,g,t',e1,e2,e3,rfl⟩
   exact (hZ h1 h2 k (l+1) s' (by omega) w3 _ (hq _ hm).1 (hq _ hm).2.1).2 (f3 _ hm)⟩
  have TE:fj n (k+1) l s':=⟨w3,by rw [ZT,el2];exact Agn,λg Zj=>by
   rw [ZT]
   rcases f4 _ Zj with h|⟨q,dP,h⟩
   ·rw [(TX (l+1) (Nat.le_refl _)).1] at h
    exact (c3 g h).mono λg hg=>Qm _ hg
   ·cases h;exact (hq _ dP).2.2⟩
  have Nq:Gn n (s'.1.getD l []) p:=by rw [ZT];exact Xv.one hS Yp
  refine ⟨⟨w1,w2,TE,w4,?_⟩,JQ,Nq,λo ho=>?_⟩
  ·have hold:=HY.2
   obtain ⟨p1,p2⟩:=x6 JQ.XT JQ.NC (k+1) l
   have Ex:fZ s.2 (k+1) l≠fZ s'.2 (k+1) l:= λe=>by
    have:=cy (k+1) l p (p2 e)
    rw [(hZ h1 h2 (k+1) l s' hk TE p hp hf).2 Nq] at this
    exact hh this.symm
   rw [ZT,<-BR,List.length_append,List.length_singleton]
   omega
  ·rw [ZT,<-BR] at ho
   rcases List.mem_append.1 ho with ho|ho
   ·exact .inl ho
   ·rw [List.mem_singleton] at ho;exact .inr ho
end Go.Proofs.Ytjbdmibbbpdnnaa

namespace Go.Proofs.Ytjbdmibbbpdnnaa
open Go.RowKit
theorem LY {n l:Nat} {gs:List PO} {R:Row} (bg:l<n) (hg:PG n l gs) (r1:Rv n l gs R) (r3: ∀y t g,R.getD y none=some t->some g∈gs->R.getD (ap g y) none≠none): ∀q∈bo R gs,Pm n q/\Fx (l+1) q:=by
 intro q hq
 obtain ⟨y,t,g,t',e1,e2,e3,rfl⟩:=(jG hg r1 r3).1 hq
 obtain ⟨t1,t2,t3,t4⟩:=r1.rt _ _ e1
 obtain ⟨u1,u2,u3,u4⟩:=r1.rt _ _ e3
 obtain ⟨g',e,Py,VL⟩:=hg _ e2
 cases e
 exact ⟨(t1.comp Py).comp u1.inv,Fx.div (t1.comp Py) u1 (Fx.comp t1 Py t2 VL (by omega)) u2 bg (by rw [u3,Gb t1 Py bg,t3])⟩
theorem V.lower {n k l:Nat} {s:Da×Da} (h:V n (k+1) l s) (gs:List PO) (R:Row):V n k (l+1) (s.1.set l gs,s.2.set l R):=by
 obtain ⟨v1,v2,hc,HY⟩:=h
 have TX: ∀i,l+1<=i->(s.1.set l gs).getD i []=s.1.getD i []/\(s.2.set l R).getD i []=s.2.getD i []:= λi hi=>by
  rw [Oa,Oa,if_neg (by omega),if_neg (by omega)];exact ⟨rfl,rfl⟩
 exact ⟨by simpa using v1,by simpa using v2,fC k (l+1) TX hc.1,mM k (l+1) TX HY.1⟩
theorem BG {n k l:Nat} (h1:1<=n) (h2:n<=20) (hk:l+k=n): ∀(qs:List (List Int)) (s1:Da×Da),(∀q∈qs,Pm n q/\Fx l q)->V n k l s1->
  V n k l (qs.foldl (λs q=>Dv k l q s) s1)/\Xc l s1 (qs.foldl (λs q=>Dv k l q s) s1)
 | [],s1,_,hv=>⟨hv,Xc.refl _ _⟩
 |q::qs,s1,QE,hv=>by
  have ha:=s6 h1 h2 k l q s1 hk hv (QE q (by simp)).1 (QE q (by simp)).2
  obtain ⟨g1,g2⟩:=BG h1 h2 hk qs (Dv k l q s1) (λq' dP=>QE q' (by simp [dP])) ha.v
  exact ⟨g1,ha.grow.trans g2 (Nat.le_refl _)⟩
theorem MB {n:Nat} {s:Da×Da} : ∀(k l:Nat),fj n k l s->fZ s.2 k l<=n*k
 |0,_,_=>by simp [fZ]
 |k+1,l,hc=>by
  have h1:=MB k (l+1) hc.1
  have h2:vr (s.2.getD l [])<=n:=by
   have:=hc.2.1.rl
   have h3:vr (s.2.getD l [])<=(s.2.getD l []).length:=List.countP_le_length
   omega
  simp only [fZ]
  rw [Nat.mul_succ]
  omega
theorem PD {n k l:Nat} {s:Da×Da} (h2:n<=20) (hk:l+(k+1)=n) (h:V n (k+1) l s):(s.1.getD l []).length<=400:=by
 have h3:=h.2.2.2.2
 have h4:=MB (k+1) l h.2.2.1
 have h5:n*(k+1)<=20*20:=Nat.mul_le_mul h2 (by omega)
 omega
theorem V.lvl {n k l:Nat} {s:Da×Da} (h:V n (k+1) l s):ON n l (s.1.getD l []) (s.2.getD l []) (λq=>Jh s.2 k (l+1) q=true):=h.2.2.1.2.1
theorem V.pg {n k l:Nat} {s:Da×Da} (h:V n (k+1) l s) {p:List Int} (hp:Pm n p) (hf:Fx l p):PG n l (s.1.getD l []++ [some p]):= λo ho=>by
 rcases List.mem_append.1 ho with ho|ho
 ·exact h.lvl.pg o ho
 ·rw [List.mem_singleton] at ho;exact ⟨p,ho,hp,hf⟩
theorem V.Ahu {n k l:Nat} {s:Da×Da} (h:V n (k+1) l s) (p:List Int):Rv n l (s.1.getD l []++ [some p]) (s.2.getD l []):=
 ⟨h.lvl.rl,h.lvl.r0,λy t e=>⟨(h.lvl.rt y t e).1,(h.lvl.rt y t e).2.1,(h.lvl.rt y t e).2.2.1,(h.lvl.rt y t e).2.2.2.mono λ_ hg=>List.mem_append_left _ hg⟩⟩
theorem pN {α:Type} (xs:List (List α)) (i:Nat) (h:i<xs.length):xs.set i (xs.getD i [])=xs:=by
 refine List.ext_getElem (by simp) λj h1 h2=>?_
 rw [List.getElem_set]
 split
 ·rename_i e;subst e;rw [List.getD_eq_getElem?_getD,List.getElem?_eq_getElem h];rfl
 ·rfl
theorem eC {α:Type} (xs:List (List α)) (i:Nat) (h:i<xs.length) (r:List α):(xs.set i r).getD i []=r:=by
 rw [Oa,if_pos ⟨rfl,h⟩]
end Go.Proofs.Ytjbdmibbbpdnnaa

namespace Go.Proofs.Ytjbdmibbbpdnnaa
open Go.RowKit
noncomputable abbrev Ku:MSpec:=xT [none] [(false, .Gt ZM)] false [none] [.row tI 2] (λx=>List.length x.1<=20) (λx=>((Hz x.1,()),()))
noncomputable abbrev Qu:Spec:=Cu (.pair tL (.pair tL .unit)) tO false true (λx=>(0<x.1.length/\x.1.length<=20)/\Hb x.2.1.length x.1) (λx=>some (Aa x.1 x.2.1))
noncomputable abbrev aJ:Spec:=Cu (.pair tL (.pair tL .unit)) tL false false (λx=>x.1.length<=20/\Hb x.2.1.length x.1) (λx=>Aa x.1 x.2.1)
noncomputable abbrev Oh:Spec:=Cu (.pair tI .unit) tL false true (λx=>0<=x.1/\x.1<=20) (λx=>upto x.1.toNat)
noncomputable abbrev Wr:Spec:=Cu (.pair tI .unit) tO false true (λx=>1<=x.1/\x.1<=20) (λx=>some (upto x.1.toNat))
abbrev UI:TypeId:=22
structure m6 (N L:Nat) (n:Int) (G T:Da) (l:Int) (p:List Int):Prop where
 n1:1<=N
 n2:N<=20
 en:n=N
 el:l=L
 le:L<=N
 v:V N (N-L) L (G,T)
 pm:Pm N p
 fx:Fx L p
noncomputable abbrev rD:Spec:=Cu (.pair (.ptr uj) (.pair tI (.pair tL .unit))) .bool false true (λx=> ∃N L,m6 N L x.1.1 x.1.2.1 x.1.2.2.1 x.2.1 x.2.2.1) (λx=>Jh x.1.2.2.1 (x.1.1-x.2.1).toNat x.2.1.toNat x.2.2.1)
noncomputable abbrev UC:MSpec:= {ptr:=some (179,3),Hf:= [none,none],ins:= [(false, .Gt tI),(false, .Ak tO UI true),(false, .Ak tO UI true),(false, .Gt tI),(false, .Gt tO)],Gg:=false,Gj:= [],outs:= [.Gt tI, .Ak tO UI false, .Ak tO UI false],fn:= λ_=>none,keeps:= [(1,1),(2,2)],Cr:= λx=>x.2.2.2.1.toNat}
noncomputable abbrev Pl (m:Nat):MSpec:=xS UC (λx=>(∃N L q,x.2.2.2.2.1=some q/\m6 N L x.1 x.2.1 x.2.2.1 x.2.2.2.1 q)/\(x.1-x.2.2.2.1).toNat<m)
 (λx=>((x.1,(Dv (x.1-x.2.2.2.1).toNat x.2.2.2.1.toNat (x.2.2.2.2.1.getD []) (x.2.1,x.2.2.1)).1,(Dv (x.1-x.2.2.2.1).toNat x.2.2.2.1.toNat (x.2.2.2.2.1.getD []) (x.2.1,x.2.2.1)).2,()),()))
theorem xE (n:Int) (P:List Int->Prop):(((0:Int)<=n/\n<(↑Bp:Int)+(1:Int))/\n=n/\0=0/\(List.replicate n.toNat (Int.ofNat (nat_lit 0))).length=(List.replicate n.toNat (Int.ofNat (nat_lit 0))).length/\Bn (λ(v2:Int×List Int×PUnit) (k3:Int×List Int×PUnit->Prop)=>Br (decide (v2.1<(↑(List.replicate n.toNat (Int.ofNat (nat_lit 0))).length:Int))) (((0:Int)<=v2.1/\v2.1<(↑v2.2.1.length:Int))/\0+v2.1.toNat<v2.2.1.length/\0=0/\v2.2.1.length=(v2.2.1.set (0+v2.1.toNat) v2.1).length/\k3 (IntKind.i64.wrap (v2.1+(1:Int)),v2.2.1.set (0+v2.1.toNat) v2.1,())) (P (List.take v2.2.1.length (List.drop 0 v2.2.1)))) ((0:Int),List.replicate n.toNat (Int.ofNat (nat_lit 0)),PUnit.unit))=fnW Co (look []) Oh Try.f127 (n,()) P:=by kernel_rfl
theorem HM (row:List (Option (List Int))) (P:(List Int×Unit)×Unit->Prop):(0=0/\0=([]:List Int).length/\Bn (λ(v2:Int×List Int×PUnit) (k3:Int×List Int×PUnit->Prop)=>Br (decide (v2.1<(↑row.length:Int))) (∃(y4:Option (List Int)),idx row v2.1=some y4/\Br (!y4.isNone) (0=0/\v2.2.1.length=v2.2.1.length/\v2.2.1.length+(List.take 1 (List.drop 0 [v2.1])).length<=Bp/\0=0/\(v2.2.1++List.take 1 (List.drop 0 [v2.1])).length=(v2.2.1++List.take 1 (List.drop 0 [v2.1])).length/\k3 (IntKind.i64.wrap (v2.1+(1:Int)),v2.2.1++List.take 1 (List.drop 0 [v2.1]),())) (0=0/\v2.2.1.length=v2.2.1.length/\k3 (IntKind.i64.wrap (v2.1+(1:Int)),v2.2.1,()))) (P ((List.take v2.2.1.length (List.drop 0 v2.2.1),()),()))) ((0:Int),[],PUnit.unit))=fnMW Ts (look []) Ku Try.f174 (row,()) P:=by kernel_rfl
theorem Ad4 (c:Int×List (List (Option (List Int)))×List (List (Option (List Int)))×Unit) (l:Int) (p:List Int) (P:Bool->Prop):(Bn (λ(v4:List Int×Int×PUnit) (k5:List Int×Int×PUnit->Prop)=>Br (decide (v4.2.1<c.1)) (∃(y6:List (Option (List Int))),idx c.2.2.1 v4.2.1=some y6/\ ∃(y7:Int),idx v4.1 v4.2.1=some y7/\ ∃(y8:Option (List Int)),idx y6 y7=some y8/\Br y8.isNone (P false) (∃(y9:List Int),Eo.fn (y8.getD [],())=some y9/\ ∃(j4:List Int),aJ.fn (v4.1,y9,())=some j4/\k5 (j4,IntKind.i64.wrap (v4.2.1+(1:Int)),()))) (P true)) (p,l,PUnit.unit))=fnW Ts (look [(175,Eo),(156,aJ)]) rD Try.f183 (c,l,p,()) P:=by kernel_rfl
theorem Sound.loose {P:Program} {f:FuncId} {arg res:Ty} {pre:arg.den->Prop} {val:arg.den->res.den} (h:Sound P f (Go.Proofs.Ytjbdmibbbpdnnaa.Cu arg res false true pre val)):Sound P f (Go.Proofs.Ytjbdmibbbpdnnaa.Cu arg res false false pre val):=
 ⟨h.enter,λw S vs x y h1 h2 h3=>Calls.mono (h.calls w S vs x y h1 h2 h3) λe' w' hr=>by
  obtain ⟨v,g1,g2,g3⟩:=hr
  exact ⟨v,g1,g2,Bd.Fb (S:= λb=>S b\/(true=true/\b<w.heap.size)) g3 λk _ hk=>hk.elim .inl λhh=>absurd (show false=true from hh.1) (by simp)⟩⟩
theorem o5:Sound Try.prog 156 aJ:=Sound.loose Po
theorem o6:Sound Try.prog 156 Qu:=Sound.toO Po λx h=>⟨⟨h.1.2,h.2⟩,λe=>by
 have:=Nx x.1 x.2.1
 rw [e] at this
 have:=h.1.1
 simp only [List.length_nil] at*
 omega⟩
theorem wU (n:Int) (h:0<=n/\n<=20):fnW Co (look []) Oh Try.f127 (n,()) (λ(z:List Int)=>z=upto n.toNat):=by
 refine Eq.mp (xE n _) ⟨⟨by omega,by show n<(4294967296:Int)+1;omega⟩,rfl,rfl,rfl,?_⟩
 refine Am n.toNat (λv=>v.1) (λj v=>v.2.1.length=n.toNat/\v.2.1.take j=upto j) rfl ⟨by simp,by simp [upto]⟩ ?_
 rintro j ⟨i,ys,⟨⟩⟩ K hj hi ⟨h1,h2⟩ hK
 dsimp only at hi h1 h2⊢
 subst hi
 rw [List.length_replicate]
 simp only [Int.toNat_natCast,Nat.zero_add]
 refine Br.dec (λhl=>⟨⟨by omega,by omega⟩,by omega,trivial,by rw [List.length_set],?_⟩) λhl=>?_
 ·rw [Al (by omega)]
  refine hK (by omega) _ rfl ⟨by rw [List.length_set];exact h1,?_⟩
  rw [List.take_add_one,List.take_set_of_le (by omega),h2,List.getElem?_set_self (by omega),Zg]
  rfl
 ·have:j=ys.length:=by omega
  subst this
  rw [List.take_length] at h2
  rw [List.drop_zero,List.take_length,h2,h1]
theorem bu:Sound Try.prog 127 Oh:=
 Sound.Cu Bj Aq mixed Try.func127 (by kernel_rfl) (by kernel_rfl) λx h=>wU x.1 h
theorem RW {n:Int} (h:1<=n/\n<=20):(0<=n/\n<=20)/\upto n.toNat≠ []:=⟨by omega,λe=>by
 have:=congrArg List.length e
 simp [upto] at this
 omega⟩
theorem lF:Sound Try.prog 127 Wr:=Sound.toO bu λ_ h=>RW h
theorem wQ {row:Row} {j:Nat} :(upto (j+1)).filter (λy=>(row.getD y.toNat none).isSome)=(upto j).filter (λy=>(row.getD y.toNat none).isSome)++if (row.getD j none).isSome=true then [(j:Int)] else []:=by
 rw [Zg,List.filter_append]
 congr 1
 simp only [List.filter_cons,List.filter_nil,Int.toNat_natCast]
theorem FL (row:List (Option (List Int))) (h:List.length row<=20):fnMW Ts (look []) Ku Try.f174 (row,()) (λ(z:(List Int×Unit)×Unit)=>z=((Hz row,()),())):=by
 refine Eq.mp (HM row _) ⟨rfl,rfl,?_⟩
 refine Am row.length (λv=>v.1) (λj v=>v.2.1=(upto j).filter (λy=>(row.getD y.toNat none).isSome)) rfl rfl ?_
 rintro j ⟨i,ys,⟨⟩⟩ K hj hi h1 hK
 dsimp only at hi h1⊢
 subst hi
 refine Br.dec (λhl=>?_) λhl=>?_
 ·have hl:j<row.length:=by omega
  have hlen:ys.length<=j:=by rw [h1];refine Nat.le_trans (List.length_filter_le _ _) (by simp [upto])
  have hg:row.getD j none=row[j]:=by rw [List.getD_eq_getElem?_getD,List.getElem?_eq_getElem hl];rfl
  refine ⟨_,Ap hl,Br.of (λhb=>⟨rfl,rfl,?_,rfl,rfl,?_⟩) λhb=>⟨rfl,rfl,?_⟩⟩
  ·show ys.length+1<=4294967296
   omega
  ·rw [Al (by omega)]
   refine hK hl _ rfl ?_
   show ys++ [(j:Int)]=_
   rw [wQ,hg,h1,if_pos (by cases e:row[j] with
    |none=>rw [e] at hb;simp at hb
    |some t=>rfl)]
  ·rw [Al (by omega)]
   refine hK hl _ rfl ?_
   show ys=_
   rw [wQ,hg,h1,if_neg (by cases e:row[j] with
    |none=>simp
    |some t=>rw [e] at hb;simp at hb),List.append_nil]
 ·have:j=row.length:=by omega
  subst this
  rw [List.drop_zero,List.take_length,h1]
  rfl
theorem eS:Dp Try.prog 174 Ku:=
 Dp.xT ko Aq mixed Try.func174 (by kernel_rfl) (by kernel_rfl) λx h=>FL x.1 h
theorem gM {n:Nat} {s:Da×Da} : ∀(k l:Nat),fj n k l s-> ∀i,l<=i->i<l+k->ON n i (s.1.getD i []) (s.2.getD i []) (λq=>Jh s.2 (l+k-i-1) (i+1) q=true)
 |0,_,_,i,h1,h2=>by omega
 |k+1,l,hc,i,h1,h2=>by
  obtain ⟨c1,c2,_⟩:=hc
  by_cases e:i=l
  ·subst e
   rw [show i+(k+1)-i-1=k by omega]
   exact c2
  ·have:=gM k (l+1) c1 i (by omega) (by omega)
   rwa [show l+1+k-i-1=l+(k+1)-i-1 by omega] at this
theorem vR {α:Type} {xs:List (List α)} {i:Nat} (h:i<xs.length):xs.getD i []=xs[i]:=by
 rw [List.getD_eq_getElem?_getD,List.getElem?_eq_getElem h];rfl
theorem JH {α:Type} {xs:List (Option α)} {i:Nat} (h:i<xs.length):xs.getD i none=xs[i]:=by
 rw [List.getD_eq_getElem?_getD,List.getElem?_eq_getElem h];rfl
theorem Pm.row {n:Nat} {p:List Int} (h:Pm n p):Hb n p:=by
 have:=h.2.row
 rwa [h.1] at this
theorem Ace (c:Int×List (List (Option (List Int)))×List (List (Option (List Int)))×Unit) (l:Int) (p:List Int) (h: ∃N L,m6 N L c.1 c.2.1 c.2.2.1 l p):
  fnW Ts (look [(175,Eo),(156,aJ)]) rD Try.f183 (c,l,p,()) (λ(z:Bool)=>z=Jh c.2.2.1 (c.1-l).toNat l.toNat p):=by
 obtain ⟨n,G,T,⟨⟩⟩:=c
 obtain ⟨N,L,h⟩:=h
 obtain ⟨n1,n2,en,el,hle,v,pm,fx⟩:=h
 dsimp only at en el v⊢
 subst en el
 refine Eq.mp (Ad4 ((N:Int),G,T,()) (L:Int) p _) ?_
 obtain ⟨v1,v2,v3,v4⟩:=v
 dsimp only at v1 v2
 refine ⟨λv=> ∃i:Nat,L<=i/\i<=N/\v.2.1=i/\Pm N v.1/\Fx i v.1/\Jh T (N-i) i v.1=Jh T (N-L) L p,λv=>N-v.2.1.toNat,⟨L,Nat.le_refl _,hle,rfl,pm,fx,rfl⟩,?_⟩
 rintro ⟨p',i',⟨⟩⟩ ⟨i,h1,h2,h3,h4,h5,h6⟩
 dsimp only at h3 h4 h5 h6⊢
 subst h3
 rw [show (((N:Int)-(L:Int)).toNat)=N-L by omega,show ((L:Int)).toNat=L by omega,<-h6]
 refine Br.dec (λhl=>?_) λhl=>?_
 ·have hl:i<N:=by omega
  have Ql:=gM (N-L) L v3 i h1 (by omega)
  obtain ⟨a1,a2⟩:=h4.Rx hl
  have hT:i<T.length:=by omega
  have hlen:T[i].length=N:=by have:=Ql.rl;dsimp only at this;rwa [vR hT] at this
  refine ⟨_,Ap hT,_,Ap (by rw [h4.1];exact hl),?_⟩
  have e1:p'[i]'(by rw [h4.1];exact hl)=(ap p' i:Int):=by rw [<-a1,Ik]
  rw [e1]
  refine ⟨_,Ap (by omega),?_⟩
  have e2:N-i=(N-i-1)+1:=by omega
  have e3:(T.getD i []).getD (Cb p' (i:Int)).toNat none=T[i][ap p' i]'(by omega):=by
   rw [vR hT];exact JH (by show ap p' i<_;omega)
  rw [e2]
  simp only [Jh,e3]
  refine Br.of (λhb=>?_) λhb=>?_
  ·cases e:T[i][ap p' i]'(by omega) with
   |none=>rfl
   |some t=>rw [e] at hb;simp at hb
  ·cases e:T[i][ap p' i]'(by omega) with
   |none=>rw [e] at hb;simp at hb
   |some t=>
    have ht:(T.getD i []).getD (ap p' i) none=some t:=by rw [<-e];exact e3
    obtain ⟨t1,t2,t3,t4⟩:=Ql.rt _ _ ht
    simp only [Option.getD_some]
    refine ⟨_,if_pos ⟨by show t.length<=20;rw [t1.1];exact n2,t1.2.row⟩,_,if_pos ⟨by show p'.length<=20;rw [h4.1];exact n2,by show Hb (An t).length p';rw [lW,t1.1];exact h4.row⟩,⟨i+1,by omega,by omega,Al (by omega),h4.comp t1.inv,Fx.div h4 t1 h5 t2 hl t3,?_⟩,?_⟩
    ·rw [show N-(i+1)=N-i-1 by omega]
    ·show N-(IntKind.i64.wrap ((i:Int)+1)).toNat<N-((i:Int)).toNat
     rw [Al (by omega)]
     omega
 ·rw [show N-i=0 by omega]
  rfl
theorem GJ:Sound Try.prog 183 rD:=
 Sound.Cu ko (Ah Pp (Ah o5 Aq)) mixed Try.func183 (by kernel_rfl) (by kernel_rfl) λx h=>Ace x.1 x.2.1 x.2.2.1 h
end Go.Proofs.Ytjbdmibbbpdnnaa

namespace Go.Proofs.Ytjbdmibbbpdnnaa
open Go.RowKit
abbrev ui:Type:=Nat×Nat×Int×List (List (Option (List Int)))×Nat×List (List (Option (List Int)))×Nat×List Int×Int×PUnit
abbrev MR:Type:=Nat×Int×List (List (Option (List Int)))×Nat×List (List (Option (List Int)))×Nat×List Int×Int×PUnit
abbrev MS:Type:=Nat×List (List (Option (List Int)))×Nat×List (List (Option (List Int)))×Nat×List Int×Int×PUnit
abbrev Gw (G:List (List (Option (List Int)))) (l:Int) (p:Option (List Int)) (T:List (List (Option (List Int)))) (y7:Bool) (n:Int):Prop:=0=0/\(G.getD (0+l.toNat) []).length=(G.getD (0+l.toNat) []).length/\(G.getD (0+l.toNat) []).length+(List.take 1 (List.drop 0 [p])).length<=Bp/\((0:Int)<=l/\l<(↑G.length:Int))/\0=0/\(G.getD (0+l.toNat) []++List.take 1 (List.drop 0 [p])).length=(G.getD (0+l.toNat) []++List.take 1 (List.drop 0 [p])).length/\0+l.toNat=0+l.toNat/\ [(0,G.length),(0,G.length),(0,G.length),(0,T.length)]= [(0,G.length),(0,G.length),(0,G.length),(0,T.length)]/\(l,p,l,p,y7,l,l,0+l.toNat,p,List.take 1 (List.drop 0 [p]),0+l.toNat,G.set (0+l.toNat) (G.getD (0+l.toNat) []++List.take 1 (List.drop 0 [p])),min G.length (0+l.toNat),T,T.length,n,())=(l,p,l,p,y7,l,l,0+l.toNat,p,List.take 1 (List.drop 0 [p]),0+l.toNat,G.set (0+l.toNat) (G.getD (0+l.toNat) []++List.take 1 (List.drop 0 [p])),min G.length (0+l.toNat),T,T.length,n,PUnit.unit)
theorem Acw {m:Nat} (n:Int) (G T:List (List (Option (List Int)))) (l:Int) (p:Option (List Int)) (P:(Int×List (List (Option (List Int)))×List (List (Option (List Int)))×Unit)×Unit->Prop):(∃(y7:Bool),rD.fn ((n,List.take G.length (List.drop 0 G),List.take T.length (List.drop 0 T),()),l,p.getD [],())=some y7/\Br y7 ((0=0/\G.length=G.length)/\(0=0/\T.length=T.length)/\(Pl (m+1)).Cr (n,G,T,l,p,())<=G.length/\(Pl (m+1)).Cr (n,G,T,l,p,())<=T.length/\P ((n,G,T,()),())) (((0:Int)<=l/\l<(↑G.length:Int))/\0=0/\(G.getD (0+l.toNat) []).length=(G.getD (0+l.toNat) []).length/\(G.getD (0+l.toNat) []).length+(List.take 1 (List.drop 0 [p])).length<=Bp/\((0:Int)<=l/\l<(↑G.length:Int))/\0=0/\(G.getD (0+l.toNat) []++List.take 1 (List.drop 0 [p])).length=(G.getD (0+l.toNat) []++List.take 1 (List.drop 0 [p])).length/\0+l.toNat=0+l.toNat/\(((0:Int)<=l/\l<(↑T.length:Int))/\ ∃(y8:(List Int×PUnit)×PUnit),Ku.fn (T.getD (0+l.toNat) [],())=some y8/\0=0/\(List.take y8.1.1.length (List.drop 0 y8.1.1)).length=(List.take y8.1.1.length (List.drop 0 y8.1.1)).length/\0=0/\G.length=(G.set (0+l.toNat) (G.getD (0+l.toNat) []++List.take 1 (List.drop 0 [p]))).length/\0=0/\T.length=T.length/\Bn (λ(v9:MS) (k10:MS->Prop)=>Br (decide ((↑v9.2.2.2.2.2.1.length:Int)>(0:Int))) (((0:Int)<=l/\l<(↑v9.2.1.length:Int))/\0=0/\(List.take v9.2.2.2.2.2.1.length (List.drop 0 v9.2.2.2.2.2.1)).length=(List.take v9.2.2.2.2.2.1.length (List.drop 0 v9.2.2.2.2.2.1)).length/\0=0/\v9.2.1.length=v9.2.1.length/\0=0/\v9.2.2.2.1.length=v9.2.2.2.1.length/\Bn (λ(v11:ui) (k12:ui->Prop)=>Br (decide (v11.2.2.1<(↑(v9.2.1.getD (0+l.toNat) []).length:Int))) (((0:Int)<=v11.2.2.1/\v11.2.2.1<(↑(v11.2.2.2.1.getD v11.2.1 []).length:Int))/\((0:Int)<=(0:Int)/\(0:Int)<(↑v11.2.2.2.2.2.2.2.1.length:Int))/\ ∃(fg:Int),v11.2.2.2.2.2.2.2.1[0+Int.toNat (0:Int)]?=some fg/\ ∃(Zi:Int),idx (((v11.2.2.2.1.getD v11.2.1 []).getD v11.2.2.1.toNat (none:Option (List Int))).getD []) fg=some Zi/\((0:Int)<=Zi/\Zi<(↑(v11.2.2.2.2.2.1.getD v11.1 []).length:Int))/\Br ((v11.2.2.2.2.2.1.getD v11.1 []).getD Zi.toNat (none:Option (List Int))).isNone (((0:Int)<=(0:Int)/\(0:Int)<(↑v11.2.2.2.2.2.2.2.1.length:Int))/\ ∃(dD:Int),v11.2.2.2.2.2.2.2.1[0+Int.toNat (0:Int)]?=some dD/\((0:Int)<=dD/\dD<(↑(v11.2.2.2.2.2.1.getD v11.1 []).length:Int))/\ ∃(fh:Option (List Int)),Qu.fn (((v11.2.2.2.2.2.1.getD v11.1 []).getD dD.toNat (none:Option (List Int))).getD [],((v11.2.2.2.1.getD v11.2.1 []).getD v11.2.2.1.toNat (none:Option (List Int))).getD [],())=some fh/\((0:Int)<=Zi/\Zi<(↑(v11.2.2.2.2.2.1.getD v11.1 []).length:Int))/\0=0/\v11.2.2.2.2.2.2.2.1.length=v11.2.2.2.2.2.2.2.1.length/\v11.2.2.2.2.2.2.2.1.length+(List.take 1 (List.drop 0 [Zi])).length<=Bp/\0=0/\(List.take (v11.2.2.2.2.2.2.2.1++List.take 1 (List.drop 0 [Zi])).length (List.drop 0 (v11.2.2.2.2.2.2.2.1++List.take 1 (List.drop 0 [Zi])))).length=(List.take (v11.2.2.2.2.2.2.2.1++List.take 1 (List.drop 0 [Zi])).length (List.drop 0 (v11.2.2.2.2.2.2.2.1++List.take 1 (List.drop 0 [Zi])))).length/\0=0/\v11.2.2.2.1.length=v11.2.2.2.1.length/\0=0/\v11.2.2.2.2.2.1.length=(v11.2.2.2.2.2.1.set v11.1 ((v11.2.2.2.2.2.1.getD v11.1 []).set Zi.toNat fh)).length/\k12 (v11.1,v11.2.1,IntKind.i64.wrap (v11.2.2.1+(1:Int)),v11.2.2.2.1,v11.2.2.2.2.1,v11.2.2.2.2.2.1.set v11.1 ((v11.2.2.2.2.2.1.getD v11.1 []).set Zi.toNat fh),v11.2.2.2.2.2.2.1,List.take (v11.2.2.2.2.2.2.2.1++List.take 1 (List.drop 0 [Zi])).length (List.drop 0 (v11.2.2.2.2.2.2.2.1++List.take 1 (List.drop 0 [Zi]))),v11.2.2.2.2.2.2.2.2.1,())) (0=0/\(List.take v11.2.2.2.2.2.2.2.1.length (List.drop 0 v11.2.2.2.2.2.2.2.1)).length=(List.take v11.2.2.2.2.2.2.2.1.length (List.drop 0 v11.2.2.2.2.2.2.2.1)).length/\0=0/\v11.2.2.2.1.length=v11.2.2.2.1.length/\0=0/\v11.2.2.2.2.2.1.length=v11.2.2.2.2.2.1.length/\k12 (v11.1,v11.2.1,IntKind.i64.wrap (v11.2.2.1+(1:Int)),v11.2.2.2.1,v11.2.2.2.2.1,v11.2.2.2.2.2.1,v11.2.2.2.2.2.2.1,List.take v11.2.2.2.2.2.2.2.1.length (List.drop 0 v11.2.2.2.2.2.2.2.1),v11.2.2.2.2.2.2.2.2.1,()))) (((0:Int)<=(1:Int)/\(1:Int)<=(↑v11.2.2.2.2.2.2.2.1.length:Int)/\(↑v11.2.2.2.2.2.2.2.1.length:Int)<=(↑v11.2.2.2.2.2.2.2.1.length:Int))/\0=0/\(List.take ((↑v11.2.2.2.2.2.2.2.1.length:Int).toNat-Int.toNat (1:Int)) (List.drop (0+Int.toNat (1:Int)) v11.2.2.2.2.2.2.2.1)).length=(List.take ((↑v11.2.2.2.2.2.2.2.1.length:Int).toNat-Int.toNat (1:Int)) (List.drop (0+Int.toNat (1:Int)) v11.2.2.2.2.2.2.2.1)).length/\0=0/\v11.2.2.2.1.length=v11.2.2.2.1.length/\0=0/\v11.2.2.2.2.2.1.length=v11.2.2.2.2.2.1.length/\k10 (v11.1,v11.2.2.2.1,v11.2.2.2.2.1,v11.2.2.2.2.2.1,v11.2.2.2.2.2.2.1,List.take ((↑v11.2.2.2.2.2.2.2.1.length:Int).toNat-Int.toNat (1:Int)) (List.drop (0+Int.toNat (1:Int)) v11.2.2.2.2.2.2.2.1),v11.2.2.2.2.2.2.2.2.1,()))) (v9.1,0+l.toNat,(0:Int),v9.2.1,v9.2.2.1,v9.2.2.2.1,v9.2.2.2.2.1,List.take v9.2.2.2.2.2.1.length (List.drop 0 v9.2.2.2.2.2.1),v9.2.2.2.2.2.2.1,PUnit.unit)) (∃(kr:(List Int×PUnit)×PUnit),Ku.fn (v9.2.2.2.1.getD v9.1 [],())=some kr/\0=0/\kr.1.1.length=kr.1.1.length/\0=0/\v9.2.1.length=v9.2.1.length/\0=0/\v9.2.2.2.1.length=v9.2.2.2.1.length/\Bn (λ(gu:MR) (k13:MR->Prop)=>Br (decide (gu.2.1<(↑kr.1.1.length:Int))) (((0:Int)<=gu.2.1/\gu.2.1<(↑gu.2.2.2.2.2.2.1.length:Int))/\ ∃(Zi:Int),gu.2.2.2.2.2.2.1[0+gu.2.1.toNat]?=some Zi/\((0:Int)<=l/\l<(↑gu.2.2.1.length:Int))/\0=0/\gu.2.2.2.2.2.2.1.length=gu.2.2.2.2.2.2.1.length/\0=0/\gu.2.2.1.length=gu.2.2.1.length/\0=0/\gu.2.2.2.2.1.length=gu.2.2.2.2.1.length/\Bn (λ(Lg:ui) (k16:ui->Prop)=>Br (decide (Lg.2.2.1<(↑(gu.2.2.1.getD (0+l.toNat) []).length:Int))) (((0:Int)<=Lg.2.2.1/\Lg.2.2.1<(↑(Lg.2.2.2.1.getD Lg.2.1 []).length:Int))/\((0:Int)<=Zi/\Zi<(↑(Lg.2.2.2.2.2.1.getD Lg.1 []).length:Int))/\ ∃(CX:Option (List Int)),Qu.fn (((Lg.2.2.2.2.2.1.getD Lg.1 []).getD Zi.toNat (none:Option (List Int))).getD [],((Lg.2.2.2.1.getD Lg.2.1 []).getD Lg.2.2.1.toNat (none:Option (List Int))).getD [],())=some CX/\ ∃(ID:Int),idx (((Lg.2.2.2.1.getD Lg.2.1 []).getD Lg.2.2.1.toNat (none:Option (List Int))).getD []) Zi=some ID/\((0:Int)<=ID/\ID<(↑(Lg.2.2.2.2.2.1.getD Lg.1 []).length:Int))/\ ∃(SG:List Int),Eo.fn (((Lg.2.2.2.2.2.1.getD Lg.1 []).getD ID.toNat (none:Option (List Int))).getD [],())=some SG/\ ∃(UK:Option (List Int)),Qu.fn (CX.getD [],SG,())=some UK/\0=0/\Lg.2.2.2.1.length=Lg.2.2.2.1.length/\0=0/\Lg.2.2.2.2.2.1.length=Lg.2.2.2.2.2.1.length/\ ∃(IE:(Int×List (List (Option (List Int)))×List (List (Option (List Int)))×PUnit)×PUnit),(Pl m).fn (Lg.2.2.2.2.2.2.2.2.1,Lg.2.2.2.1,Lg.2.2.2.2.2.1,IntKind.i64.wrap (l+(1:Int)),UK,())=some IE/\(Lg.1<(Pl m).Cr (Lg.2.2.2.2.2.2.2.2.1,Lg.2.2.2.1,Lg.2.2.2.2.2.1,IntKind.i64.wrap (l+(1:Int)),UK,())/\Lg.1<(List.length IE.1.2.2.1))/\(Lg.2.1<(Pl m).Cr (Lg.2.2.2.2.2.2.2.2.1,Lg.2.2.2.1,Lg.2.2.2.2.2.1,IntKind.i64.wrap (l+(1:Int)),UK,())/\Lg.2.1<(List.length IE.1.2.1))/\(Lg.1<(Pl m).Cr (Lg.2.2.2.2.2.2.2.2.1,Lg.2.2.2.1,Lg.2.2.2.2.2.1,IntKind.i64.wrap (l+(1:Int)),UK,())/\Lg.1<(List.length IE.1.2.2.1))/\(Lg.1<(Pl m).Cr (Lg.2.2.2.2.2.2.2.2.1,Lg.2.2.2.1,Lg.2.2.2.2.2.1,IntKind.i64.wrap (l+(1:Int)),UK,())/\Lg.1<(List.length IE.1.2.2.1))/\0=0/\Lg.2.2.2.2.2.2.2.1.length=Lg.2.2.2.2.2.2.2.1.length/\0=0/\IE.1.2.1.length=IE.1.2.1.length/\0=0/\IE.1.2.2.1.length=IE.1.2.2.1.length/\k16 (Lg.1,Lg.2.1,IntKind.i64.wrap (Lg.2.2.1+(1:Int)),IE.1.2.1,min Lg.2.2.2.2.1 ((Pl m).Cr (Lg.2.2.2.2.2.2.2.2.1,Lg.2.2.2.1,Lg.2.2.2.2.2.1,IntKind.i64.wrap (l+(1:Int)),UK,())),IE.1.2.2.1,min Lg.2.2.2.2.2.2.1 ((Pl m).Cr (Lg.2.2.2.2.2.2.2.2.1,Lg.2.2.2.1,Lg.2.2.2.2.2.1,IntKind.i64.wrap (l+(1:Int)),UK,())),Lg.2.2.2.2.2.2.2.1,IE.1.1,())) (0=0/\Lg.2.2.2.2.2.2.2.1.length=Lg.2.2.2.2.2.2.2.1.length/\0=0/\Lg.2.2.2.1.length=Lg.2.2.2.1.length/\0=0/\Lg.2.2.2.2.2.1.length=Lg.2.2.2.2.2.1.length/\k13 (Lg.1,IntKind.i64.wrap (gu.2.1+(1:Int)),Lg.2.2.2.1,Lg.2.2.2.2.1,Lg.2.2.2.2.2.1,Lg.2.2.2.2.2.2.1,Lg.2.2.2.2.2.2.2.1,Lg.2.2.2.2.2.2.2.2.1,()))) (gu.1,0+l.toNat,(0:Int),gu.2.2.1,gu.2.2.2.1,gu.2.2.2.2.1,gu.2.2.2.2.2.1,gu.2.2.2.2.2.2.1,gu.2.2.2.2.2.2.2.1,PUnit.unit)) ((0=0/\gu.2.2.1.length=gu.2.2.1.length)/\(0=0/\gu.2.2.2.2.1.length=gu.2.2.2.2.1.length)/\(Pl (m+1)).Cr (n,G,T,l,p,())<=gu.2.2.2.1/\(Pl (m+1)).Cr (n,G,T,l,p,())<=gu.2.2.2.2.2.1/\P ((gu.2.2.2.2.2.2.2.1,gu.2.2.1,gu.2.2.2.2.1,()),()))) (v9.1,(0:Int),v9.2.1,v9.2.2.1,v9.2.2.2.1,v9.2.2.2.2.1,kr.1.1,v9.2.2.2.2.2.2.1,PUnit.unit))) (0+l.toNat,G.set (0+l.toNat) (G.getD (0+l.toNat) []++List.take 1 (List.drop 0 [p])),min G.length (0+l.toNat),T,T.length,List.take y8.1.1.length (List.drop 0 y8.1.1),n,PUnit.unit))/\(((((0:Int)<=l/\l<(↑G.length:Int))/\((Gw G l p T y7 n))/\(Gw G l p T y7 n))/\((0:Int)<=l/\l<(↑G.length:Int))/\(Gw G l p T y7 n))/\((0:Int)<=l/\l<(↑G.length:Int))/\(Gw G l p T y7 n))/\(((((0:Int)<=l/\l<(↑G.length:Int))/\((Gw G l p T y7 n))/\(Gw G l p T y7 n))/\((0:Int)<=l/\l<(↑G.length:Int))/\(Gw G l p T y7 n))/\(((0:Int)<=l/\l<(↑G.length:Int))/\(((Gw G l p T y7 n))/\(Gw G l p T y7 n))/\(((Gw G l p T y7 n))/\((Gw G l p T y7 n))/\(Gw G l p T y7 n))/\((Gw G l p T y7 n))/\((Gw G l p T y7 n))/\(Gw G l p T y7 n))/\(((0:Int)<=l/\l<(↑G.length:Int))/\(Gw G l p T y7 n))/\((0:Int)<=l/\l<(↑G.length:Int))/\((Gw G l p T y7 n))/\((Gw G l p T y7 n))/\(Gw G l p T y7 n))/\(((0:Int)<=l/\l<(↑G.length:Int))/\(Gw G l p T y7 n))/\(((0:Int)<=l/\l<(↑G.length:Int))/\(Gw G l p T y7 n))/\((0:Int)<=l/\l<(↑G.length:Int))/\((Gw G l p T y7 n))/\((Gw G l p T y7 n))/\(Gw G l p T y7 n)))=fnMW (MW [Hr+7]) (look [(183,rD),(174,Ku),(156,Qu),(175,Eo),(173,gB.m (Pl m))]) (Pl (m+1)) Try.f173 (n,G,T,l,p,()) P:=by kernel_rfl
theorem uT {k l:Nat} {p:List Int} {s:Da×Da} (h:Jh s.2 k l p=true):Dv k l p s=s:=by
 cases k with
 |zero=>rfl
 |succ k=>unfold Dv;rw [if_pos h]
theorem uS (k l:Nat) (p:List Int) (s:Da×Da):Dv (k+1) l p s=if Jh s.2 (k+1) l p=true then s else
   (bo (Rp (s.1.getD l []++ [some p]) (s.2.getD l [])) (s.1.getD l []++ [some p])).foldl (λs q=>Dv k (l+1) q s)
    (s.1.set l (s.1.getD l []++ [some p]),s.2.set l (Rp (s.1.getD l []++ [some p]) (s.2.getD l []))):=rfl
theorem KH {n:Nat} {p:List Int} (h:Pm n p) {i:Nat} (hi:i<n):idx p (i:Int)=some (ap p i:Int):=by
 have eH:i<p.length:=by rw [h.1];exact hi
 rw [Ap eH,<-(h.Rx hi).1,Ik eH]
theorem yd {x:Int} {gs:List PO} {j:Nat} (hj:j<gs.length) (s:Row×List Int):Sy x (gs.take (j+1)) s=Th x (Sy x (gs.take j) s) gs[j]:=by
 unfold Sy
 rw [List.take_add_one,List.getElem?_eq_getElem hj,Option.toList_some,List.foldl_append]
 rfl
theorem ye {gs:List PO} {f:Nat} {row:Row} :Sr gs f [] row=row:=by cases f<;>rfl
theorem fD {n:Nat} {p:List Int} (h:Pm n p):0<p.length/\p.length<=20:=⟨by rw [h.1];exact h.n1,by rw [h.1];exact h.n2⟩
theorem zE {n:Nat} {p q:List Int} (h:Pm n p) (k:Pm n q):Hb q.length p:=by rw [k.1];exact h.row
theorem Ac5 {m:Nat} (n:Int) (G T:List (List (Option (List Int)))) (l:Int) (p:Option (List Int)) (h:(∃N L q,p=some q/\m6 N L n G T l q)/\(n-l).toNat<m+1):
  fnMW (MW [Hr+7]) (look [(183,rD),(174,Ku),(156,Qu),(175,Eo),(173,gB.m (Pl m))]) (Pl (m+1)) Try.f173 (n,G,T,l,p,()) (λ(z:(Int×List (List (Option (List Int)))×List (List (Option (List Int)))×Unit)×Unit)=>z=((n,(Dv (n-l).toNat l.toNat (p.getD []) (G,T)).1,(Dv (n-l).toNat l.toNat (p.getD []) (G,T)).2,()),())):=by
 obtain ⟨⟨N,L,q,rfl,h⟩,hm⟩:=h
 have h':=h
 obtain ⟨n1,n2,en,el,hle,v,pm,fx⟩:=h
 subst en el
 have hk:((N:Int)-(L:Int)).toNat=N-L:=by omega
 rw [hk,Int.toNat_natCast]
 refine Eq.mp (Acw (N:Int) G T (L:Int) (some q) _) ⟨_,if_pos ⟨N,L,?a⟩,?b⟩
 case a=>
  simp only [List.drop_zero,List.take_length,Option.getD_some]
  exact h'
 obtain ⟨v1,v2,v3,v4⟩:=v
 dsimp only at v1 v2
 have hw:IntKind.i64.wrap ((L:Int)+1)=((L+1:Nat):Int):=Al (by omega)
 simp only [Gw]
 simp only [List.drop_zero,List.take_length,Option.getD_some,hk,Int.toNat_natCast,Nat.zero_add,eq_self,true_and,and_true,List.take_succ_cons,List.take_zero,List.length_cons,List.length_nil,List.length_set,hw]
 refine Br.of (λhh=>⟨by show Int.toNat (L:Int)<=G.length;omega,by show Int.toNat (L:Int)<=T.length;omega,?_⟩) λhh=>?_
 ·rw [uT (s:=(G,T)) hh]
 obtain ⟨k,hNk⟩: ∃k,N-L=k+1:=by
  cases e:N-L with
  |zero=>rw [e] at hh;simp [Jh] at hh
  |succ k=>exact ⟨k,rfl⟩
 have hLN:L<N:=by omega
 have hv:V N (k+1) L (G,T):=by rw [<-hNk];exact ⟨v1,v2,v3,v4⟩
 rw [hNk] at hh⊢
 have e1:(0:Int)<=(L:Int)/\(L:Int)<(G.length:Int):=by omega
 have e1':(0:Int)<=(L:Int)/\(L:Int)<(T.length:Int):=by omega
 have hgl:(G.getD L []).length<=400:=PD n2 (by omega) hv
 have e2:(G.getD L []).length+1<=Bp:=by show _<=4294967296;omega
 simp only [e1,e1',e2,and_self,true_and,and_true]
 generalize BR:G.getD L []++ [some q]=gs
 have Akx:gs.length<=401:=by rw [<-BR,List.length_append,List.length_singleton];omega
 have hg:PG N L gs:=by rw [<-BR];exact hv.pg pm fx
 have OJ:Rv N L gs (T.getD L []):=by rw [<-BR];exact hv.Ahu q
 obtain ⟨r1,r2,r3⟩:=wR hLN n2 hg OJ
 generalize hR:Rp gs (T.getD L [])=R at r1 r2 r3
 have lB:Dv (k+1) L q (G,T)=(bo R gs).foldl (λs q=>Dv k (L+1) q s) (G.set L gs,T.set L R):=by
  rw [uS,if_neg (by rw [hh];simp)]
  dsimp only
  rw [BR,hR]
 rw [lB]
 have hTl:L<T.length:=by omega
 have hGl:L<G.length:=by omega
 have hG1:(G.set L gs).getD L []=gs:=eC G L hGl gs
 have hT1: ∀row:Row,(T.set L row).getD L []=row:=eC T L hTl
 refine ⟨_,if_pos (by show (T.getD L []).length<=20;rw [OJ.rl];exact n2),?_⟩
 dsimp only
 have ZB:(Hz (T.getD L [])).length+Lp (T.getD L [])<=40:=by have:=tj (T.getD L []);have:=wN (T.getD L []);have:=OJ.rl;omega
 have hq0:CZ gs (Hz (T.getD L [])) (T.getD L []):=⟨λy hy=>Ni.1 hy,λy hy=> .inl (Ni.2 ⟨y,rfl,hy⟩)⟩
 refine ⟨λv=> ∃(row:Row) (qu:List Int) (kg kt:Nat),v=(L,G.set L gs,kg,T.set L row,kt,qu,(N:Int),())/\L<=kg/\L<=kt/\qu.length+Lp row<=40/\Rv N L gs row/\CZ gs qu row/\Sr gs (qu.length+Lp row) qu row=R,
  fun v=>v.2.2.2.2.2.1.length+Lp (v.2.2.2.1.getD v.1 []),⟨T.getD L [],Hz (T.getD L []),min G.length L,T.length,?_,by omega,by omega,ZB,OJ,hq0,?_⟩,?_⟩
 ·rw [pN T L hTl]
 ·rw [<-vf hLN hg 100 _ _ (by omega) OJ hq0];exact hR
 rintro v ⟨row,qu,kg,kt,rfl,VR,VU,hb,JX,hqi,JK⟩
 dsimp only
 simp only [hG1,hT1,List.length_set]
 refine Br.dec (λhl=>⟨e1.2,?_⟩) λhl=>?_
 ·cases qu with
  |nil=>simp at hl
  |cons x qu=>
  obtain ⟨p1,p2,xn,t,rfl,ht⟩:=zv hLN hg JX hqi
  have CC:xn<N:=by rw [<-JX.rl];exact lP ht
  refine Am gs.length (λv=>v.2.2.1) (λj v=> ∃kg kt:Nat,v=(L,L,(j:Int),G.set L gs,kg,T.set L (Sy (xn:Int) (gs.take j) (row,qu)).1,kt,(xn:Int)::(Sy (xn:Int) (gs.take j) (row,qu)).2,(N:Int),())/\L<=kg/\L<=kt) rfl ⟨kg,kt,rfl,VR,VU⟩ ?_
  rintro j v K hj hi ⟨kg,kt,rfl,h1,h2⟩ hK
  dsimp only
  simp only [hG1,hT1,Int.toNat_natCast]
  refine Br.dec (λhl=>?_) λhl=>?_
  ·have hl:j<gs.length:=by omega
   obtain ⟨x1,x2⟩:=MD hLN hg (gs.take j) (q:=qu) (λo ho=>List.mem_of_mem_take ho) JX ht
   have Pc:=yd (x:=(xn:Int)) hl (row,qu)
   generalize Sy (xn:Int) (gs.take j) (row,qu)=s at x1 x2 Pc⊢
   obtain ⟨r,qq⟩:=s
   dsimp only at x1 x2⊢
   obtain ⟨g,pb,Py,VL⟩:=hg gs[j] (List.getElem_mem hl)
   have htx:r.getD xn none=some t:=x1.mono _ _ ht
   obtain ⟨t1,t2,t3,t4⟩:=x1.ok.rt _ _ htx
   have hrl:r.length=N:=x1.ok.rl
   have hgj:gs.getD j none=some g:=by rw [JH hl];exact pb
   have hy:=Py.lt CC
   have hga:=(Py.Rx CC).1
   have QC:qq.length+Lp r=qu.length+Lp row:=x1.ZL
   simp only [List.length_cons] at hb
   simp only [hgj,Option.getD_some]
   refine ⟨⟨by omega,by omega⟩,⟨by omega,by simp only [List.length_cons];omega⟩,_,rfl,_,KH Py CC,⟨by omega,by omega⟩,?_⟩
   rw [pb] at Pc
   unfold Th at Pc
   dsimp only at Pc
   rw [Option.getD_some,hga,Int.toNat_natCast,Int.toNat_natCast,htx,Option.getD_some] at Pc
   rw [Int.toNat_natCast]
   refine Br.of (λhn=>?_) λhn=>?_
   ·have hn:r.getD (ap g xn) none=none:=by
     cases e:r.getD (ap g xn) none with
     |none=>rfl
     |some u=>rw [e] at hn;simp at hn
    rw [hn] at Pc
    refine ⟨⟨by omega,by simp only [List.length_cons];omega⟩,_,rfl,⟨by omega,by omega⟩,some (Aa t g),?_,⟨by omega,by omega⟩,?_,?_⟩
    ·rw [Int.toNat_natCast,htx,Option.getD_some]
     exact if_pos ⟨fD t1,zE t1 Py⟩
    ·show qq.length+1+1<=4294967296
     omega
    ·rw [Al (by omega)]
     refine hK hl _ rfl ⟨kg,kt,?_,h1,h2⟩
     rw [Pc,List.set_set]
     rfl
   ·have hn: ∃u,r.getD (ap g xn) none=some u:=by
     cases e:r.getD (ap g xn) none with
     |none=>rw [e] at hn;simp at hn
     |some u=>exact ⟨u,rfl⟩
    obtain ⟨u,hn⟩:=hn
    rw [hn] at Pc
    rw [Al (by omega)]
    refine hK hl _ rfl ⟨kg,kt,?_,h1,h2⟩
    rw [Pc]
  ·have:j=gs.length:=by omega
   subst this
   rw [List.take_length]
   generalize hs:Sy (xn:Int) gs (row,qu)=s at p1 p2⊢
   obtain ⟨r,qq⟩:=s
   dsimp only at p1 p2⊢
   have QC:qq.length+Lp r=qu.length+Lp row:=p1.ZL
   simp only [List.length_cons] at hb JK
   refine ⟨⟨by omega,by simp only [List.length_cons];omega,Int.le_refl _⟩,⟨r,qq,kg,kt,?_,h1,h2,by omega,p1.ok,p2,?_⟩,?_⟩
   ·simp
   ·rw [show qu.length+1+Lp row=(qu.length+Lp row)+1 by omega] at JK
    simp only [Sr,hs] at JK
    rw [QC]
    exact JK
   ·simp only [List.length_cons]
    have:(List.take (qq.length+1-Int.toNat 1) (List.drop (Int.toNat 1) ((xn:Int)::qq))).length=qq.length:=by simp
    rw [this]
    omega
 ·have:qu= []:=List.eq_nil_of_length_eq_zero (by omega)
  subst this
  rw [ye] at JK
  subst JK
  have hpr:=LY hLN hg JX r3
  have hvl:=hv.lower gs row
  have TH: ∀qs:List (List Int),(∀q∈qs,q∈bo row gs)->V N k (L+1) (qs.foldl (λs q=>Dv k (L+1) q s) (G.set L gs,T.set L row))/\Xc (L+1) (G.set L gs,T.set L row) (qs.foldl (λs q=>Dv k (L+1) q s) (G.set L gs,T.set L row)):=
   fun qs QE=>BG n1 n2 (by omega) qs _ (λq hq=>hpr q (QE q hq)) hvl
  refine ⟨_,if_pos (by show row.length<=20;rw [JX.rl];exact n2),?_⟩
  dsimp only
  have hol:=tj row
  have hrl:=JX.rl
  refine Am (Hz row).length (λv=>v.2.1) (λi v=> ∃(s:Da×Da) (kg kt:Nat),v=(L,(i:Int),s.1,kg,s.2,kt,Hz row,(N:Int),())/\L<=kg/\L<=kt/\s=(((Hz row).take i).flatMap λy=>gs.map (Nd row y)).foldl (λs q=>Dv k (L+1) q s) (G.set L gs,T.set L row)) rfl ⟨_,kg,kt,rfl,VR,VU,rfl⟩ ?_
  rintro i v K hi eH ⟨s,kg,kt,rfl,h1,h2,hs⟩ hK
  dsimp only
  have Qm: ∀q∈((Hz row).take i).flatMap (λy=>gs.map (Nd row y)),q∈bo row gs:= λq hq=>by
   obtain ⟨y,hy,hq⟩:=List.mem_flatMap.1 hq
   exact List.mem_flatMap.2 ⟨y,List.mem_of_mem_take hy,hq⟩
  refine Br.dec (λhl=>?_) λhl=>?_
  ·have hl:i<(Hz row).length:=by omega
   obtain ⟨f1,f2⟩:=TH _ Qm
   rw [<-hs] at f1 f2
   have g1:s.1.getD L []=gs:=by rw [(f2.low L (by omega)).1];exact hG1
   have g2:s.1.length=N:=f1.1
   obtain ⟨yn,TY,hyr⟩:=Ni.1 (List.getElem_mem hl)
   obtain ⟨t,ht⟩:=Option.ne_none_iff_exists'.1 hyr
   have hyN:yn<N:=by rw [<-hrl];exact lP ht
   obtain ⟨t1,t2,t3,t4⟩:=JX.rt _ _ ht
   refine ⟨⟨by omega,by omega⟩,(yn:Int),by rw [Int.toNat_natCast,List.getElem?_eq_getElem hl,TY],by omega,?_⟩
   rw [g1]
   refine Am gs.length (λv=>v.2.2.1) (λj v=> ∃(s':Da×Da) (kg kt:Nat),v=(L,L,(j:Int),s'.1,kg,s'.2,kt,Hz row,(N:Int),())/\L<=kg/\L<=kt/\s'=(((Hz row).take i).flatMap (λy=>gs.map (Nd row y))++(gs.take j).map (Nd row (yn:Int))).foldl (λs q=>Dv k (L+1) q s) (G.set L gs,T.set L row)) rfl ⟨s,kg,kt,rfl,h1,h2,by simpa using hs⟩ ?_
   rintro j v K' hj DU ⟨s',kg,kt,rfl,h1,h2,qJ⟩ UY
   dsimp only
   refine Br.dec (λGk=>?_) λGk=>?_
   ·have Gk:j<gs.length:=by omega
    have CA: ∀q∈((Hz row).take i).flatMap (λy=>gs.map (Nd row y))++(gs.take j).map (Nd row (yn:Int)),q∈bo row gs:= λq hq=>by
     rcases List.mem_append.1 hq with hq|hq
     ·exact Qm q hq
     ·obtain ⟨o,ho,rfl⟩:=List.mem_map.1 hq
      exact List.mem_flatMap.2 ⟨(yn:Int),Ni.2 ⟨yn,rfl,hyr⟩,List.mem_map.2 ⟨o,List.mem_of_mem_take ho,rfl⟩⟩
    obtain ⟨YS,f2'⟩:=TH _ CA
    rw [<-qJ] at YS f2'
    obtain ⟨G',T'⟩:=s'
    dsimp only at YS f2'⊢
    have g1':G'.getD L []=gs:=by have:=(f2'.low L (by omega)).1;dsimp only at this;rw [this];exact hG1
    have g3':T'.getD L []=row:=by have:=(f2'.low L (by omega)).2;dsimp only at this;rw [this];exact hT1 row
    have g4':G'.length=N:=YS.1
    have g5':T'.length=N:=YS.2.1
    obtain ⟨g,pb,Py,VL⟩:=hg gs[j] (List.getElem_mem Gk)
    have hgj:gs.getD j none=some g:=by rw [JH Gk];exact pb
    have hgm:some g∈gs:=by rw [<-pb];exact List.getElem_mem Gk
    have hy:=Py.lt hyN
    obtain ⟨t',lV⟩:=Option.ne_none_iff_exists'.1 (r3 yn t g ht hgm)
    obtain ⟨u1,u2,u3,u4⟩:=JX.rt _ _ lV
    have Abe:Nd row (yn:Int) gs[j]=Aa (Aa t g) (An t'):=by rw [pb];exact dh ht lV
    have TS:=hpr _ (List.mem_flatMap.2 ⟨(yn:Int),Ni.2 ⟨yn,rfl,hyr⟩,List.mem_map.2 ⟨gs[j],List.getElem_mem Gk,Abe⟩⟩)
    simp only [g1',g3',Int.toNat_natCast,hgj,ht,Option.getD_some]
    have mY:L<Int.toNat ((L+1:Nat):Int):=by omega
    have yC:=s6 n1 n2 k (L+1) _ (G',T') (by omega) YS TS.1 TS.2
    have Ail:((Dv k (L+1) (Aa (Aa t g) (An t')) (G',T')).1).length=N:=yC.v.1
    have Aim:((Dv k (L+1) (Aa (Aa t g) (An t')) (G',T')).2).length=N:=yC.v.2.1
    have OE:((N:Int)-((L+1:Nat):Int)).toNat=k:=by omega
    refine ⟨⟨by omega,by omega⟩,⟨by omega,by omega⟩,some (Aa t g),if_pos ⟨fD t1,zE t1 Py⟩,_,KH Py hyN,⟨by omega,by omega⟩,An t',?_,some (Aa (Aa t g) (An t')),?_,_,if_pos ⟨⟨N,L+1,_,rfl,?pr⟩,?lt⟩,⟨mY,?k1⟩,⟨mY,?k2⟩,⟨mY,?k3⟩,⟨mY,?k4⟩,?go⟩
    case pr=>exact ⟨n1,n2,rfl,rfl,by omega,by rw [show N-(L+1)=k by omega];exact YS,TS.1,TS.2⟩
    case lt=>
     show ((N:Int)-((L+1:Nat):Int)).toNat<m
     omega
    case go=>
     dsimp only
     rw [Al (by omega)]
     refine UY Gk _ rfl ⟨_,_,_,rfl,?_,?_,?_⟩
     ·show L<=min kg (Int.toNat ((L+1:Nat):Int));omega
     ·show L<=min kt (Int.toNat ((L+1:Nat):Int));omega
     ·rw [List.take_add_one,List.getElem?_eq_getElem Gk,Option.toList_some,List.map_append,<-List.append_assoc,List.foldl_append,<-qJ]
      simp only [List.map_cons,List.map_nil,List.foldl_cons,List.foldl_nil,Abe,OE,Int.toNat_natCast,Option.getD_some]
    case k1=>simp only [OE,Int.toNat_natCast,Option.getD_some];omega
    case k2=>simp only [OE,Int.toNat_natCast,Option.getD_some];omega
    case k3=>simp only [OE,Int.toNat_natCast,Option.getD_some];omega
    case k4=>simp only [OE,Int.toNat_natCast,Option.getD_some];omega
    ·rw [Int.toNat_natCast,lV,Option.getD_some]
     exact if_pos ⟨by show t'.length<=20;rw [u1.1];exact n2,u1.2.row⟩
    ·exact if_pos ⟨fD (t1.comp Py),zE (t1.comp Py) u1.inv⟩
   ·have:j=gs.length:=by omega
    subst this
    rw [Al (by omega)]
    refine hK hl _ rfl ⟨s',kg,kt,rfl,h1,h2,?_⟩
    rw [qJ,List.take_length,List.take_add_one,List.getElem?_eq_getElem hl,Option.toList_some,List.flatMap_append,TY]
    simp
  ·have:i=(Hz row).length:=by omega
   subst this
   rw [List.take_length] at hs
   refine ⟨h1,h2,?_⟩
   rw [hs]
   rfl
theorem MO {m:Nat} (WT:Dp Try.prog 173 (Pl m)):Dp Try.prog 173 (Pl (m+1)):=
 Dp.xS (RT [Hr+7]) (Ah GJ (My eS (Ah o6 (Ah Pp (My WT Aq))))) mixed Try.func173 (by kernel_rfl) (by kernel_rfl) λx h=>Ac5 x.1 x.2.1 x.2.2.1 x.2.2.2.1 x.2.2.2.2.1 h
theorem zK:Dp Try.prog 173 (Pl 0):=
 Dp.xS ko Aq mixed Try.func173 (by kernel_rfl) (by kernel_rfl) λ_ h=>absurd h.2 (Nat.not_lt_zero _)
theorem o4: ∀m,Dp Try.prog 173 (Pl m)
 |0=>zK
 |m+1=>MO (o4 m)
noncomputable abbrev tP:MSpec:=xS UC (λx=> ∃N L q,x.2.2.2.2.1=some q/\m6 N L x.1 x.2.1 x.2.2.1 x.2.2.2.1 q)
 (λx=>((x.1,(Dv (x.1-x.2.2.2.1).toNat x.2.2.2.1.toNat (x.2.2.2.2.1.getD []) (x.2.1,x.2.2.1)).1,(Dv (x.1-x.2.2.2.1).toNat x.2.2.2.1.toNat (x.2.2.2.2.1.getD []) (x.2.1,x.2.2.1)).2,()),()))
theorem zL:Dp Try.prog 173 tP:=Dp.Ac3 (λx=>(x.1-x.2.2.2.1).toNat) o4
end Go.Proofs.Ytjbdmibbbpdnnaa

namespace Go.Proofs.Ytjbdmibbbpdnnaa
open Go.RowKit
def Sw (n:Nat):Da:=List.replicate n []
def Zf (n i:Nat):Row:=(List.replicate n none).set i (some (upto n))
def Xr (n:Nat):Da:=(List.range n).map λi=>Zf n i
def No (n:Nat) (gens:List PO):Da×Da:=gens.foldl (λs o=>Dv n 0 (o.getD []) s) (Sw n,Xr n)
noncomputable abbrev yT:MSpec:= {Hf:= [none,none],ins:= [(false, .Gt tI),(false, .Gt ZM)],Gg:=false,Gj:= [none,none,none],outs:= [.Gt tI, .Ak tO UI false, .Ak tO UI false],fn:= λ_=>none,rp:=some 179}
noncomputable abbrev df:MSpec:=xS yT (λx=>(1<=x.1/\x.1<=20)/\List.length x.2.1<=4294967296/\ ∀o∈(x.2.1:List PO),∃g,o=some g/\Pm x.1.toNat g)
 (λx=>((x.1,(No x.1.toNat x.2.1).1,(No x.1.toNat x.2.1).2,()),()))
abbrev Tr:Type:=Int×List (List (Option (List Int)))×Int×List (List (Option (List Int)))×PUnit
theorem xH (n:Int) (gens:List (Option (List Int))) (P:(Int×List (List (Option (List Int)))×List (List (Option (List Int)))×Unit)×Unit->Prop):(((0:Int)<=n/\n<(↑Bp:Int)+(1:Int))/\n=n/\0=0/\(List.replicate n.toNat ([]:List (Option (List Int)))).length=(List.replicate n.toNat ([]:List (Option (List Int)))).length/\0=0/\0=([]:List Int).length/\Bn (λ(v3:Tr) (k4:Tr->Prop)=>Br (decide (v3.1<n)) (((0:Int)<=n/\n<(↑Bp:Int)+(1:Int))/\n=n/\ ∃(y5:Option (List Int)),Wr.fn (n,())=some y5/\((0:Int)<=v3.1/\v3.1<(↑(List.replicate n.toNat (none:Option (List Int))).length:Int))/\0+v3.1.toNat<(List.replicate n.toNat (none:Option (List Int))).length/\0=0/\(List.replicate n.toNat (none:Option (List Int))).length=((List.replicate n.toNat (none:Option (List Int))).set (0+v3.1.toNat) y5).length/\(0=0/\v3.2.2.2.1.length=v3.2.2.2.1.length)/\(0=0/\1= [(List.replicate n.toNat (none:Option (List Int))).set (0+v3.1.toNat) y5].length)/\0< [(List.replicate n.toNat (none:Option (List Int))).set (0+v3.1.toNat) y5].length/\v3.2.2.2.1.length+ [(List.replicate n.toNat (none:Option (List Int))).set (0+v3.1.toNat) y5].length<=Bp/\0=0/\v3.2.1.length=v3.2.1.length/\0=0/\(v3.2.2.2.1++ [(List.replicate n.toNat (none:Option (List Int))).set (0+v3.1.toNat) y5]).length=(v3.2.2.2.1++ [(List.replicate n.toNat (none:Option (List Int))).set (0+v3.1.toNat) y5]).length/\k4 (IntKind.i64.wrap (v3.1+(1:Int)),v3.2.1,v3.2.2.1,v3.2.2.2.1++ [(List.replicate n.toNat (none:Option (List Int))).set (0+v3.1.toNat) y5],())) (0=0/\v3.2.1.length=v3.2.1.length/\0=0/\v3.2.2.2.1.length=v3.2.2.2.1.length/\Bn (λ(v5:Tr) (k6:Tr->Prop)=>Br (decide (v5.1<(↑gens.length:Int))) (∃(y7:Option (List Int)),idx gens v5.1=some y7/\0=0/\v5.2.1.length=v5.2.1.length/\0=0/\v5.2.2.2.1.length=v5.2.2.2.1.length/\ ∃(y8:(Int×List (List (Option (List Int)))×List (List (Option (List Int)))×PUnit)×PUnit),tP.fn (v5.2.2.1,v5.2.1,v5.2.2.2.1,(0:Int),y7,())=some y8/\0=0/\y8.1.2.1.length=y8.1.2.1.length/\0=0/\y8.1.2.2.1.length=y8.1.2.2.1.length/\k6 (IntKind.i64.wrap (v5.1+(1:Int)),y8.1.2.1,y8.1.1,y8.1.2.2.1,())) ((0=0/\v5.2.1.length=v5.2.1.length)/\(0=0/\v5.2.2.2.1.length=v5.2.2.2.1.length)/\P ((v5.2.2.1,v5.2.1,v5.2.2.2.1,()),()))) ((0:Int),v3.2.1,v3.2.2.1,v3.2.2.2.1,PUnit.unit))) ((0:Int),List.replicate n.toNat ([]:List (Option (List Int))),n,[],PUnit.unit))=fnMW Ts (look [(127,Wr),(173,tP)]) df Try.f154 (n,gens,()) P:=by kernel_rfl
theorem Vt (n i:Nat):(Sw n).getD i []= []:=by
 unfold Sw
 rw [List.getD_eq_getElem?_getD,List.getElem?_replicate]
 split<;>rfl
theorem gm {n i:Nat} (h:i<n):(Xr n).getD i []=Zf n i:=by
 unfold Xr
 rw [List.getD_eq_getElem?_getD,List.getElem?_map,List.getElem?_range h]
 rfl
theorem iV {n i y:Nat} (h:i<n):(Zf n i).getD y none=if i=y then some (upto n) else none:=by
 unfold Zf
 rw [Oa,List.length_replicate]
 by_cases e:i=y
 ·rw [if_pos ⟨e,h⟩,if_pos e]
 ·rw [if_neg (λhh=>e hh.1),if_neg e,List.getD_eq_getElem?_getD,List.getElem?_replicate]
  split<;>rfl
theorem oA {n:Nat} (h1:1<=n) (h2:n<=20): ∀(k l:Nat),l+k=n->fj n k l (Sw n,Xr n)
 |0,l,hk=>Vt n l
 |k+1,l,hk=>by
  have hl:l<n:=by omega
  have hg: ∀(g:List Int) (j:Nat),some g∈(Sw n).getD j []->False:= λg j hg=>by rw [Vt] at hg;cases hg
  refine ⟨oA h1 h2 k (l+1) (by omega),⟨λo ho=>?_,?_,?_,λy t e0=>?_,λy t g _ Zj=>(hg _ _ Zj).elim,λy t g t' _ Zj=>(hg _ _ Zj).elim⟩,λg Zj=>(hg _ _ Zj).elim⟩
  ·have ho:o∈(Sw n).getD l []:=ho
   rw [Vt] at ho;cases ho
  ·show ((Xr n).getD l []).length=n
   rw [gm hl];simp [Zf]
  ·show ((Xr n).getD l []).getD l none=_
   rw [gm hl,iV hl,if_pos rfl]
  ·replace e0:((Xr n).getD l []).getD y none=some t:=e0
   rw [gm hl,iV hl] at e0
   by_cases hy:l=y
   ·rw [if_pos hy] at e0
    have e1:=Option.some.inj e0
    subst e1 hy
    exact ⟨Pm.id h1 h2,λi hi=>ek (by omega),ek hl, .id⟩
   ·rw [if_neg hy] at e0;cases e0
theorem xp (n:Nat): ∀(k l:Nat),ZQ k l (Sw n,Xr n)
 |0,_=>trivial
 |k+1,l=>⟨xp n k (l+1),by show ((Sw n).getD l []).length<=_;rw [Vt];exact Nat.zero_le _⟩
theorem CR {n:Nat} (h1:1<=n) (h2:n<=20):V n n 0 (Sw n,Xr n):=⟨by simp [Sw],by simp [Xr],oA h1 h2 n 0 (by omega),xp n n 0⟩
def PmL (n:Nat) (gens:List PO):Prop:= ∀o∈gens,∃g,o=some g/\Pm n g
theorem uR {n:Nat} {gens:List PO} {j:Nat} (hj:j<gens.length):No n (gens.take (j+1))=Dv n 0 (gens[j].getD []) (No n (gens.take j)):=by
 unfold No
 rw [List.take_add_one,List.getElem?_eq_getElem hj,Option.toList_some,List.foldl_append]
 rfl
theorem jc {n:Nat} (h1:1<=n) (h2:n<=20): ∀(gens:List PO) (s:Da×Da),PmL n gens->V n n 0 s->V n n 0 (gens.foldl (λs o=>Dv n 0 (o.getD []) s) s)/\
  Xc 0 s (gens.foldl (λs o=>Dv n 0 (o.getD []) s) s)/\(∀g,some g∈gens->Gn n ((gens.foldl (λs o=>Dv n 0 (o.getD []) s) s).1.getD 0 []) g)/\ ∀o∈(gens.foldl (λs o=>Dv n 0 (o.getD []) s) s).1.getD 0 [],o∈s.1.getD 0 []\/o∈gens
 | [],s,_,hv=>⟨hv,Xc.refl _ _,(λ_ hg=>by cases hg),λ_ ho=> .inl ho⟩
 |o::gens,s,hg,hv=>by
  obtain ⟨g,rfl,Py⟩:=hg o (by simp)
  have ha:=s6 h1 h2 n 0 g s (by omega) hv Py (λi hi=>absurd hi (Nat.not_lt_zero _))
  obtain ⟨a1,a2,a3,a4⟩:=jc h1 h2 gens (Dv n 0 g s) (λo ho=>hg o (by simp [ho])) ha.v
  refine ⟨a1,ha.grow.trans a2 (Nat.le_refl _),λg' Zj=>?_,λo ho=>?_⟩
  ·rcases List.mem_cons.1 Zj with e|Zj
   ·cases e;exact ha.Aby.mono λg hg=>a2.BK _ _ hg
   ·exact a3 g' Zj
  ·rcases a4 o ho with h|h
   ·rcases ha.gens o h with h|h
    ·exact .inl h
    ·exact .inr (by simp [h])
   ·exact .inr (by simp [h])
theorem uQ {n:Nat} (h1:1<=n) (h2:n<=20) {gens:List PO} (hg:PmL n gens):V n n 0 (No n gens):=(jc h1 h2 gens _ hg (CR h1 h2)).1
theorem mQ {n:Nat} (h1:1<=n) (h2:n<=20) {gens:List PO} (hg:PmL n gens) {p:List Int} (hp:Pm n p):Jh (No n gens).2 n 0 p=true↔Gn n gens p:=by
 obtain ⟨a1,a2,a3,a4⟩:=jc h1 h2 gens _ hg (CR h1 h2)
 have hS:AQ n λg=>some g∈gens:=⟨⟨h1,h2⟩,λg Zj=>by obtain ⟨g',e,h⟩:=hg _ Zj;cases e;exact h⟩
 have Qm: ∀g,some g∈(No n gens).1.getD 0 []->some g∈gens:= λg Zj=>by
  rcases a4 _ Zj with h|h
  ·have h:some g∈(Sw n).getD 0 []:=h
   rw [Vt] at h;cases h
  ·exact h
 have hS':AQ n λg=>some g∈(No n gens).1.getD 0 []:=⟨⟨h1,h2⟩,λg Zj=>hS.2 g (Qm g Zj)⟩
 refine (hZ h1 h2 n 0 (No n gens) (by omega) a1.2.2.1 p hp λi hi=>absurd hi (Nat.not_lt_zero _)).trans ⟨λh=>h.mono Qm,λh=>h.trans hS' λg Zj=>a3 g Zj⟩
theorem wX (n:Int) (gens:List (Option (List Int))) (h:(1<=n/\n<=20)/\List.length gens<=4294967296/\ ∀o∈(gens:List PO),∃g,o=some g/\Pm n.toNat g):
  fnMW Ts (look [(127,Wr),(173,tP)]) df Try.f154 (n,gens,()) (λ(z:(Int×List (List (Option (List Int)))×List (List (Option (List Int)))×Unit)×Unit)=>z=((n,(No n.toNat gens).1,(No n.toNat gens).2,()),())):=by
 obtain ⟨⟨h1,h2⟩,h3,hg⟩:=h
 obtain ⟨N,rfl⟩: ∃N:Nat,n=N:=⟨n.toNat,by omega⟩
 rw [Int.toNat_natCast] at hg⊢
 have h1:1<=N:=by omega
 have h2:N<=20:=by omega
 refine Eq.mp (xH (N:Int) gens _) ?_
 have hm:((0:Int)<=(N:Int)/\(N:Int)<(Bp:Int)+1):=⟨by omega,by show (N:Int)<(4294967296:Int)+1;omega⟩
 simp only [hm,and_self,eq_self,true_and,Int.toNat_natCast,Nat.zero_add,List.length_nil,List.length_set,List.length_replicate,List.length_cons,Nat.lt_add_one,List.length_append]
 refine Am N (λv=>v.1) (λj v=>v=((j:Int),Sw N,(N:Int),(List.range j).map (Zf N),())) rfl rfl ?_
 rintro j v K hj hi rfl hK
 dsimp only
 refine Br.dec (λhl=>?_) λhl=>?_
 ·refine ⟨_,if_pos ⟨by show (1:Int)<=N;omega,by show (N:Int)<=20;omega⟩,⟨by omega,by omega⟩,by rw [Int.toNat_natCast];omega,?_,?_⟩
  ·show _<=4294967296
   simp only [List.length_map,List.length_range]
   omega
  ·rw [Al (by omega)]
   refine hK (by omega) _ rfl ?_
   rw [List.range_succ,List.map_append]
   rfl
 ·have:j=N:=by omega
  subst this
  refine Am gens.length (λv=>v.1) (λi v=>v=((i:Int),(No j (gens.take i)).1,(j:Int),(No j (gens.take i)).2,())) rfl rfl ?_
  rintro i v K' eH Akz rfl UY
  dsimp only
  refine Br.dec (λGk=>?_) λGk=>?_
  ·have Gk:i<gens.length:=by omega
   obtain ⟨g,pb,Py⟩:=hg gens[i] (List.getElem_mem Gk)
   have hv:=uQ h1 h2 (gens:=gens.take i) λo ho=>hg o (List.mem_of_mem_take ho)
   refine ⟨_,Ap Gk,_,if_pos ⟨j,0,g,pb,h1,h2,rfl,rfl,Nat.zero_le _,hv,Py,λi hi=>absurd hi (Nat.not_lt_zero _)⟩,?_⟩
   rw [Al (by omega)]
   refine UY Gk _ rfl ?_
   rw [uR Gk]
   simp only [Int.sub_zero,Int.toNat_natCast]
   rfl
  ·have:i=gens.length:=by omega
   subst this
   rw [List.take_length]
theorem lH:Dp Try.prog 154 df:=
 Dp.xS ko (Ah lF (My zL Aq)) mixed Try.func154 (by kernel_rfl) (by kernel_rfl) λx h=>wX x.1 x.2.1 h
end Go.Proofs.Ytjbdmibbbpdnnaa

namespace Go.Proofs.Ytjbdmibbbpdnnaa
open Go.RowKit
def Vi (T:Da):Nat->Nat
 |0=>1
 |j+1=>Vi T j*(Hz (T.getD j [])).length
noncomputable abbrev ec:Spec:=Cu (.pair (.ptr uj) (.pair tI .unit)) tI false true (λx=>x.2.1=0/\ ∃N:Nat,(1<=N/\N<=20)/\x.1.1=N/\V N N 0 (x.1.2.1,x.1.2.2.1)) (λx=>(Vi x.1.2.2.1 x.1.1.toNat:Int))
noncomputable abbrev w9:MSpec:= {Hf:= [none,none],ins:= [(false, .Gt tI),(false, .Gt bC)],Gg:=false,Gj:= [none,none,none],outs:= [.Gt tI, .Ak tO UI false, .Ak tO UI false],fn:= λ_=>none,rp:=some 179}
def Ti (n:Int) (g:List (List Int)):Da×Da:=No n.toNat (g.map some)
noncomputable abbrev Qz:MSpec:=xS w9 (λx=>(1<=x.1/\x.1<=20)/\List.length x.2.1<=4294967296/\ ∀g∈(x.2.1:List (List Int)),Pm x.1.toNat g)
 (λx=>((x.1,(Ti x.1 x.2.1).1,(Ti x.1 x.2.1).2,()),()))
noncomputable def Pe (p:PP):Int:=if Ay p=true then (Vi (Ti p.1 p.2.2.1).2 p.1.toNat:Int) else 0
noncomputable abbrev Me:Spec:=Cu (.pair Dc .unit) tI false true (λx=>Dg x.1) (λx=>Pe x.1)
theorem SE (c:Int×List (List (Option (List Int)))×List (List (Option (List Int)))×Unit) (l:Int) (P:Int->Prop):(Bn (λ(v3:Int×Int×PUnit) (k4:Int×Int×PUnit->Prop)=>Br (decide (v3.2.1<c.1)) (∃(y5:List (Option (List Int))),idx c.2.2.1 v3.2.1=some y5/\ ∃(y6:(List Int×PUnit)×PUnit),Ku.fn (y5,())=some y6/\ ∃(y7:Int),Ic.fn (List.take y6.1.1.length (List.drop 0 y6.1.1),())=some y7/\k4 (IntKind.i64.wrap (v3.1*y7),IntKind.i64.wrap (v3.2.1+(1:Int)),())) (P v3.1)) ((1:Int),l,PUnit.unit))=fnW Ts (look [(174,Ku),(82,Ic)]) ec Try.f155 (c,l,()) P:=by kernel_rfl
theorem uJ (p:Int×ByteArray×List (List Int)×Unit) (P:Int->Prop):(∃(y2:Bool),Eu.fn ((p.1,p.2.1,p.2.2.1,()),())=some y2/\Br (!y2) (P (0:Int)) (∃(y3:(Int×List (List (Option (List Int)))×List (List (Option (List Int)))×PUnit)×PUnit),Qz.fn (p.1,p.2.2.1,())=some y3/\ ∃(y4:Int),ec.fn ((y3.1.1,List.take y3.1.2.1.length (List.drop 0 y3.1.2.1),List.take y3.1.2.2.1.length (List.drop 0 y3.1.2.2.1),()),(0:Int),())=some y4/\P y4))=fnW Co (look [(130,Eu),(154,Qz),(155,ec)]) Me Try.f126 (p,()) P:=by kernel_rfl
theorem RV (n i:Nat):(upto n).countP (λy=>decide ((i:Int)<=y))=n-i:=by
 induction n with
 |zero=>simp [upto]
 |succ n ih=>
  rw [Zg,List.countP_append,ih]
  simp only [List.countP_cons,List.countP_nil,decide_eq_true_eq]
  split<;>omega
theorem QU {n i:Nat} {gs:List PO} {row:Row} {H:List Int->Prop} (hi:i<n) (h:ON n i gs row H):(Hz row).length<=n-i:=by
 rw [<-RV n i]
 unfold Hz
 rw [h.rl,<-List.countP_eq_length_filter]
 refine List.countP_mono_left λy hy hs=>?_
 obtain ⟨h1,h2⟩:=Is.1 hy
 obtain ⟨t,ht⟩:=Option.isSome_iff_exists.1 hs
 obtain ⟨t1,t2,t3,_⟩:=h.rt _ _ ht
 refine decide_eq_true ?_
 refine Classical.byContradiction λhn=>?_
 have hy':y.toNat<i:=by omega
 have:=t1.inj hi (by omega:y.toNat<n) (by rw [t3,t2 _ hy'])
 omega
def fact:Nat->Nat
 |0=>1
 |n+1=>(n+1)*fact n
theorem vK: ∀n,1<=fact n
 |0=>Nat.le_refl _
 |n+1=>by have:=vK n;simp only [fact];exact Nat.le_trans this (Nat.le_mul_of_pos_left _ (by omega))
theorem DM {a b:Nat} (h:a<=b):fact a<=fact b:=by
 induction h with
 |refl=>exact Nat.le_refl _
 |step _ ih=>simp only [fact];exact Nat.le_trans ih (Nat.le_mul_of_pos_left _ (by omega))
theorem LK {n:Nat} {s:Da×Da} (hc:fj n n 0 s): ∀j,j<=n->Vi s.2 j*fact (n-j)<=fact n
 |0,_=>by simp [Vi]
 |j+1,hj=>by
  have ih:=LK hc j (by omega)
  have h1:=QU (by omega) (gM n 0 hc j (by omega) (by omega))
  have e:n-j=(n-(j+1))+1:=by omega
  simp only [Vi]
  rw [e] at ih h1
  simp only [fact] at ih
  rw [Nat.mul_assoc]
  exact Nat.le_trans (Nat.mul_le_mul_left _ (Nat.mul_le_mul_right _ h1)) ih
theorem EZ {n:Nat} (h2:n<=20) {s:Da×Da} (hc:fj n n 0 s) {j:Nat} (hj:j<=n):Vi s.2 j<=2432902008176640000:=by
 have h1:=LK hc j hj
 have h3:=vK (n-j)
 have h4:fact n<=2432902008176640000:=Nat.le_trans (DM h2) (by decide)
 have h5:Vi s.2 j*1<=Vi s.2 j*fact (n-j):=Nat.mul_le_mul_left _ h3
 omega
theorem RE (c:Int×List (List (Option (List Int)))×List (List (Option (List Int)))×Unit) (l:Int) (h:l=0/\ ∃N:Nat,(1<=N/\N<=20)/\c.1=N/\V N N 0 (c.2.1,c.2.2.1)):
  fnW Ts (look [(174,Ku),(82,Ic)]) ec Try.f155 (c,l,()) (λ(z:Int)=>z=(Vi c.2.2.1 c.1.toNat:Int)):=by
 obtain ⟨rfl,N,⟨h1,h2⟩,hN,v⟩:=h
 obtain ⟨n,G,T,⟨⟩⟩:=c
 dsimp only at hN v⊢
 subst hN
 refine Eq.mp (SE ((N:Int),G,T,()) 0 _) ?_
 obtain ⟨v1,v2,v3,v4⟩:=v
 dsimp only at v1 v2⊢
 rw [Int.toNat_natCast]
 refine Am N (λv=>v.2.1) (λj v=>v.1=(Vi T j:Int)) rfl rfl ?_
 rintro j ⟨o,i,⟨⟩⟩ K hj hi ho hK
 dsimp only at hi ho⊢
 subst hi ho
 refine Br.dec (λhl=>?_) λhl=>?_
 ·have hl:j<N:=by omega
  have hT:j<T.length:=by omega
  have Ql:=gM N 0 v3 j (by omega) (by omega)
  have hrl:=Ql.rl
  dsimp only at hrl
  rw [vR hT] at hrl
  refine ⟨_,Ap hT,_,if_pos (by show (T[j]).length<=20;omega),_,if_pos trivial,?_⟩
  rw [List.drop_zero,List.take_length,Al (by omega)]
  have hb:=EZ h2 v3 (j:=j+1) (by omega)
  simp only [Vi] at hb
  rw [vR hT] at hb
  have e:(Vi T j:Int)*((Hz T[j]).length:Int)=((Vi T j*(Hz T[j]).length:Nat):Int):=by push_cast;rfl
  show K (IntKind.i64.wrap ((Vi T j:Int)*((Hz T[j]).length:Int)),_,())
  rw [e,Bt (by omega) (by omega)]
  refine hK hl _ rfl ?_
  simp only [Vi]
  rw [vR hT]
 ·have:j=N:=by omega
  subst this
  rfl
theorem xo:Sound Try.prog 155 ec:=
 Sound.Cu ko (My eS (Ah Rd Aq)) mixed Try.func155 (by kernel_rfl) (by kernel_rfl) λx h=>RE x.1 x.2.1 h
theorem Cells.told {w:World} {S:Nat->Prop} {e:Ty} {cs:List Value} {xs:List e.den} (h:Cells w S (.slice e) cs xs): ∃o:Option (List e.den),Cells w S (.oslice e) cs o/\o.getD []=xs:=by
 simp only [Cells] at h
 obtain ⟨a,len,cap,rfl,h1,h2,h3⟩:=h
 cases a with
 |none=>
  rcases h3 with rfl|⟨g,o,h,_⟩
  ·refine ⟨none,?_,rfl⟩
   simp only [Cells]
   exact .inl ⟨trivial,cap,by rw [h1];rfl⟩
  ·cases h
 |some ad=>
  refine ⟨some xs,?_,rfl⟩
  simp only [Cells]
  exact .inr ⟨xs,ad,len,cap,rfl,rfl,h1,h2,h3.imp id λ⟨g,o,h,h4⟩=>⟨g,o,Option.some.inj h,h4⟩⟩
theorem y0 {α β:Type} (Q:Nat->α->β->Prop): ∀(xs:List α),(∀i x,xs[i]?=some x-> ∃y,Q i x y)-> ∃ys:List β,ys.length=xs.length/\ ∀i x y,xs[i]?=some x->ys[i]?=some y->Q i x y:=by
 intro xs h
 refine ⟨List.ofFn λi:Fin xs.length=>Classical.choose (h i xs[i] (List.getElem?_eq_getElem i.2)),by simp,λi x y h1 h2=>?_⟩
 obtain ⟨hi,rfl⟩:=List.getElem?_eq_some_iff.1 h1
 obtain ⟨eH,rfl⟩:=List.getElem?_eq_some_iff.1 h2
 rw [List.getElem_ofFn]
 exact Classical.choose_spec (h i xs[i] (List.getElem?_eq_getElem hi))
theorem Bd.Acv {w:World} {S:Nat->Prop} {e:Ty} {v:Value} {xs:List (List e.den)} (h:Bd w S (.slice (.slice e)) v xs): ∃os:List (Option (List e.den)),Bd w S (.slice (.oslice e)) v os/\os.map (·.getD [])=xs:=by
 obtain ⟨cs,hc,rfl⟩:=h
 simp only [Cells] at hc
 obtain ⟨a,len,cap,rfl,h1,h2,h3⟩:=hc
 rcases h3 with rfl|⟨g,o,rfl,hg,hS,h4⟩
 ·refine ⟨[],⟨_,?_,rfl⟩,rfl⟩
  simp only [Cells]
  exact ⟨a,len,cap,rfl,h1,h2, .inl trivial⟩
 ·obtain ⟨os,e1,e2⟩:=y0 (λi (x:List e.den) (y:Option (List e.den))=>y.getD []=x/\ ∃es:List Value,es.length=1/\(∀j u,es[j]?=some u->w.cell? ⟨g,o+i*1+j,none⟩=some u)/\Cells w S (.oslice e) es y) xs λi x hx=>by
   obtain ⟨es,k1,k2,k3⟩:=h4 i x hx
   obtain ⟨y,k4,k5⟩:=Cells.told (e:=e) (by simp only [Cells];exact k3)
   exact ⟨y,k5,es,k1,k2,k4⟩
  refine ⟨os,⟨_,?_,rfl⟩,?_⟩
  ·simp only [Cells]
   refine ⟨_,len,cap,rfl,by rw [h1,e1],h2, .inr ⟨g,o,rfl,hg,hS,λi y hy=>?_⟩⟩
   obtain ⟨hi,_⟩:=List.getElem?_eq_some_iff.1 hy
   obtain ⟨_,es,k1,k2,k3⟩:=e2 i _ y (List.getElem?_eq_getElem (by omega)) hy
   simp only [Cells] at k3
   exact ⟨es,k1,k2,k3⟩
  ·refine List.ext_getElem (by simp [e1]) λi g1 g2=>?_
   rw [List.getElem_map]
   exact (e2 i _ _ (List.getElem?_eq_getElem g2) (List.getElem?_eq_getElem (by omega))).1
theorem oe:Dp Try.prog 154 Qz:=by
 have h:=lH
 refine ⟨h.enter,λw S π us x r o g vs h1 hg h2 h3 hS h4 h5=>?_⟩
 obtain ⟨n,gens,⟨⟩⟩:=x
 match us,h2 with
 |u1::u2::us,h2=>
  obtain ⟨h6,⟨h7,h8⟩,h9⟩:=h2
  obtain ⟨os,kI,eD⟩:=Bd.Acv (e:=tI) h8
  have eD:os.map (·.getD [])=(gens:List (List Int)):=eD
  have sI:(1<=n/\n<=20)/\List.length gens<=4294967296/\ ∀g∈(gens:List (List Int)),Pm n.toNat g:=Classical.byContradiction λhn=>by
   have:Qz.fn (n,gens,())=none:=if_neg hn
   rw [this] at h5;cases h5
  have hos:os=gens.map some:=by
   rw [<-eD,List.map_map]
   refine (List.map_id os).symm.trans (List.map_congr_left λx hx=>?_)
   cases x with
   |some y=>rfl
   |none=>
    have:=sI.2.2 [] (by rw [<-eD];exact List.mem_map.2 ⟨none,hx,rfl⟩)
    have h1:=this.n1
    have h2:=this.1
    simp at h2
    omega
  have hv:Qz.fn (n,gens,())=some ((n,(Ti n gens).1,(Ti n gens).2,()),()):=if_pos sI
  rw [hv] at h5
  have h5:=Option.some.inj h5
  refine h.calls w S π (u1::u2::us) (n,os,()) r o g vs h1 hg ⟨h6,⟨h7,kI⟩,h9⟩ h3 hS h4 ?_
  refine (if_pos ⟨sI.1,by rw [hos,List.length_map];exact sI.2.1,λy hy=>?pp⟩).trans (congrArg some ?qq)
  case pp=>
   replace hy:y∈os:=hy
   rw [hos] at hy
   obtain ⟨g,hg,rfl⟩:=List.mem_map.1 hy
   exact ⟨g,rfl,sI.2.2 g hg⟩
  case qq=>subst hos;exact h5
theorem gL {p:PP} (hv:Valid p):(1<=p.1/\p.1<=20)/\List.length p.2.2.1<=4294967296/\ ∀g∈p.2.2.1,Pm p.1.toNat g:=
 ⟨hv.n,by have:=hv.oU;omega,λg hg=>⟨by have:=hv.len g hg;omega,cQ (hv.perm g hg)⟩⟩
theorem nN {n:Nat} {g:List (List Int)} (h: ∀x∈g,Pm n x):PmL n (g.map some):= λo ho=>by
 obtain ⟨x,hx,rfl⟩:=List.mem_map.1 ho
 exact ⟨x,rfl,h x hx⟩
theorem sl {p:PP} (hv:Valid p):V p.1.toNat p.1.toNat 0 (Ti p.1 p.2.2.1):=by
 have:=hv.n
 exact uQ (by omega) (by omega) (nN (gL hv).2.2)
theorem tA (p:PP) (h:Dg p):fnW Co (look [(130,Eu),(154,Qz),(155,ec)]) Me Try.f126 (p,()) (λ(z:Int)=>z=Pe p):=by
 refine Eq.mp (uJ p _) ⟨_,if_pos h,?_⟩
 show Br (!Ay p) _ _
 unfold Pe
 cases hv:Ay p with
 |false=>exact Br.of (λ_=>rfl) λhh=>by cases hh
 |true=>
  refine Br.of (λhh=>by cases hh) λ_=>?_
  have hV:=valid hv
  have hn:=hV.n
  refine ⟨_,if_pos (gL hV),_,if_pos ⟨rfl,p.1.toNat,⟨by omega,by omega⟩,(Int.toNat_of_nonneg (by omega:(0:Int)<=p.1)).symm,?vv⟩,?_⟩
  case vv=>
   simp only [List.drop_zero,List.take_length]
   exact sl hV
  simp only [List.drop_zero,List.take_length]
  exact (if_pos trivial).symm
theorem ke:Sound Try.prog 126 Me:=
 Sound.Cu Bj (Ah Ze (My oe (Ah xo Aq))) mixed Try.func126 (by kernel_rfl) (by kernel_rfl) λx h=>tA x.1 h
end Go.Proofs.Ytjbdmibbbpdnnaa

namespace Go.Proofs.Ytjbdmibbbpdnnaa
open Go.RowKit
theorem cN {α:Type} [DecidableEq α]: ∀ {l1 l2:List α},l1.Nodup->(∀x∈l1,x∈l2)->l1.length<=l2.length
 | [],_,_,_=>Nat.zero_le _
 |a::l,l2,hn,hs=>by
  obtain ⟨h1,h2⟩:=List.nodup_cons.1 hn
  have ha:=hs a (by simp)
  have:=cN (l1:=l) (l2:=l2.erase a) h2 λy hy=>by
   have hya:y≠a:= λe'=>h1 (by rw [<-e'];exact hy)
   exact (List.mem_erase_of_ne hya).2 (hs y (by simp [hy]))
  rw [List.length_erase_of_mem ha] at this
  have:=List.length_pos_of_mem ha
  simp only [List.length_cons]
  omega
def jF (n:Nat) (T:Da):Nat->Nat->List (List Int)
 |0,_=> [upto n]
 |k+1,l=>(Hz (T.getD l [])).flatMap λy=>(jF n T k (l+1)).map λq=>Aa q (((T.getD l []).getD y.toNat none).getD [])
def rj (T:Da):Nat->Nat->Nat
 |0,_=>1
 |k+1,l=>(Hz (T.getD l [])).length*rj T k (l+1)
theorem wD (n:Nat) (T:Da): ∀k l,(jF n T k l).length=rj T k l
 |0,_=>rfl
 |k+1,l=>by
  simp only [jF,rj,List.length_flatMap,List.length_map,wD n T k (l+1)]
  generalize Hz (T.getD l [])=o
  induction o with
  |nil=>simp
  |cons a o ih=>simp only [List.map_cons,List.sum_cons,ih,List.length_cons,Nat.succ_mul];omega
theorem r6 (T:Da): ∀k j,Vi T (j+k)=Vi T j*rj T k j
 |0,j=>by simp [rj]
 |k+1,j=>by
  have:=r6 T k (j+1)
  rw [show j+(k+1)=j+1+k by omega,this]
  simp only [Vi,rj]
  rw [Nat.mul_assoc]
theorem wS (n:Nat) (T:Da):(jF n T n 0).length=Vi T n:=by
 rw [wD,show Vi T n=Vi T (0+n) by rw [Nat.zero_add],r6]
 simp [Vi]
theorem nt {n:Nat} (h1:1<=n) (h2:n<=20) {s:Da×Da} : ∀(k l:Nat),l+k=n->fj n k l s-> ∀p,p∈jF n s.2 k l↔Pm n p/\Fx l p/\Jh s.2 k l p=true
 |0,l,hk,hc,p=>by
  have hl:l=n:=by omega
  subst hl
  simp only [jF,List.mem_singleton]
  exact ⟨λe=>by subst e;exact ⟨Pm.id h1 h2,λi hi=>ek hi,rfl⟩,λh=>h.2.1.all h.1⟩
 |k+1,l,hk,hc,p=>by
  obtain ⟨c1,c2,c3⟩:=hc
  have ih:=nt h1 h2 k (l+1) (by omega) c1
  have bg:l<n:=by omega
  simp only [jF,List.mem_flatMap,List.mem_map]
  constructor
  ·rintro ⟨y,hy,q,hq,rfl⟩
   obtain ⟨yn,rfl,TY⟩:=Ni.1 hy
   obtain ⟨t,ht⟩:=Option.ne_none_iff_exists'.1 TY
   obtain ⟨t1,t2,t3,t4⟩:=c2.rt _ _ ht
   obtain ⟨q1,q2,q3⟩:=(ih q).1 hq
   rw [Int.toNat_natCast,ht,Option.getD_some]
   have hap:ap (Aa q t) l=yn:=by rw [Gb q1 t1 bg,q2 l (by omega),t3]
   refine ⟨q1.comp t1,λi hi=>by rw [Gb q1 t1 (by omega),q2 i (by omega),t2 i hi],?_⟩
   simp only [Jh]
   rw [show (Cb (Aa q t) (l:Int)).toNat=ap (Aa q t) l from rfl,hap,ht]
   show Jh s.2 k (l+1) (Aa (Aa q t) (An t))=true
   rw [Ec q1 t1 t1.inv,c7 t1,comp_id q1]
   exact q3
  ·rintro ⟨p1,p2,p3⟩
   simp only [Jh] at p3
   rw [show (Cb p (l:Int)).toNat=ap p l from rfl] at p3
   split at p3
   ·cases p3
   ·rename_i t ht
    obtain ⟨t1,t2,t3,t4⟩:=c2.rt _ _ ht
    refine ⟨(ap p l:Int),Ni.2 ⟨ap p l,rfl,by rw [ht];simp⟩,Aa p (An t),(ih _).2 ⟨p1.comp t1.inv,Fx.div p1 t1 p2 t2 bg t3,p3⟩,?_⟩
    rw [Int.toNat_natCast,ht,Option.getD_some,Ec p1 t1.inv t1,Vd t1,comp_id p1]
theorem nu {n:Nat} (h1:1<=n) (h2:n<=20) {s:Da×Da} : ∀(k l:Nat),l+k=n->fj n k l s->(jF n s.2 k l).Nodup
 |0,l,hk,hc=>by simp [jF]
 |k+1,l,hk,hc=>by
  obtain ⟨c1,c2,c3⟩:=hc
  have ih:=nu h1 h2 k (l+1) (by omega) c1
  have hm:=nt h1 h2 k (l+1) (by omega) c1
  have bg:l<n:=by omega
  have rep: ∀y∈Hz (s.2.getD l []),∃(yn:Nat) (t:List Int),y=yn/\((s.2.getD l []).getD y.toNat none).getD []=t/\Pm n t/\ap t l=yn:= λy hy=>by
   obtain ⟨yn,rfl,TY⟩:=Ni.1 hy
   obtain ⟨t,ht⟩:=Option.ne_none_iff_exists'.1 TY
   obtain ⟨t1,t2,t3,t4⟩:=c2.rt _ _ ht
   exact ⟨yn,t,rfl,by rw [Int.toNat_natCast,ht];rfl,t1,t3⟩
  simp only [jF]
  refine List.pairwise_flatMap.2 ⟨λy hy=>?_,?_⟩
  ·obtain ⟨yn,t,rfl,e,t1,t3⟩:=rep y hy
   rw [e]
   refine List.pairwise_map.2 (List.Pairwise.imp_of_mem ?_ ih)
   intro a b ha hb Ex he
   have ha:=((hm a).1 ha).1
   have hb:=((hm b).1 hb).1
   have h3:=congrArg (λz=>Aa z (An t)) he
   simp only [Ec ha t1 t1.inv,Ec hb t1 t1.inv,c7 t1,comp_id ha,comp_id hb] at h3
   exact Ex h3
  ·refine List.Pairwise.imp_of_mem ?_ ((oN _).filter _)
   intro y z hy hz Ex a ha b hb he
   obtain ⟨yn,t,rfl,e,t1,t3⟩:=rep y hy
   obtain ⟨zn,u,rfl,e',u1,u3⟩:=rep z hz
   rw [e] at ha
   rw [e'] at hb
   obtain ⟨q,hq,rfl⟩:=List.mem_map.1 ha
   obtain ⟨q',dP,rfl⟩:=List.mem_map.1 hb
   obtain ⟨a1,a2,_⟩:=(hm q).1 hq
   obtain ⟨b1,b2,_⟩:=(hm q').1 dP
   have h3:=congrArg (λz=>ap z l) he
   simp only [Gb a1 t1 bg,Gb b1 u1 bg,a2 l (by omega),b2 l (by omega),t3,u3] at h3
   exact Ex (by rw [h3])
theorem je {g:List (List Int)} (Q:List Int->Prop) {x:List Int} {d:Int} : ∀(ls:List Int) (L:List (List Int)) (D:List Int),(∀l∈ls,Q (Aa x (Af g l)))->(∀y∈L,Q y)->
  (∀y∈(Ey g x d ls L D).1,Q y)/\(∀y∈L,y∈(Ey g x d ls L D).1)/\((Ey g x d ls L D).2.2=true-> ∀l∈ls,Aa x (Af g l)∈(Ey g x d ls L D).1)/\
   ((Ey g x d ls L D).2.2=false->(Ey g x d ls L D).1.length=3000/\ ∃z,Q z/\z∉(Ey g x d ls L D).1)
 | [],L,D,_,h=>⟨h,λ_ h=>h,(λ_ l hl=>by cases hl),(λe=>by cases e)⟩
 |l::ls,L,D,hq,h=>by
  have dP: ∀l∈ls,Q (Aa x (Af g l)):= λl' h'=>hq l' (List.mem_cons_of_mem _ h')
  simp only [Ey]
  split
  ·rename_i hm
   obtain ⟨a1,a2,a3,a4⟩:=je Q (d:=d) ls L D dP h
   refine ⟨a1,a2,λe l' Gk=>?_,a4⟩
   rcases List.mem_cons.1 Gk with rfl|Gk
   ·exact a2 _ hm
   ·exact a3 e l' Gk
  ·rename_i hn
   split
   ·rename_i hf
    exact ⟨h,λ_ h=>h,(λe=>by cases e),λ_=>⟨hf,_,hq l (by simp),hn⟩⟩
   ·obtain ⟨a1,a2,a3,a4⟩:=je Q (d:=d) ls (L++ [Aa x (Af g l)]) (D++ [d+1]) dP λy hy=>by
     rcases List.mem_append.1 hy with hy|hy
     ·exact h y hy
     ·rw [List.mem_singleton.1 hy];exact hq l (by simp)
    refine ⟨a1,λy hy=>a2 y (List.mem_append_left _ hy),λe l' Gk=>?_,a4⟩
    rcases List.mem_cons.1 Gk with rfl|Gk
    ·exact a2 _ (List.mem_append_right _ (by simp))
    ·exact a3 e l' Gk
theorem qk {p:PP} (hV:Valid p) {m:Nat} {ls:List Int} (hl: ∀l∈ls,Er (List.length p.2.2.1) l) (Q:List Int->Prop) (hQ: ∀x,Q x-> ∀l∈ls,Q (Aa x (Af p.2.2.1 l))):
  ∀(f k:Nat) (L:List (List Int)) (D:List Int),3001<=f+k->k<=L.length->Ot p m L D->(∀y∈L,Q y)->(∀(j:Nat) (h:j<L.length),j<k-> ∀l∈ls,Aa L[j] (Af p.2.2.1 l)∈L)->
  (∀y∈(Gs p.2.2.1 ls f k L D).1,Q y)/\((Gs p.2.2.1 ls f k L D).2.2=true-> ∀x∈(Gs p.2.2.1 ls f k L D).1,∀l∈ls,Aa x (Af p.2.2.1 l)∈(Gs p.2.2.1 ls f k L D).1)/\
   ((Gs p.2.2.1 ls f k L D).2.2=false->(Gs p.2.2.1 ls f k L D).1.length=3000/\ ∃z,Q z/\z∉(Gs p.2.2.1 ls f k L D).1)
 |0,k,L,D,hf,TI,hb,hq,hc=>by
  have:=hb.ok.oU
  omega
 |f+1,k,L,D,hf,TI,hb,hq,hc=>by
  simp only [Gs]
  split
  ·rename_i hk
   have DV:k<D.length:=by rw [hb.len];exact hk
   have hd:=hb.dep k DV
   have e:D.getD k 0=D[k]:=by rw [List.getD_eq_getElem?_getD,List.getElem?_eq_getElem DV];rfl
   rw [Ox hk,e]
   obtain ⟨k1,⟨A,k2⟩,_⟩:=gJ hV (hb.row _ (List.getElem_mem hk)) (hb.ok.len _ (List.getElem_mem hk)) (d:=D[k]) ls L D hl hb ⟨by omega,by omega⟩
   obtain ⟨a1,a2,a3,a4⟩:=je (g:=p.2.2.1) Q (x:=L[k]) (d:=D[k]) ls L D (hQ _ (hq _ (List.getElem_mem hk))) hq
   split
   ·rename_i L' D' he
    rw [he] at k1 k2 a1 a2 a3 a4
    have k2:L'=L++A:=k2
    refine qk hV hl Q hQ f (k+1) L' D' (by omega) (by rw [k2,List.length_append];omega) k1 a1 λj hj hjk l Gk=>?_
    by_cases e':j<k
    ·have e2:L'[j]=L[j]:=by simp only [k2];rw [List.getElem_append_left (by omega)]
     rw [e2];exact a2 _ (hc j (by omega) e' l Gk)
    ·have:j=k:=by omega
     subst this
     have e2:L'[j]=L[j]:=by simp only [k2];rw [List.getElem_append_left (by omega)]
     rw [e2];exact a3 rfl l Gk
   ·rename_i L' D' he
    rw [he] at a1 a4
    exact ⟨a1,(λe=>by cases e),λ_=>a4 rfl⟩
  ·rename_i hk
   refine ⟨hq,λ_ x hx l Gk=>?_,λe=>by cases e⟩
   obtain ⟨j,hj,rfl⟩:=List.mem_iff_getElem.1 hx
   have hj:j<L.length:=hj
   exact hc j hj (by omega) l Gk
theorem AX {p:PP} (hv:Ay p=true) {s:List Int} (hs:s.length<=20) (hr: ∀y∈s,0<=y/\y<p.1) (Q:List Int->Prop) (hQs:Q s) (hQ: ∀x,Q x-> ∀l∈Ag p.2.2.1.length,Q (Aa x (Af p.2.2.1 l))):
  (∀y∈(Dr p.2.2.1 s).1,Q y)/\((Dr p.2.2.1 s).2.2=true-> ∀x∈(Dr p.2.2.1 s).1,∀l∈Ag p.2.2.1.length,Aa x (Af p.2.2.1 l)∈(Dr p.2.2.1 s).1)/\
   ((Dr p.2.2.1 s).2.2=false->(Dr p.2.2.1 s).1.length=3000/\ ∃z,Q z/\z∉(Dr p.2.2.1 s).1):=
 qk (valid hv) (λ_ hl=>Ir hl) Q hQ 3001 0 [s] [0] (by omega) (Nat.zero_le _) (dG hs hr) (λy hy=>by rw [List.mem_singleton.1 hy];exact hQs) λj _ hj=>absurd hj (Nat.not_lt_zero _)
theorem iN {g:List (List Int)} {x:List Int} :some x∈g.map some↔x∈g:=by simp
theorem yZ {n:Nat} {g:List (List Int)} {x:List Int} (h:Gn n (g.map some) x) {l:Int} (hl:l∈Ag g.length):Gn n (g.map some) (Aa x (Af g l)):=by
 obtain ⟨k,hk,rfl|rfl⟩:=Ma (Ir hl)
 ·rw [Lo hk];exact .mul h (iN.2 (List.getElem_mem hk))
 ·rw [Ln hk];exact .inv h (iN.2 (List.getElem_mem hk))
theorem Wl {n k:Nat} (hk:k<n):(k:Int)+1∈Ag n/\ -((k:Int)+1)∈Ag n:=by
 unfold Ag
 exact ⟨List.mem_flatMap.2 ⟨k,List.mem_range.2 hk,by simp⟩,List.mem_flatMap.2 ⟨k,List.mem_range.2 hk,by simp⟩⟩
theorem yB {n:Nat} {g:List (List Int)} {L:List (List Int)} (h0:upto n∈L) (hc: ∀x∈L,∀l∈Ag g.length,Aa x (Af g l)∈L) {p:List Int} (hp:Gn n (g.map some) p):p∈L:=by
 induction hp with
 |id=>exact h0
 |mul _ hg ih=>
  obtain ⟨k,hk,rfl⟩:=List.mem_iff_getElem.1 (iN.1 hg)
  have:=hc _ ih _ (Wl hk).1
  rwa [Lo hk] at this
 |inv _ hg ih=>
  obtain ⟨k,hk,rfl⟩:=List.mem_iff_getElem.1 (iN.1 hg)
  have:=hc _ ih _ (Wl hk).2
  rwa [Ln hk] at this
structure Reach (p:PP) (L:List (List Int)) (D:List Int) (whole:Bool):Prop where
 ok:Ot p p.1.toNat L D
 nodup:L.Nodup
 first: ∃A,L=upto p.1.toNat::A
 gen: ∀x∈L,Gn p.1.toNat (p.2.2.1.map some) x
 all:whole=true-> ∀x,Gn p.1.toNat (p.2.2.1.map some) x->x∈L
 big:whole=false->L.length=3000/\ ∃z,Gn p.1.toNat (p.2.2.1.map some) z/\z∉L
theorem Cv.nodup {m:Nat} {L:List (List Int)} {Hv:List Int} (h:Cv m L Hv):L.Nodup:=
 List.pairwise_iff_getElem.2 λi j hi hj jv e=>by have:=h.inj hi hj e;omega
theorem Yw {p:PP} (hv:Ay p=true):Reach p (Dr p.2.2.1 (upto p.1.toNat)).1 (Dr p.2.2.1 (upto p.1.toNat)).2.1 (Dr p.2.2.1 (upto p.1.toNat)).2.2:=by
 have hV:=valid hv
 have hn:=hV.n
 have hl:(upto p.1.toNat).length=p.1.toNat:=Pr _
 have hr: ∀y∈upto p.1.toNat,0<=y/\y<p.1:= λy hy=>by have:=Is.1 hy;omega
 obtain ⟨b1,b2⟩:=sd hv (by omega) hr
 rw [hl] at b1
 obtain ⟨a1,a2,a3⟩:=AX hv (by omega) hr (λx=>Gn p.1.toNat (p.2.2.1.map some) x) .id λx hx l hl=>yZ hx hl
 exact ⟨b1,b1.ok.nodup,b2,a1,λhw x hx=>yB (by obtain ⟨A,e⟩:=b2;rw [e];simp) (a2 hw) hx,a3⟩
theorem Wo {p:PP} (hV:Valid p) {x:List Int} :x∈jF p.1.toNat (Ti p.1 p.2.2.1).2 p.1.toNat 0↔Gn p.1.toNat (p.2.2.1.map some) x:=by
 have hn:=hV.n
 have hg:=nN (gL hV).2.2
 have hS:AQ p.1.toNat λg=>some g∈p.2.2.1.map some:=⟨⟨by omega,by omega⟩,λg Zj=>by obtain ⟨g',e,h⟩:=hg _ Zj;cases e;exact h⟩
 refine (nt (by omega) (by omega) _ 0 (by omega) (sl hV).2.2.1 x).trans ⟨λh=>(mQ (by omega) (by omega) hg h.1).1 h.2.2,λh=>?_⟩
 have hp:=Xv.pm hS h
 exact ⟨hp,λi hi=>absurd hi (Nat.not_lt_zero _),(mQ (by omega) (by omega) hg hp).2 h⟩
theorem pw {p:PP} (hV:Valid p):(jF p.1.toNat (Ti p.1 p.2.2.1).2 p.1.toNat 0).Nodup:=by
 have hn:=hV.n
 exact nu (by omega) (by omega) _ 0 (by omega) (sl hV).2.2.1
theorem count_eq {p:PP} (hv:Ay p=true):Pe p=((jF p.1.toNat (Ti p.1 p.2.2.1).2 p.1.toNat 0).length:Int):=by
 unfold Pe
 rw [if_pos hv,wS]
theorem vA {p:PP} (hv:Ay p=true):(Dr p.2.2.1 (upto p.1.toNat)).2.2=decide (1<=Pe p/\Pe p<=3000):=by
 have hV:=valid hv
 have h:=Yw hv
 rw [count_eq hv]
 have pj:=pw hV
 have h1:=cN h.nodup λx hx=>(Wo hV).2 (h.gen x hx)
 obtain ⟨A,hA⟩:=h.first
 have nc:1<=(Dr p.2.2.1 (upto p.1.toNat)).1.length:=by rw [hA];simp
 cases hw:(Dr p.2.2.1 (upto p.1.toNat)).2.2 with
 |true=>
  have h2:=cN pj λx hx=>h.all hw x ((Wo hV).1 hx)
  have h3:=h.ok.ok.oU
  exact (decide_eq_true ⟨by omega,by omega⟩).symm
 |false=>
  obtain ⟨h2,z,h3,h4⟩:=h.big hw
  have h5:=cN (l1:=z::(Dr p.2.2.1 (upto p.1.toNat)).1) (List.nodup_cons.2 ⟨h4,h.nodup⟩) λx hx=>by
   rcases List.mem_cons.1 hx with rfl|hx
   ·exact (Wo hV).2 h3
   ·exact (Wo hV).2 (h.gen x hx)
  simp only [List.length_cons] at h5
  exact (decide_eq_false (by omega)).symm
end Go.Proofs.Ytjbdmibbbpdnnaa

namespace Go.Proofs.Ytjbdmibbbpdnnaa
open Go.RowKit
def td (g:List (List Int)) (s:List Int):List (List Int):=(Ag g.length).map λl=>Aa s (Af g l)
noncomputable abbrev eb:Spec:=Cu (.pair Dc (.pair tL .unit)) bC false true (λx=>Ay x.1=true/\List.length x.2.1<=20/\ ∀y∈x.2.1,0<=y/\y<x.1.1) (λx=>td x.1.2.2.1 x.2.1)
abbrev EX:Type:=List (List Int)×List Int×List Int×List Int
def Vx (g:List (List Int)) (k:Int) (x:List Int) (d:Int):List Int->EX->List Int->EX×List Int
 | [],s,row=>(s,row)
 |l::ls,s,row=>if Aa x (Af g l)∈s.1 then Vx g k x d ls s (row++ [(s.1.idxOf (Aa x (Af g l)):Int)])
  else Vx g k x d ls (s.1++ [Aa x (Af g l)],s.2.1++ [d+1],s.2.2.1++ [k],s.2.2.2++ [l]) (row++ [(s.1.length:Int)])
def Xh (g:List (List Int)) (ls:List Int):Nat->Nat->EX->List (List Int)->EX×List (List Int)
 |0,_,s,N=>(s,N)
 |f+1,k,s,N=>if k<s.1.length then Xh g ls f (k+1) (Vx g (k:Int) (s.1.getD k []) (s.2.1.getD k 0) ls s []).1 (N++ [(Vx g (k:Int) (s.1.getD k []) (s.2.1.getD k 0) ls s []).2]) else (s,N)
def cF (key:ByteArray):List (List Int)->Nat->Option Int
 | [],_=>none
 |x::r,i=>if Mj x=key then some (i:Int) else cF key r (i+1)
def Ro (L:List (List Int)):ByteArray->Option Int:= λkey=>cF key L 0
def ZU (p:PP) (r:EX×List (List Int)):Wv.den:=(p,r.1.1,r.1.2.1,Ro r.1.1,r.1.2.2.1,r.1.2.2.2,r.2,())
def Ib (p:PP):Wv.den:=ZU p (Xh p.2.2.1 (Ag p.2.2.1.length) 3001 0 ([upto p.1.toNat],[0],[0],[0]) [])
noncomputable def Bi (p:PP):Bool:=Ay p&&(Dr p.2.2.1 (upto p.1.toNat)).2.2
noncomputable abbrev Og:Spec:=Cu (.pair Dc .unit) (.pair (.optr Wv) (.pair .bool .unit)) true false (λx=>Dg x.1) (λx=>if Bi x.1=true then (some (Ib x.1),true,()) else (none,false,()))
abbrev xu:Type:=Int×Int×ByteArray×List (List Int)×List (List Int)×PUnit
theorem SD (p:Int×ByteArray×List (List Int)×Unit) (s:List Int) (P:List (List Int)->Prop):(∃(y3:List Int),Ih.fn ((↑p.2.2.1.length:Int),())=some y3/\0=0/\0=([]:List Int).length/\Bn (λ(v4:xu) (k5:xu->Prop)=>Br (decide (v4.1<(↑y3.length:Int))) (∃(y6:Int),idx y3 v4.1=some y6/\ ∃(y7:List Int),Qy.fn (v4.2.2.2.1,y6,())=some y7/\ ∃(y8:List Int),Ub.fn (s,y7,())=some y8/\0=0/\v4.2.2.2.2.1.length=v4.2.2.2.2.1.length/\v4.2.2.2.2.1.length+(List.take 1 (List.drop 0 [y8])).length<=Bp/\0=0/\(v4.2.2.2.2.1++List.take 1 (List.drop 0 [y8])).length=(v4.2.2.2.2.1++List.take 1 (List.drop 0 [y8])).length/\k5 (IntKind.i64.wrap (v4.1+(1:Int)),v4.2.1,v4.2.2.1,v4.2.2.2.1,v4.2.2.2.2.1++List.take 1 (List.drop 0 [y8]),())) (P (List.take v4.2.2.2.2.1.length (List.drop 0 v4.2.2.2.2.1)))) ((0:Int),p.1,p.2.1,p.2.2.1,[],PUnit.unit))=fnW Co (look [(117,Ih),(157,Qy),(156,Ub)]) eb Try.f129 (p,s,()) P:=by kernel_rfl
theorem RD (p:PP) (s:List Int) (h:Ay p=true/\s.length<=20/\ ∀y∈s,0<=y/\y<p.1):fnW Co (look [(117,Ih),(157,Qy),(156,Ub)]) eb Try.f129 (p,s,()) (λ(z:List (List Int))=>z=td p.2.2.1 s):=by
 obtain ⟨hv,hs,hr⟩:=h
 have hV:=valid hv
 have hf:=hV.oU
 refine Eq.mp (SD p s _) ⟨Ag p.2.2.1.length,if_pos ⟨Int.natCast_nonneg _,by show ((p.2.2.1.length:Nat):Int)<=8;omega⟩,rfl,rfl,?_⟩
 have hL:=Ks p.2.2.1.length
 refine Am (Ag p.2.2.1.length).length (λv=>v.1) (λj v=>v=((j:Int),p.1,p.2.1,p.2.2.1,((Ag p.2.2.1.length).take j).map (λl=>Aa s (Af p.2.2.1 l)),())) rfl (by simp) ?_
 rintro j v K hj hi rfl hK
 dsimp only
 refine Br.dec (λhl=>?_) λhl=>?_
 ·have hl:j<(Ag p.2.2.1.length).length:=by omega
  have ZA:=Ir (List.getElem_mem hl)
  obtain ⟨h1,h2⟩:=jB hV ZA
  refine ⟨_,Ap hl,_,if_pos ⟨ZA,hf.2,hV.perm⟩,_,if_pos ⟨hs,λy hy=>by have:=hr y hy;show 0<=y/\y<((Af p.2.2.1 (Ag p.2.2.1.length)[j]).length:Int);omega⟩,rfl,rfl,?_,rfl,rfl,?_⟩
  ·show (((Ag p.2.2.1.length).take j).map _).length+1<=4294967296
   rw [List.length_map,List.length_take]
   omega
  ·rw [Al (by omega)]
   refine hK hl _ rfl ?_
   have e:(Ag p.2.2.1.length).take (j+1)=(Ag p.2.2.1.length).take j++ [(Ag p.2.2.1.length)[j]]:=by
    rw [List.take_add_one,List.getElem?_eq_getElem hl,Option.toList_some]
   rw [e,List.map_append]
   rfl
 ·have:j=(Ag p.2.2.1.length).length:=by omega
  subst this
  rw [List.drop_zero,List.take_length,List.take_length]
  rfl
theorem xm:Sound Try.prog 129 eb:=
 Sound.Cu Bj (Ah Xq (Ah od (Ah Po Aq))) mixed Try.func129 (by kernel_rfl) (by kernel_rfl) λx h=>RD x.1 x.2.1 h
end Go.Proofs.Ytjbdmibbbpdnnaa

namespace Go.Proofs.Ytjbdmibbbpdnnaa
open Go.RowKit
theorem Ff {α:Type} {xs ys:List α} {i:Nat} {d:α} (h:i<xs.length):(xs++ys).getD i d=xs.getD i d:=by
 rw [List.getD_eq_getElem?_getD,List.getD_eq_getElem?_getD,List.getElem?_append_left h]
theorem dK {α:Type} {xs:List α} {x d:α} :(xs++ [x]).getD xs.length d=x:=by
 rw [List.getD_eq_getElem?_getD,List.getElem?_append_right (Nat.le_refl _),Nat.sub_self];rfl
theorem Cw {α:Type} {xs:List α} {i:Nat} {d:α} (h:i<xs.length):xs.getD i d=xs[i]:=by
 rw [List.getD_eq_getElem?_getD,List.getElem?_eq_getElem h];rfl
structure Lv (g:List (List Int)) (ls:List Int) (k:Nat) (L:List (List Int)) (D:List Int):Prop where
 len:D.length=L.length
 pos:0<L.length
 mono: ∀i j,i<=j->j<L.length->D.getD i 0<=D.getD j 0
 ET:k<L.length-> ∀j,j<L.length->D.getD j 0<=D.getD k 0+1
 par: ∀j,0<j->j<L.length-> ∃i l,i<j/\l∈ls/\L.getD j []=Aa (L.getD i []) (Af g l)/\D.getD j 0=D.getD i 0+1
 zero:D.getD 0 0=0
theorem Lv.add {g:List (List Int)} {ls:List Int} {k:Nat} {L:List (List Int)} {D:List Int} (h:Lv g ls k L D) (hk:k<L.length) {l:Int} (hl:l∈ls):
  Lv g ls k (L++ [Aa (L.getD k []) (Af g l)]) (D++ [D.getD k 0+1]):=by
 have hlen:=h.len
 have hD: ∀i,i<L.length->(D++ [D.getD k 0+1]).getD i 0=D.getD i 0:= λi hi=>Ff (by omega)
 have SW:(D++ [D.getD k 0+1]).getD L.length 0=D.getD k 0+1:=by rw [<-hlen];exact dK
 refine ⟨by simp [hlen],by simp,λi j jv hj=>?_,λ_ j hj=>?_,λj h0 hj=>?_,?_⟩
 ·rw [List.length_append,List.length_singleton] at hj
  by_cases e:j=L.length
  ·subst e
   rw [SW]
   by_cases e':i=L.length
   ·subst e';rw [SW];exact Int.le_refl _
   ·rw [hD i (by omega)]
    exact h.ET hk i (by omega)
  ·rw [hD i (by omega),hD j (by omega)]
   exact h.mono i j jv (by omega)
 ·rw [List.length_append,List.length_singleton] at hj
  rw [hD k hk]
  by_cases e:j=L.length
  ·subst e;rw [SW];exact Int.le_refl _
  ·rw [hD j (by omega)];exact h.ET hk j (by omega)
 ·rw [List.length_append,List.length_singleton] at hj
  by_cases e:j=L.length
  ·subst e
   exact ⟨k,l,hk,hl,by rw [dK,Ff hk],by rw [SW,hD k hk]⟩
  ·obtain ⟨i,l',h1,h2,h3,h4⟩:=h.par j h0 (by omega)
   exact ⟨i,l',h1,h2,by rw [Ff (by omega),Ff (by omega)];exact h3,by rw [hD j (by omega),hD i (by omega)];exact h4⟩
 ·rw [hD 0 h.pos];exact h.zero
theorem mu {g:List (List Int)} {ls:List Int} {k:Nat} : ∀(CH:List Int) (L:List (List Int)) (D:List Int),(∀l∈CH,l∈ls)->Lv g ls k L D->k<L.length-> ∀ {x:List Int} {d:Int},x=L.getD k []->d=D.getD k 0->
  Lv g ls k (Ey g x d CH L D).1 (Ey g x d CH L D).2.1/\(∃A,(Ey g x d CH L D).1=L++A)/\(∃A,(Ey g x d CH L D).2.1=D++A)/\
  ((Ey g x d CH L D).2.2=true-> ∀l∈CH,∃j,j<(Ey g x d CH L D).1.length/\(Ey g x d CH L D).1.getD j []=Aa x (Af g l)/\(Ey g x d CH L D).2.1.getD j 0<=d+1)
 | [],L,D,_,h,_,x,d,_,_=>⟨h,⟨[],by simp [Ey]⟩,⟨[],by simp [Ey]⟩,λ_ l hl=>by cases hl⟩
 |l::CH,L,D,hs,h,hk,x,d,hx,hd=>by
  have qJ: ∀l∈CH,l∈ls:= λl' h'=>hs l' (List.mem_cons_of_mem _ h')
  have hlen:=h.len
  simp only [Ey]
  split
  ·rename_i hm
   obtain ⟨a1,⟨A,a2⟩,⟨A',a3⟩,a4⟩:=mu CH L D qJ h hk hx hd
   refine ⟨a1,⟨A,a2⟩,⟨A',a3⟩,λe l' Gk=>?_⟩
   rcases List.mem_cons.1 Gk with rfl|Gk
   ·obtain ⟨j,hj,hjx⟩:=List.mem_iff_getElem.1 hm
    refine ⟨j,by rw [a2,List.length_append];omega,by rw [a2,Ff hj,Cw hj];exact hjx,?_⟩
    rw [a3,Ff (by omega),hd]
    exact h.ET hk j hj
   ·exact a4 e l' Gk
  ·split
   ·exact ⟨h,⟨[],by simp⟩,⟨[],by simp⟩,λe=>by cases e⟩
   ·have yC:=h.add hk (hs l (by simp))
    rw [<-hx,<-hd] at yC
    obtain ⟨a1,⟨A,a2⟩,⟨A',a3⟩,a4⟩:=mu CH (L++ [Aa x (Af g l)]) (D++ [d+1]) qJ yC (by rw [List.length_append];omega) (x:=x) (d:=d) (by rw [Ff hk];exact hx) (by rw [Ff (by omega)];exact hd)
    refine ⟨a1,⟨_::A,by rw [a2,List.append_assoc];rfl⟩,⟨_::A',by rw [a3,List.append_assoc];rfl⟩,λe l' Gk=>?_⟩
    rcases List.mem_cons.1 Gk with rfl|Gk
    ·refine ⟨L.length,by rw [a2,List.length_append,List.length_append];simp only [List.length_singleton];omega,?_,?_⟩
     ·rw [a2,Ff (by simp),dK]
     ·rw [a3,Ff (by simp [hlen]),<-hlen,dK]
      exact Int.le_refl _
    ·exact a4 e l' Gk
structure j9 (g:List (List Int)) (ls:List Int) (L:List (List Int)) (D:List Int):Prop where
 len:D.length=L.length
 pos:0<L.length
 zero:D.getD 0 0=0
 par: ∀j,0<j->j<L.length-> ∃i l,i<j/\l∈ls/\L.getD j []=Aa (L.getD i []) (Af g l)/\D.getD j 0=D.getD i 0+1
 step: ∀i,i<L.length-> ∀l∈ls,∃j,j<L.length/\L.getD j []=Aa (L.getD i []) (Af g l)/\D.getD j 0<=D.getD i 0+1
theorem vd {g:List (List Int)} {ls:List Int} : ∀(f k:Nat) (L:List (List Int)) (D:List Int),3001<=f+k->Lv g ls k L D->k<=L.length->
  (∀i,i<k-> ∀l∈ls,∃j,j<L.length/\L.getD j []=Aa (L.getD i []) (Af g l)/\D.getD j 0<=D.getD i 0+1)->
  (Gs g ls f k L D).2.2=true->(Gs g ls f k L D).1.length<=3000->j9 g ls (Gs g ls f k L D).1 (Gs g ls f k L D).2.1
 |0,k,L,D,hf,h,TI,hc,hw,h3=>by
  simp only [Gs] at h3⊢
  omega
 |f+1,k,L,D,hf,h,TI,hc,hw,h3=>by
  simp only [Gs] at hw h3⊢
  split
  ·rename_i hk
   rw [if_pos hk] at hw h3
   obtain ⟨a1,⟨A,a2⟩,⟨A',a3⟩,a4⟩:=mu (x:=L.getD k []) (d:=D.getD k 0) ls L D (λ_ h=>h) h hk rfl rfl
   have hlen:=h.len
   split
   ·rename_i L' D' he
    rw [he] at a1 a2 a3 a4
    simp only [he] at hw h3
    have a2:L'=L++A:=a2
    have a3:D'=D++A':=a3
    have a4:=a4 rfl
    dsimp only at a4
    have hLl:L.length<=L'.length:=by rw [a2,List.length_append];omega
    refine vd f (k+1) L' D' (by omega) ⟨a1.len,a1.pos,a1.mono,λhk1 j hj=>?_,a1.par,a1.zero⟩ (by omega) (λi hi l hl=>?_) hw h3
    ·have h1:D'.getD j 0<=D'.getD k 0+1:=a1.ET (show k<L'.length by omega) j hj
     have h2:D'.getD k 0<=D'.getD (k+1) 0:=a1.mono k (k+1) (by omega) hk1
     omega
    ·by_cases e:i=k
     ·subst e
      obtain ⟨j,b1,b2,b3⟩:=a4 l hl
      refine ⟨j,b1,?_,?_⟩
      ·rw [b2,a2,Ff (by omega)]
      ·rw [show D'.getD i 0=D.getD i 0 by rw [a3,Ff (by omega)]];exact b3
     ·obtain ⟨j,b1,b2,b3⟩:=hc i (by omega) l hl
      refine ⟨j,by omega,?_,?_⟩
      ·rw [a2,Ff (by omega),Ff (by omega)];exact b2
      ·rw [a3,Ff (by omega),Ff (by omega)];exact b3
   ·rename_i L' D' he
    simp only [he] at hw
    cases hw
  ·rename_i hk
   exact ⟨h.len,h.pos,h.zero,h.par,λi hi=>hc i (by have hi:i<L.length:=hi;omega)⟩
theorem fw {p:PP} {s:List Int} (hv:Ay p=true) (hs:s.length<=20) (hr: ∀y∈s,0<=y/\y<p.1) (hw:(Dr p.2.2.1 s).2.2=true):
  j9 p.2.2.1 (Ag p.2.2.1.length) (Dr p.2.2.1 s).1 (Dr p.2.2.1 s).2.1:=by
 have hb:=(sd hv hs hr).1.ok.oU
 refine vd 3001 0 [s] [0] (by omega) ⟨rfl,by simp,λi j jv hj=>?_,λ_ j hj=>?_,λj h0 hj=>?_,rfl⟩ (Nat.zero_le _) (λi hi=>absurd hi (Nat.not_lt_zero _)) hw hb
 ·have:j=0:=by simpa using hj
  subst this
  have:i=0:=by omega
  subst this
  exact Int.le_refl _
 ·have:j=0:=by simpa using hj
  subst this
  simp
 ·have:j=0:=by simpa using hj
  omega
theorem kP {p:PP} (hV:Valid p) {x:List Int} (hx: ∀y∈x,0<=y/\y<p.1) {l:Int} (hl:l∈Ag p.2.2.1.length):
  -l∈Ag p.2.2.1.length/\Aa (Aa x (Af p.2.2.1 l)) (Af p.2.2.1 (-l))=x:=by
 obtain ⟨k,hk,Ja⟩:=Ma (Ir hl)
 have hg:=cQ (hV.perm _ (List.getElem_mem hk))
 have hgl:=hV.len _ (List.getElem_mem hk)
 have hn:=hV.n
 have hp:Pm p.1.toNat (p.2.2.1[k]):=⟨by omega,hg⟩
 have key: ∀q r:List Int,Pm p.1.toNat q->Pm p.1.toNat r->Aa q r=upto p.1.toNat->Aa (Aa x q) r=x:= λq r hq hr he=>by
  refine List.ext_getElem (by rw [Nx,Nx]) λi h1 h2=>?_
  have hxi:=hx _ (List.getElem_mem h2)
  obtain ⟨xi,hxe⟩:=Int.eq_ofNat_of_zero_le hxi.1
  have CC:xi<p.1.toNat:=by omega
  have e1:ap (Aa q r) xi=ap (upto p.1.toNat) xi:=congrArg (λz=>ap z xi) he
  rw [Gb hq hr CC,ek CC] at e1
  simp only [Aa,List.getElem_map,hxe]
  have h3:=(hq.Rx CC).1
  have h4:=(hr.Rx (hq.lt CC)).1
  rw [h3,h4,e1]
 rcases Ja with rfl|rfl
 ·refine ⟨(Wl hk).2,?_⟩
  rw [Lo hk,Ln hk]
  exact key _ _ hp hp.inv (c7 hp)
 ·refine ⟨by rw [Int.neg_neg];exact (Wl hk).1,?_⟩
  rw [Int.neg_neg,Lo hk,Ln hk]
  exact key _ _ hp.inv hp (Vd hp)
structure Iw (g:List (List Int)) (ls:List Int) (L:List (List Int)) (S:List Int->Prop) (d:List Int->Int):Prop where
 nn: ∀x∈L,0<=d x
 zero: ∀x∈L,d x=0↔S x
 step: ∀x∈L,∀l∈ls,d (Aa x (Af g l))<=d x+1
 down: ∀x∈L,0<d x-> ∃l∈ls,d (Aa x (Af g l))=d x-1
structure m7 (g:List (List Int)) (ls:List Int) (L:List (List Int)):Prop where
 next: ∀x∈L,∀l∈ls,Aa x (Af g l)∈L
 back: ∀x∈L,∀l∈ls,-l∈ls/\Aa (Aa x (Af g l)) (Af g (-l))=x
theorem Iw.le {g:List (List Int)} {ls:List Int} {L:List (List Int)} {S:List Int->Prop} {d d':List Int->Int} (hc:m7 g ls L) (h:Iw g ls L S d) (h':Iw g ls L S d'):
  ∀(n:Nat) (x:List Int),x∈L->d' x=n->d x<=n
 |0,x,hx,e=>by
  have:=(h.zero x hx).2 ((h'.zero x hx).1 e)
  omega
 |n+1,x,hx,e=>by
  obtain ⟨l,hl,hd⟩:=h'.down x hx (by omega)
  obtain ⟨b1,b2⟩:=hc.back x hx l hl
  have h1:=Iw.le hc h h' n _ (hc.next x hx l hl) (by omega)
  have h2:=h.step _ (hc.next x hx l hl) _ b1
  rw [b2] at h2
  omega
theorem Iw.eq {g:List (List Int)} {ls:List Int} {L:List (List Int)} {S:List Int->Prop} {d d':List Int->Int} (hc:m7 g ls L) (h:Iw g ls L S d) (h':Iw g ls L S d') {x:List Int} (hx:x∈L):d x=d' x:=by
 have n1:=h.nn x hx
 have n2:=h'.nn x hx
 have h1:=Iw.le hc h h' (d' x).toNat x hx (by omega)
 have h2:=Iw.le hc h' h (d x).toNat x hx (by omega)
 omega
theorem Iw.ET {g:List (List Int)} {ls:List Int} {L:List (List Int)} {S:List Int->Prop} {d:List Int->Int} (hc:m7 g ls L) (h:Iw g ls L S d) {x:List Int} (hx:x∈L) {l:Int} (hl:l∈ls):
  d x-1<=d (Aa x (Af g l)):=by
 obtain ⟨b1,b2⟩:=hc.back x hx l hl
 have h2:=h.step _ (hc.next x hx l hl) _ b1
 rw [b2] at h2
 omega
def kR (L:List (List Int)) (D:List Int) (x:List Int):Int:=if x∈L then D.getD (L.idxOf x) 0 else-1
theorem Jc {L:List (List Int)} (hn:L.Nodup) {j:Nat} (hj:j<L.length):L.idxOf (L.getD j [])=j:=by
 rw [Cw hj]
 exact hn.idxOf_getElem j hj
theorem Jq {L:List (List Int)} {j:Nat} (hj:j<L.length):L.getD j []∈L:=by rw [Cw hj];exact List.getElem_mem hj
theorem fE {L:List (List Int)} {D:List Int} (hn:L.Nodup) {j:Nat} (hj:j<L.length):kR L D (L.getD j [])=D.getD j 0:=by
 unfold kR
 rw [if_pos (Jq hj),Jc hn hj]
theorem Xk {p:PP} (hV:Valid p) {m:Nat} {L:List (List Int)} {D:List Int} (hb:Ot p m L D) (h:j9 p.2.2.1 (Ag p.2.2.1.length) L D):m7 p.2.2.1 (Ag p.2.2.1.length) L where
 next x hx l hl:=by
  obtain ⟨i,hi,rfl⟩:=List.mem_iff_getElem.1 hx
  obtain ⟨j,h1,h2,_⟩:=h.step i hi l hl
  rw [Cw hi] at h2
  rw [<-h2]
  exact Jq h1
 back x hx l hl:=kP hV (hb.row x hx) hl
theorem cH {p:PP} (hV:Valid p) {m:Nat} {L:List (List Int)} {D:List Int} (hb:Ot p m L D) (h:j9 p.2.2.1 (Ag p.2.2.1.length) L D):
  Iw p.2.2.1 (Ag p.2.2.1.length) L (λx=>x=L.getD 0 []) (kR L D) where
 nn x hx:=by
  obtain ⟨i,hi,rfl⟩:=List.mem_iff_getElem.1 hx
  rw [<-Cw (d:= []) hi,fE hb.ok.nodup hi]
  have:=hb.dep i (by rw [hb.len];exact hi)
  rw [Cw (by rw [hb.len];exact hi)]
  omega
 zero x hx:=by
  obtain ⟨i,hi,rfl⟩:=List.mem_iff_getElem.1 hx
  rw [<-Cw (d:= []) hi,fE hb.ok.nodup hi]
  constructor
  ·intro h0
   by_cases e:i=0
   ·rw [e]
   ·obtain ⟨k,l,h1,_,_,h4⟩:=h.par i (by omega) hi
    have hk:k<D.length:=by rw [hb.len];omega
    have:=hb.dep k hk
    rw [<-Cw (d:=0) hk] at this
    omega
  ·intro e
   have:i=0:=by
    have h1:=Jc hb.ok.nodup hi
    have h2:=Jc hb.ok.nodup h.pos
    rw [e,h2] at h1
    exact h1.symm
   rw [this]
   exact h.zero
 step x hx l hl:=by
  obtain ⟨i,hi,rfl⟩:=List.mem_iff_getElem.1 hx
  rw [<-Cw (d:= []) hi,fE hb.ok.nodup hi]
  obtain ⟨j,h1,h2,h3⟩:=h.step i hi l hl
  rw [<-h2,fE hb.ok.nodup h1]
  exact h3
 down x hx h0:=by
  obtain ⟨i,hi,rfl⟩:=List.mem_iff_getElem.1 hx
  rw [<-Cw (d:= []) hi,fE hb.ok.nodup hi] at h0⊢
  have OC:0<i:=by
   rcases Nat.eq_zero_or_pos i with e|e
   ·subst e;rw [h.zero] at h0;omega
   ·exact e
  obtain ⟨k,l,h1,h2,h3,h4⟩:=h.par i OC hi
  have hk:k<L.length:=by omega
  obtain ⟨b1,b2⟩:=kP hV (hb.row _ (Jq hk)) h2
  refine ⟨-l,b1,?_⟩
  rw [h3,b2,fE hb.ok.nodup hk]
  omega
end Go.Proofs.Ytjbdmibbbpdnnaa

namespace Go.Proofs.Ytjbdmibbbpdnnaa
open Go.RowKit
def Tk (x:Int):List Int->List Int×List Int->List Int×List Int
 | [],s=>s
 |t::r,s=>if s.1.getD t.toNat 0<0 then Tk x r (s.1.set t.toNat (s.1.getD x.toNat 0+1),s.2++ [t]) else Tk x r s
def DJ (N:Nat->List Int):Nat->List Int->List Int->List Int
 |0,out,_=>out
 |_+1,out,[]=>out
 |f+1,out,x::q=>DJ N f (Tk x (N x.toNat) (out,q)).1 (Tk x (N x.toNat) (out,q)).2
def HV (S:Nat->Bool) (m:Nat):List Int:=(List.range m).map λi=>if S i=true then 0 else-1
def OX (S:Nat->Bool) (m:Nat):List Int:=((List.range m).filter S).map λ(i:Nat)=>(i:Int)
def lC (N:Nat->List Int) (S:Nat->Bool) (m:Nat):List Int:=DJ N (m+1) (HV S m) (OX S m)
def ar (out:List Int):Nat:=out.countP λv=>decide (v<0)
theorem dL {xs:List Int} {i j:Nat} {v:Int} (hj:j<xs.length):(xs.set i v).getD j 0=if i=j then v else xs.getD j 0:=by
 rw [Oa]
 by_cases e:i=j
 ·subst e;rw [if_pos ⟨rfl,hj⟩,if_pos rfl]
 ·rw [if_neg λh=>e h.1,if_neg e]
theorem wI {xs:List Int} {i:Nat} {v:Int} (hi:i<xs.length) (h:xs.getD i 0<0) (hv:0<=v):ar (xs.set i v)+1=ar xs:=by
 unfold ar
 rw [List.countP_set hi]
 rw [PE hi] at h
 have hp:0<xs.countP λv=>decide (v<0):=List.countP_pos_iff.2 ⟨xs[i],List.getElem_mem hi,decide_eq_true h⟩
 simp only [decide_eq_true h,if_true]
 rw [if_neg (by simp;omega)]
 omega
structure DI (N:Nat->List Int) (S:Nat->Bool) (m:Nat) (w:Nat->Prop) (out q:List Int):Prop where
 len:out.length=m
 ge: ∀i,i<m-> -1<=out.getD i 0
 inq: ∀y∈q,0<=y/\y<m/\0<=out.getD y.toNat 0
 src: ∀i,i<m->S i=true->out.getD i 0=0
 RM: ∀i,i<m->out.getD i 0=0->S i=true
 par: ∀i,i<m->0<out.getD i 0-> ∃j,j<m/\(i:Int)∈N j/\out.getD j 0=out.getD i 0-1
 done: ∀i,i<m->0<=out.getD i 0->(i:Int)∉q-> ¬w i-> ∀t∈N i,0<=out.getD t.toNat 0/\out.getD t.toNat 0<=out.getD i 0+1
 ord:q.Pairwise λa b=>out.getD a.toNat 0<=out.getD b.toNat 0
structure DX (N:Nat->List Int) (S:Nat->Bool) (m:Nat) (x:Nat) (d:Int) (out q:List Int):Prop where
 base:DI N S m (λi=>i=x) out q
 lt:x<m
 Rx:out.getD x 0=d
 d0:0<=d
 lo: ∀y∈q,d<=out.getD y.toNat 0
 hi: ∀i,i<m->out.getD i 0<=d+1
def fm (N:Nat->List Int) (m:Nat):Prop:= ∀i,i<m-> ∀t∈N i,0<=t/\t<m
theorem BC {N:Nat->List Int} {S:Nat->Bool} {m x:Nat} {d:Int} {out q:List Int} (hr:fm N m) (h:DX N S m x d out q) {t:Int} (ht:t∈N x) (ZK:0<=t/\t<m) (ly:out.getD t.toNat 0<0):
  DX N S m x d (out.set t.toNat (d+1)) (q++ [t]):=by
 obtain ⟨⟨b1,b2,b3,b4,b5,b6,b7,b8⟩,h1,h2,h3,h4,h5⟩:=h
 obtain ⟨tn,rfl⟩:=Int.eq_ofNat_of_zero_le ZK.1
 simp only [Int.toNat_natCast] at ly⊢
 have WK:tn<m:=by omega
 have hg: ∀i,i<m->(out.set tn (d+1)).getD i 0=if tn=i then d+1 else out.getD i 0:= λi hi=>dL (by omega)
 have Ex: ∀i,0<=out.getD i 0->tn≠i:= λi hi e=>by subst e;omega
 have hq: ∀y∈q,(out.set tn (d+1)).getD y.toNat 0=out.getD y.toNat 0:= λy hy=>by
  have:=b3 y hy
  rw [hg _ (by omega),if_neg (Ex _ this.2.2)]
 refine ⟨⟨by rw [List.length_set];exact b1,λi hi=>?_,λy hy=>?_,λi hi hs=>?_,λi hi h0=>?_,λi hi h0=>?_,λi hi h0 hn hw=>?_,?_⟩,h1,?_,h3,λy hy=>?_,λi hi=>?_⟩
 ·rw [hg i hi];split
  ·omega
  ·exact b2 i hi
 ·rcases List.mem_append.1 hy with hy|hy
  ·rw [hq y hy];exact b3 y hy
  ·rw [List.mem_singleton.1 hy]
   refine ⟨by omega,by omega,?_⟩
   rw [hg _ (by omega),if_pos (by omega)];omega
 ·have:=b4 i hi hs
  rw [hg i hi,if_neg (Ex i (by omega))];exact this
 ·rw [hg i hi] at h0
  split at h0
  ·omega
  ·exact b5 i hi h0
 ·rw [hg i hi] at h0⊢
  by_cases e:tn=i
  ·subst e
   rw [if_pos rfl]
   exact ⟨x,h1,ht,by rw [hg x h1,if_neg (Ex x (by omega)),h2];omega⟩
  ·rw [if_neg e] at h0⊢
   obtain ⟨j,j1,j2,j3⟩:=b6 i hi h0
   exact ⟨j,j1,j2,by rw [hg j j1,if_neg (Ex j (by omega))];exact j3⟩
 ·rw [hg i hi] at h0⊢
  have Nq: ¬tn=i:= λe=>hn (by rw [<-e];simp)
  rw [if_neg Nq] at h0⊢
  intro t lV
  obtain ⟨c1,c2⟩:=b7 i hi h0 (λh=>hn (List.mem_append_left _ h)) hw t lV
  have:=hr i hi t lV
  rw [hg _ (by omega),if_neg (Ex _ c1)]
  exact ⟨c1,c2⟩
 ·refine List.pairwise_append.2 ⟨?_,List.pairwise_singleton _ _,λa ha b hb=>?_⟩
  ·refine b8.imp_of_mem λha hb h=>?_
   rw [hq _ ha,hq _ hb];exact h
  ·rw [List.mem_singleton.1 hb,hq _ ha,hg _ (by omega),if_pos (by omega)]
   have:=b3 a ha
   exact h5 _ (by omega)
 ·rw [hg x h1,if_neg (Ex x (by omega))];exact h2
 ·rcases List.mem_append.1 hy with hy|hy
  ·rw [hq y hy];exact h4 y hy
  ·rw [List.mem_singleton.1 hy,hg _ (by omega),if_pos (by omega)];omega
 ·rw [hg i hi];split
  ·exact Int.le_refl _
  ·exact h5 i hi
theorem JB {N:Nat->List Int} {S:Nat->Bool} {m x:Nat} {d:Int} (hr:fm N m): ∀(ts:List Int) (out q:List Int),(∀t∈ts,t∈N x)->DX N S m x d out q->
  DX N S m x d (Tk x ts (out,q)).1 (Tk x ts (out,q)).2/\(Tk x ts (out,q)).2.length+ar (Tk x ts (out,q)).1=q.length+ar out/\
  (∀t∈ts,0<=(Tk x ts (out,q)).1.getD t.toNat 0)/\(∀i,i<m->0<=out.getD i 0->(Tk x ts (out,q)).1.getD i 0=out.getD i 0)
 | [],out,q,_,h=>⟨h,rfl,(λt ht=>nomatch ht),λ_ _ _=>rfl⟩
 |t::ts,out,q,hs,h=>by
  have qJ: ∀t∈ts,t∈N x:= λt' h'=>hs t' (List.mem_cons_of_mem _ h')
  have ZK:=hr x h.lt t (hs t (by simp))
  simp only [Tk]
  have QK:out.getD ((x:Nat):Int).toNat 0=d:=by rw [Int.toNat_natCast];exact h.Rx
  by_cases ly:out.getD t.toNat 0<0
  ·rw [if_pos ly,QK]
   have h1:=BC hr h (hs t (by simp)) ZK ly
   have hd:=h.d0
   have hlen:=h.base.len
   obtain ⟨a1,a2,a3,a4⟩:=JB hr ts _ _ qJ h1
   have hti:(out.set t.toNat (d+1)).getD t.toNat 0=d+1:=by rw [dL (by omega),if_pos rfl]
   refine ⟨a1,?_,λt' lV=>?_,λi hi h0=>?_⟩
   ·have:=wI (xs:=out) (i:=t.toNat) (v:=d+1) (by omega) ly (by omega)
    rw [a2,List.length_append,List.length_singleton]
    omega
   ·rcases List.mem_cons.1 lV with rfl|lV
    ·rw [a4 _ (by omega) (by omega),hti];omega
    ·exact a3 t' lV
   ·have Ex: ¬t.toNat=i:= λe=>by subst e;omega
    have e:(out.set t.toNat (d+1)).getD i 0=out.getD i 0:=by rw [dL (by omega),if_neg Ex]
    rw [a4 i hi (by rw [e];exact h0),e]
  ·rw [if_neg ly]
   obtain ⟨a1,a2,a3,a4⟩:=JB hr ts _ _ qJ h
   refine ⟨a1,a2,λt' lV=>?_,a4⟩
   rcases List.mem_cons.1 lV with rfl|lV
   ·rw [a4 _ (by omega) (by omega)];omega
   ·exact a3 t' lV
structure DQ (N:Nat->List Int) (S:Nat->Bool) (m:Nat) (out q:List Int):Prop where
 base:DI N S m (λ_=>False) out q
 hi: ∀x q',q=x::q'-> ∀i,i<m->out.getD i 0<=out.getD x.toNat 0+1
theorem BB {N:Nat->List Int} {S:Nat->Bool} {m:Nat} (hr:fm N m) {x:Int} {out q:List Int} (h:DQ N S m out (x::q)):
  DQ N S m (Tk x (N x.toNat) (out,q)).1 (Tk x (N x.toNat) (out,q)).2/\(Tk x (N x.toNat) (out,q)).2.length+ar (Tk x (N x.toNat) (out,q)).1=q.length+ar out/\ ∀i,i<m->(Tk x (N x.toNat) (out,q)).1.getD i 0<=out.getD x.toNat 0+1:=by
 obtain ⟨b,hi⟩:=h
 obtain ⟨h1,h2,h3⟩:=b.inq x (by simp)
 obtain ⟨xn,rfl⟩:=Int.eq_ofNat_of_zero_le h1
 simp only [Int.toNat_natCast] at h3⊢
 obtain ⟨o1,o2⟩:=List.pairwise_cons.1 b.ord
 simp only [Int.toNat_natCast] at o1
 have hx:DX N S m xn (out.getD xn 0) out q:=by
  refine ⟨⟨b.len,b.ge,λy hy=>b.inq y (List.mem_cons_of_mem _ hy),b.src,b.RM,b.par,λi hi h0 hn hw=>b.done i hi h0 (λhm=>?_) (λh=>h),o2⟩,by omega,rfl,h3,o1,?_⟩
  ·rcases List.mem_cons.1 hm with e|hm
   ·exact hw (by omega)
   ·exact hn hm
  ·have:=hi xn q rfl
   rwa [Int.toNat_natCast] at this
 obtain ⟨a1,a2,a3,a4⟩:=JB hr (N xn) out q (λ_ h=>h) hx
 obtain ⟨c,c1,c2,c3,c4,c5⟩:=a1
 refine ⟨⟨⟨c.len,c.ge,c.inq,c.src,c.RM,c.par,λi eH h0 hn _ t ht=>?_,c.ord⟩,λy q' e i hi=>?_⟩,a2,c5⟩
 ·by_cases e:i=xn
  ·subst e
   refine ⟨a3 t ht,?_⟩
   rw [c2]
   have:=hr i eH t ht
   exact c5 _ (by omega)
  ·exact c.done i eH h0 hn e t ht
 ·have h4:=c4 y (by rw [e];simp)
  have h5:=c5 i hi
  omega
theorem IZ {N:Nat->List Int} {S:Nat->Bool} {m:Nat} (hr:fm N m) {x:Int} {out q:List Int} (h:DQ N S m out (x::q)):
  DQ N S m (Tk x (N x.toNat) (out,q)).1 (Tk x (N x.toNat) (out,q)).2/\(Tk x (N x.toNat) (out,q)).2.length+ar (Tk x (N x.toNat) (out,q)).1=q.length+ar out:=⟨(BB hr h).1,(BB hr h).2.1⟩
theorem JA {N:Nat->List Int} {S:Nat->Bool} {m:Nat} (hr:fm N m): ∀(f:Nat) (out q:List Int),q.length+ar out<f->DQ N S m out q->DQ N S m (DJ N f out q) []
 |0,out,q,hf,_=>absurd hf (Nat.not_lt_zero _)
 |f+1,out,[],_,h=>h
 |f+1,out,x::q,hf,h=>by
  obtain ⟨h1,h2⟩:=IZ hr h
  simp only [DJ]
  simp only [List.length_cons] at hf
  exact JA hr f _ _ (by omega) h1
theorem Ut {S:Nat->Bool} {m i:Nat} (hi:i<m):(HV S m).getD i 0=if S i=true then 0 else-1:=by
 unfold HV
 rw [List.getD_eq_getElem?_getD,List.getElem?_map,List.getElem?_range hi]
 rfl
theorem iB {S:Nat->Bool} {m:Nat} {y:Int} :y∈OX S m↔ ∃i:Nat,y=i/\i<m/\S i=true:=by
 unfold OX
 simp only [List.mem_map,List.mem_filter,List.mem_range]
 constructor
 ·rintro ⟨i,⟨h1,h2⟩,rfl⟩;exact ⟨i,rfl,h1,h2⟩
 ·rintro ⟨i,rfl,h1,h2⟩;exact ⟨i,⟨h1,h2⟩,rfl⟩
theorem vC (N:Nat->List Int) (S:Nat->Bool) (m:Nat):DQ N S m (HV S m) (OX S m):=by
 have hle: ∀i,i<m->(HV S m).getD i 0<=0:= λi hi=>by rw [Ut hi];split<;>omega
 refine ⟨⟨by simp [HV],λi hi=>?_,λy hy=>?_,λi hi hs=>?_,λi hi h0=>?_,λi hi h0=>?_,λi hi h0 hn _=>?_,?_⟩,λx q' e i hi=>?_⟩
 ·rw [Ut hi];split<;>omega
 ·obtain ⟨i,rfl,h1,h2⟩:=iB.1 hy
  rw [Int.toNat_natCast,Ut h1,if_pos h2]
  exact ⟨by omega,by omega,Int.le_refl _⟩
 ·rw [Ut hi,if_pos hs]
 ·rw [Ut hi] at h0
  split at h0
  ·assumption
  ·omega
 ·have:=hle i hi;omega
 ·rw [Ut hi] at h0
  split at h0
  ·rename_i hs
   exact absurd (iB.2 ⟨i,rfl,hi,hs⟩) hn
  ·omega
 ·refine List.Pairwise.imp_of_mem (R:= λ_ _=>True) (λha hb _=>?_) (List.pairwise_of_forall λ_ _=>trivial)
  obtain ⟨i,rfl,h1,h2⟩:=iB.1 ha
  obtain ⟨j,rfl,h3,h4⟩:=iB.1 hb
  rw [Int.toNat_natCast,Int.toNat_natCast,Ut h1,Ut h3,if_pos h2,if_pos h4]
  exact Int.le_refl _
 ·obtain ⟨j,rfl,h3,h4⟩:=iB.1 (show x∈OX S m by rw [e];simp)
  have:=hle i hi
  rw [Int.toNat_natCast,Ut h3,if_pos h4]
  omega
theorem LG {S:Nat->Bool} {m:Nat} :(OX S m).length+ar (HV S m)=m:=by
 unfold OX ar HV
 rw [List.length_map,List.countP_map]
 have h:(List.range m).countP ((λv=>decide (v<0))∘ λi=>if S i=true then (0:Int) else-1)=(List.range m).countP λi=>!S i:=by
  refine List.countP_congr λi _=>?_
  simp only [Function.comp]
  by_cases e:S i=true
  ·simp [e]
  ·simp [Bool.not_eq_true _▸e]
 rw [h,<-List.countP_eq_length_filter]
 have:=List.length_eq_countP_add_countP (l:=List.range m) S
 rw [List.length_range] at this
 have e:(List.range m).countP (λa=>decide ¬S a=true)=(List.range m).countP λi=>!S i:=List.countP_congr λi _=>by cases S i<;>simp
 rw [e] at this
 omega
theorem SM {N:Nat->List Int} {S:Nat->Bool} {m:Nat} (hr:fm N m):DI N S m (λ_=>False) (lC N S m) []:=
 (JA hr (m+1) _ _ (by rw [LG];omega) (vC N S m)).base
end Go.Proofs.Ytjbdmibbbpdnnaa

namespace Go.Proofs.Ytjbdmibbbpdnnaa
open Go.RowKit
abbrev oG:Type:=Int×Int×ByteArray×List (List Int)×List Int×List (List Int)×List Int×(ByteArray->Option Int)×List Int×List Int×Int×ByteArray×List (List Int)×List (List Int)×PUnit
abbrev oH:Type:=Int×Int×ByteArray×List (List Int)×List (List Int)×List Int×(ByteArray->Option Int)×List Int×List Int×Int×ByteArray×List (List Int)×List (List Int)×PUnit
abbrev ah:List (Nat×Nat):= [(0,1),(0,1),(0,1),(0,1),(0,1),(0,1),(0,1),(0,1),(0,1),(0,1),(0,1),(0,1),(0,0)]
abbrev Dn (p:Int×ByteArray×List (List Int)×Unit) (y4:List Int) (y2:Int) (y3:Bool) (y6:ByteArray) (y5:ByteArray):Prop:=ah=ah/\(p,false,y4,p.1,p.2.1,p.2.2.1,y2,y3,!y3,p.1,y4,p.1,p.2.1,p.2.2.1,y4,y4,y6,p.1,p.2.1,p.2.2.1,p.1,p.2.1,p.2.2.1,[y4],[(0:Int)],aU (λ(_:ByteArray)=>none) y6 (0:Int),[(0:Int)],[(0:Int)],p.1,p.2.1,p.2.2.1,([]:List (List Int)),())=(p,false,y4,p.1,p.2.1,p.2.2.1,y2,y3,!y3,p.1,y4,p.1,p.2.1,p.2.2.1,y4,y4,y5,p.1,p.2.1,p.2.2.1,p.1,p.2.1,p.2.2.1,[y4],[(0:Int)],aU (λ(_:ByteArray)=>none) y5 (0:Int),[(0:Int)],[(0:Int)],p.1,p.2.1,p.2.2.1,([]:List (List Int)),PUnit.unit)
theorem HG (p:Int×ByteArray×List (List Int)×Unit) (P:(Option (PP×List (List Int)×List Int×(ByteArray->Option Int)×List Int×List Int×List (List Int)×Unit)×Bool×Unit)->Prop):(∃(y2:Int),Me.fn ((p.1,p.2.1,p.2.2.1,()),())=some y2/\ ∃(y3:Bool),Bg.fn (y2,(1:Int),(3000:Int),())=some y3/\Br (!y3) (P (none,false,())) (∃(y4:List Int),Oh.fn (p.1,())=some y4/\ ∃(y5:ByteArray),Ek.fn (y4,())=some y5/\(∃(y6:List Int),Ih.fn ((↑p.2.2.1.length:Int),())=some y6/\0=0/\1= [y4].length/\0=0/\1= [(0:Int)].length/\0=0/\1= [(0:Int)].length/\0=0/\1= [(0:Int)].length/\0=0/\0=([]:List Int).length/\Bn (λ(v7:oH) (k8:oH->Prop)=>Br (decide (v7.1<(↑v7.2.2.2.2.1.length:Int))) (((0:Int)<=v7.1/\v7.1<(↑v7.2.2.2.2.1.length:Int))/\ ∃(y9:List Int),v7.2.2.2.2.1[0+v7.1.toNat]?=some y9/\ ∃(j4:List (List Int)),eb.fn ((v7.2.1,v7.2.2.1,v7.2.2.2.1,()),y9,())=some j4/\0=0/\0=([]:List Int).length/\0=0/\v7.2.2.2.2.1.length=v7.2.2.2.2.1.length/\0=0/\v7.2.2.2.2.2.1.length=v7.2.2.2.2.2.1.length/\0=0/\v7.2.2.2.2.2.2.2.1.length=v7.2.2.2.2.2.2.2.1.length/\0=0/\v7.2.2.2.2.2.2.2.2.1.length=v7.2.2.2.2.2.2.2.2.1.length/\0=0/\v7.2.2.2.2.2.2.2.2.2.2.2.2.1.length=v7.2.2.2.2.2.2.2.2.2.2.2.2.1.length/\Bn (λ(v11:oG) (k12:oG->Prop)=>Br (decide (v11.1<(↑j4.length:Int))) (∃(fg:List Int),idx j4 v11.1=some fg/\ ∃(Zi:ByteArray),Ek.fn (fg,())=some Zi/\Br (!(v11.2.2.2.2.2.2.2.1 Zi).isSome) (∃(dD:Int),Nj.fn (List.take v11.2.2.2.2.2.1.length (List.drop 0 v11.2.2.2.2.2.1),())=some dD/\0=0/\v11.2.2.2.2.2.1.length=v11.2.2.2.2.2.1.length/\v11.2.2.2.2.2.1.length+(List.take 1 (List.drop 0 [fg])).length<=Bp/\((0:Int)<=v7.1/\v7.1<(↑v11.2.2.2.2.2.2.1.length:Int))/\ ∃(fh:Int),v11.2.2.2.2.2.2.1[0+v7.1.toNat]?=some fh/\0=0/\v11.2.2.2.2.2.2.1.length=v11.2.2.2.2.2.2.1.length/\v11.2.2.2.2.2.2.1.length+ [IntKind.i64.wrap (fh+(1:Int))].length<=Bp/\0=0/\v11.2.2.2.2.2.2.2.2.1.length=v11.2.2.2.2.2.2.2.2.1.length/\v11.2.2.2.2.2.2.2.2.1.length+(List.take 1 (List.drop 0 [v7.1])).length<=Bp/\ ∃(CX:Int),idx y6 v11.1=some CX/\0=0/\v11.2.2.2.2.2.2.2.2.2.1.length=v11.2.2.2.2.2.2.2.2.2.1.length/\v11.2.2.2.2.2.2.2.2.2.1.length+ [CX].length<=Bp/\0=0/\v11.2.2.2.2.1.length=v11.2.2.2.2.1.length/\v11.2.2.2.2.1.length+(List.take 1 (List.drop 0 [dD])).length<=Bp/\0=0/\(v11.2.2.2.2.1++List.take 1 (List.drop 0 [dD])).length=(v11.2.2.2.2.1++List.take 1 (List.drop 0 [dD])).length/\0=0/\(v11.2.2.2.2.2.1++List.take 1 (List.drop 0 [fg])).length=(v11.2.2.2.2.2.1++List.take 1 (List.drop 0 [fg])).length/\0=0/\(v11.2.2.2.2.2.2.1++ [IntKind.i64.wrap (fh+(1:Int))]).length=(v11.2.2.2.2.2.2.1++ [IntKind.i64.wrap (fh+(1:Int))]).length/\0=0/\(v11.2.2.2.2.2.2.2.2.1++List.take 1 (List.drop 0 [v7.1])).length=(v11.2.2.2.2.2.2.2.2.1++List.take 1 (List.drop 0 [v7.1])).length/\0=0/\(v11.2.2.2.2.2.2.2.2.2.1++ [CX]).length=(v11.2.2.2.2.2.2.2.2.2.1++ [CX]).length/\0=0/\v11.2.2.2.2.2.2.2.2.2.2.2.2.2.1.length=v11.2.2.2.2.2.2.2.2.2.2.2.2.2.1.length/\k12 (IntKind.i64.wrap (v11.1+(1:Int)),v11.2.1,v11.2.2.1,v11.2.2.2.1,v11.2.2.2.2.1++List.take 1 (List.drop 0 [dD]),v11.2.2.2.2.2.1++List.take 1 (List.drop 0 [fg]),v11.2.2.2.2.2.2.1++ [IntKind.i64.wrap (fh+(1:Int))],aU v11.2.2.2.2.2.2.2.1 Zi dD,v11.2.2.2.2.2.2.2.2.1++List.take 1 (List.drop 0 [v7.1]),v11.2.2.2.2.2.2.2.2.2.1++ [CX],v11.2.2.2.2.2.2.2.2.2.2.1,v11.2.2.2.2.2.2.2.2.2.2.2.1,v11.2.2.2.2.2.2.2.2.2.2.2.2.1,v11.2.2.2.2.2.2.2.2.2.2.2.2.2.1,())) (0=0/\v11.2.2.2.2.1.length=v11.2.2.2.2.1.length/\v11.2.2.2.2.1.length+(List.take 1 (List.drop 0 [(v11.2.2.2.2.2.2.2.1 Zi).getD (Int.ofNat (nat_lit 0))])).length<=Bp/\0=0/\(v11.2.2.2.2.1++List.take 1 (List.drop 0 [(v11.2.2.2.2.2.2.2.1 Zi).getD (Int.ofNat (nat_lit 0))])).length=(v11.2.2.2.2.1++List.take 1 (List.drop 0 [(v11.2.2.2.2.2.2.2.1 Zi).getD (Int.ofNat (nat_lit 0))])).length/\0=0/\v11.2.2.2.2.2.1.length=v11.2.2.2.2.2.1.length/\0=0/\v11.2.2.2.2.2.2.1.length=v11.2.2.2.2.2.2.1.length/\0=0/\v11.2.2.2.2.2.2.2.2.1.length=v11.2.2.2.2.2.2.2.2.1.length/\0=0/\v11.2.2.2.2.2.2.2.2.2.1.length=v11.2.2.2.2.2.2.2.2.2.1.length/\0=0/\v11.2.2.2.2.2.2.2.2.2.2.2.2.2.1.length=v11.2.2.2.2.2.2.2.2.2.2.2.2.2.1.length/\k12 (IntKind.i64.wrap (v11.1+(1:Int)),v11.2.1,v11.2.2.1,v11.2.2.2.1,v11.2.2.2.2.1++List.take 1 (List.drop 0 [(v11.2.2.2.2.2.2.2.1 Zi).getD (Int.ofNat (nat_lit 0))]),v11.2.2.2.2.2.1,v11.2.2.2.2.2.2.1,v11.2.2.2.2.2.2.2.1,v11.2.2.2.2.2.2.2.2.1,v11.2.2.2.2.2.2.2.2.2.1,v11.2.2.2.2.2.2.2.2.2.2.1,v11.2.2.2.2.2.2.2.2.2.2.2.1,v11.2.2.2.2.2.2.2.2.2.2.2.2.1,v11.2.2.2.2.2.2.2.2.2.2.2.2.2.1,()))) (0=0/\v11.2.2.2.2.2.2.2.2.2.2.2.2.2.1.length=v11.2.2.2.2.2.2.2.2.2.2.2.2.2.1.length/\v11.2.2.2.2.2.2.2.2.2.2.2.2.2.1.length+(List.take 1 (List.drop 0 [List.take v11.2.2.2.2.1.length (List.drop 0 v11.2.2.2.2.1)])).length<=Bp/\0=0/\v11.2.2.2.2.2.1.length=v11.2.2.2.2.2.1.length/\0=0/\v11.2.2.2.2.2.2.1.length=v11.2.2.2.2.2.2.1.length/\0=0/\v11.2.2.2.2.2.2.2.2.1.length=v11.2.2.2.2.2.2.2.2.1.length/\0=0/\v11.2.2.2.2.2.2.2.2.2.1.length=v11.2.2.2.2.2.2.2.2.2.1.length/\0=0/\(v11.2.2.2.2.2.2.2.2.2.2.2.2.2.1++List.take 1 (List.drop 0 [List.take v11.2.2.2.2.1.length (List.drop 0 v11.2.2.2.2.1)])).length=(v11.2.2.2.2.2.2.2.2.2.2.2.2.2.1++List.take 1 (List.drop 0 [List.take v11.2.2.2.2.1.length (List.drop 0 v11.2.2.2.2.1)])).length/\k8 (IntKind.i64.wrap (v7.1+(1:Int)),v11.2.1,v11.2.2.1,v11.2.2.2.1,v11.2.2.2.2.2.1,v11.2.2.2.2.2.2.1,v11.2.2.2.2.2.2.2.1,v11.2.2.2.2.2.2.2.2.1,v11.2.2.2.2.2.2.2.2.2.1,v11.2.2.2.2.2.2.2.2.2.2.1,v11.2.2.2.2.2.2.2.2.2.2.2.1,v11.2.2.2.2.2.2.2.2.2.2.2.2.1,v11.2.2.2.2.2.2.2.2.2.2.2.2.2.1++List.take 1 (List.drop 0 [List.take v11.2.2.2.2.1.length (List.drop 0 v11.2.2.2.2.1)]),()))) ((0:Int),v7.2.1,v7.2.2.1,v7.2.2.2.1,[],v7.2.2.2.2.1,v7.2.2.2.2.2.1,v7.2.2.2.2.2.2.1,v7.2.2.2.2.2.2.2.1,v7.2.2.2.2.2.2.2.2.1,v7.2.2.2.2.2.2.2.2.2.1,v7.2.2.2.2.2.2.2.2.2.2.1,v7.2.2.2.2.2.2.2.2.2.2.2.1,v7.2.2.2.2.2.2.2.2.2.2.2.2.1,PUnit.unit)) (P (some ((v7.2.2.2.2.2.2.2.2.2.1,v7.2.2.2.2.2.2.2.2.2.2.1,v7.2.2.2.2.2.2.2.2.2.2.2.1,()),List.take v7.2.2.2.2.1.length (List.drop 0 v7.2.2.2.2.1),List.take v7.2.2.2.2.2.1.length (List.drop 0 v7.2.2.2.2.2.1),v7.2.2.2.2.2.2.1,List.take v7.2.2.2.2.2.2.2.1.length (List.drop 0 v7.2.2.2.2.2.2.2.1),List.take v7.2.2.2.2.2.2.2.2.1.length (List.drop 0 v7.2.2.2.2.2.2.2.2.1),List.take v7.2.2.2.2.2.2.2.2.2.2.2.2.1.length (List.drop 0 v7.2.2.2.2.2.2.2.2.2.2.2.2.1),()),true,()))) ((0:Int),p.1,p.2.1,p.2.2.1,[y4],[(0:Int)],aU (λ(_:ByteArray)=>none) y5 (0:Int),[(0:Int)],[(0:Int)],p.1,p.2.1,p.2.2.1,([]:List (List Int)),PUnit.unit))/\((∃(y6:ByteArray),Ek.fn (y4,())=some y6/\(Dn p y4 y2 y3 y6 y5))/\ ∃(y6:ByteArray),Ek.fn (y4,())=some y6/\((Dn p y4 y2 y3 y6 y5))/\((Dn p y4 y2 y3 y6 y5))/\(Dn p y4 y2 y3 y6 y5))/\((∃(y6:ByteArray),Ek.fn (y4,())=some y6/\(Dn p y4 y2 y3 y6 y5))/\ ∃(y6:ByteArray),Ek.fn (y4,())=some y6/\((Dn p y4 y2 y3 y6 y5))/\((Dn p y4 y2 y3 y6 y5))/\(Dn p y4 y2 y3 y6 y5))/\ ∃(y6:ByteArray),Ek.fn (y4,())=some y6/\(((Dn p y4 y2 y3 y6 y5))/\((Dn p y4 y2 y3 y6 y5))/\(Dn p y4 y2 y3 y6 y5))/\(((Dn p y4 y2 y3 y6 y5))/\((Dn p y4 y2 y3 y6 y5))/\(Dn p y4 y2 y3 y6 y5))/\(((Dn p y4 y2 y3 y6 y5))/\(Dn p y4 y2 y3 y6 y5))/\(((Dn p y4 y2 y3 y6 y5))/\(Dn p y4 y2 y3 y6 y5))/\((Dn p y4 y2 y3 y6 y5))/\ah=ah/\(p,false,y4,p.1,p.2.1,p.2.2.1,y2,y3,!y3,p.1,y4,p.1,p.2.1,p.2.2.1,y4,y4,y6,p.1,p.2.1,p.2.2.1,p.1,p.2.1,p.2.2.1,[y4],[(0:Int)],aU (λ(_:ByteArray)=>none) y6 (0:Int),[(0:Int)],[(0:Int)],p.1,p.2.1,p.2.2.1,([]:List (List Int)),())=(p,false,y4,p.1,p.2.1,p.2.2.1,y2,y3,!y3,p.1,y4,p.1,p.2.1,p.2.2.1,y4,y4,y5,p.1,p.2.1,p.2.2.1,p.1,p.2.1,p.2.2.1,[y4],[(0:Int)],aU (λ(_:ByteArray)=>none) y5 (0:Int),[(0:Int)],[(0:Int)],p.1,p.2.1,p.2.2.1,[],PUnit.unit)))=fnW Co (look [(126,Me),(97,Bg),(127,Oh),(128,Ek),(117,Ih),(129,eb),(58,Nj)]) Og Try.f80 (p,()) P:=by kernel_rfl
theorem mH {g:List (List Int)} {k:Int} {x:List Int} {d:Int} : ∀(ls:List Int) (s:EX) (row:List Int) (L':List (List Int)) (D':List Int),Ey g x d ls s.1 s.2.1=(L',D',true)->
  (Vx g k x d ls s row).1.1=L'/\(Vx g k x d ls s row).1.2.1=D'
 | [],s,row,L',D',h=>by
  simp only [Ey,Prod.mk.injEq] at h
  exact ⟨h.1,h.2.1⟩
 |l::ls,s,row,L',D',h=>by
  simp only [Ey] at h
  simp only [Vx]
  by_cases hm:Aa x (Af g l)∈s.1
  ·rw [if_pos hm] at h
   rw [if_pos hm]
   exact mH ls s _ L' D' h
  ·rw [if_neg hm] at h
   rw [if_neg hm]
   by_cases hf:s.1.length=3000
   ·rw [if_pos hf] at h
    simp at h
   ·rw [if_neg hf] at h
    exact mH ls _ _ L' D' h
theorem vI {g:List (List Int)} {ls:List Int} : ∀(f k:Nat) (s:EX) (N:List (List Int)) (L':List (List Int)) (D':List Int),Gs g ls f k s.1 s.2.1=(L',D',true)->
  (Xh g ls f k s N).1.1=L'/\(Xh g ls f k s N).1.2.1=D'
 |0,k,s,N,L',D',h=>by
  simp only [Gs,Prod.mk.injEq] at h
  exact ⟨h.1,h.2.1⟩
 |f+1,k,s,N,L',D',h=>by
  simp only [Gs] at h
  simp only [Xh]
  by_cases hk:k<s.1.length
  ·rw [if_pos hk] at h
   rw [if_pos hk]
   split at h
   ·rename_i L1 D1 he
    obtain ⟨a1,a2⟩:=mH (k:=(k:Int)) ls s [] L1 D1 he
    refine vI f (k+1) _ _ L' D' ?_
    rw [a1,a2]
    exact h
   ·simp at h
  ·rw [if_neg hk] at h
   rw [if_neg hk]
   simp only [Prod.mk.injEq] at h
   exact ⟨h.1,h.2.1⟩
theorem ir {key:ByteArray} {x:List Int} : ∀(L:List (List Int)) (i:Nat),cF key (L++ [x]) i=if (cF key L i).isSome=true then cF key L i else if Mj x=key then some ((i+L.length:Nat):Int) else none
 | [],i=>by simp [cF]
 |y::L,i=>by
  simp only [List.cons_append,cF]
  split
  ·rfl
  ·rw [ir L (i+1),List.length_cons,show i+1+L.length=i+(L.length+1) by omega]
theorem jA {x:List Int} (hx:Px x): ∀(L:List (List Int)) (i:Nat),(∀y∈L,Px y)->cF (Mj x) L i=if x∈L then some ((i+L.idxOf x:Nat):Int) else none
 | [],i,_=>by simp [cF]
 |y::L,i,h=>by
  have hy:=h y (by simp)
  simp only [cF]
  by_cases e:y=x
  ·subst e
   rw [if_pos rfl,if_pos (by simp),List.idxOf_cons_self]
   rfl
  ·rw [if_neg λhk=>e (key_inj hy hx hk),jA hx L (i+1) λz hz=>h z (List.mem_cons_of_mem _ hz),show List.idxOf x (y::L)=(List.idxOf x L).succ by rw [List.idxOf_cons,beq_false_of_ne e];rfl]
   have:(x∈y::L)↔(x∈L):=by simp [Ne.symm e]
   by_cases hm:x∈L
   ·rw [if_pos hm,if_pos (this.2 hm),show i+1+List.idxOf x L=i+(List.idxOf x L).succ by omega]
   ·rw [if_neg hm,if_neg λh=>hm (this.1 h)]
theorem qR {x:List Int} {L:List (List Int)} (hx:Px x) (hL: ∀y∈L,Px y):Ro L (Mj x)=if x∈L then some (L.idxOf x:Int) else none:=by
 unfold Ro
 rw [jA hx L 0 hL,Nat.zero_add]
theorem qQ {x:List Int} {L:List (List Int)} (hx:Px x) (hL: ∀y∈L,Px y) (hn:x∉L):aU (Ro L) (Mj x) (L.length:Int)=Ro (L++ [x]):=by
 funext key
 unfold aU Ro
 rw [ir,Nat.zero_add]
 by_cases e:key=Mj x
 ·subst e
  rw [if_pos rfl,jA hx L 0 hL,if_neg hn,if_neg (by simp),if_pos rfl]
 ·rw [if_neg e,if_neg (c:=Mj x=key) λh=>e h.symm]
  split
  ·rfl
  ·rename_i h
   cases hk:cF key L 0 with
   |none=>rfl
   |some v=>rw [hk] at h;simp at h
theorem xM (p:PP):Hj (Pe p) 1 3000=Bi p:=by
 unfold Bi
 by_cases hv:Ay p=true
 ·rw [hv,Bool.true_and,vA hv]
  rfl
 ·have hv:Ay p=false:=by simpa using hv
  rw [hv,Bool.false_and]
  have:Pe p=0:=by unfold Pe;rw [if_neg (by simp [hv])]
  rw [this]
  rfl
theorem FF (p:PP) (h:Dg p):fnW Co (look [(126,Me),(97,Bg),(127,Oh),(128,Ek),(117,Ih),(129,eb),(58,Nj)]) Og Try.f80 (p,()) (λ(z:Option (PP×List (List Int)×List Int×(ByteArray->Option Int)×List Int×List Int×List (List Int)×Unit)×Bool×Unit)=>z=(if Bi p=true then (some (Ib p),true,()) else (none,false,()))):=by
 refine Eq.mp (HG p _) ⟨_,if_pos h,_,if_pos trivial,?_⟩
 show Br (!Hj (Pe p) 1 3000) _ _
 rw [xM p]
 refine Br.of (λhb=>?_) λhb=>?_
 ·rw [if_neg (by simpa using hb)]
 have hw:Bi p=true:=by simpa using hb
 rw [if_pos hw]
 obtain ⟨hv,yD⟩:=Bool.and_eq_true_iff.1 hw
 have hV:=valid hv
 have vW:=hV.oU
 have hn:=hV.n
 obtain ⟨pn,ps,g,⟨⟩⟩:=p
 dsimp only at vW hn yD⊢
 have hI:(upto pn.toNat).length<=20:=by rw [Pr];omega
 have hIr: ∀y∈upto pn.toNat,0<=y/\y<pn:= λy hy=>by have:=Is.1 hy;omega
 have VB:=dG (p:=(pn,ps,g,())) hI hIr
 obtain ⟨ls,kL⟩: ∃ls,Ag g.length=ls:=⟨_,rfl⟩
 have OG:ls.length<=16:=by rw [<-kL,Ks];omega
 have jw: ∀l∈ls,Er (List.length g) l:= λl hl=>Ir (kL▸hl)
 have BP: ∀x:List Int,(∀y∈x,0<=y/\y<pn)->Px x:= λx hx y hy=>by have:=hx y hy;omega
 have yN:Gs g ls 3001 0 [upto pn.toNat] [0]=Dr g (upto pn.toNat):=by unfold Dr;rw [kL]
 have pd:aU (λ(_:ByteArray)=>(none:Option Int)) (Mj (upto pn.toNat)) 0=Ro [upto pn.toNat]:=by
  have:=qQ (L:= []) (BP _ hIr) (λy hy=>by cases hy) (by simp)
  exact this
 refine ⟨upto pn.toNat,if_pos ⟨by show (0:Int)<=pn;omega,by show pn<=20;omega⟩,Mj (upto pn.toNat),if_pos (by show short (upto pn.toNat);unfold short;omega),⟨ls,?_,rfl,rfl,rfl,rfl,rfl,rfl,rfl,rfl,rfl,rfl,?_⟩,?_⟩
 ·refine (if_pos ⟨by show (0:Int)<=((g.length:Nat):Int);omega,by show ((g.length:Nat):Int)<=8;omega⟩).trans (congrArg some ?_)
  show Ag (((g.length:Nat):Int)).toNat=ls
  rw [Int.toNat_natCast];exact kL
 ·obtain ⟨R,hR⟩: ∃R,Xh g ls 3001 0 ([upto pn.toNat],[0],[0],[0]) []=R:=⟨_,rfl⟩
  have Ag1:Ib (pn,ps,g,())=ZU (pn,ps,g,()) R:=by unfold Ib;rw [kL];exact congrArg _ hR
  rw [Ag1]
  refine Bn.mk (λv=> ∃(k:Nat) (s:EX) (N:List (List Int)),v=((k:Int),pn,ps,g,s.1,s.2.1,Ro s.1,s.2.2.1,s.2.2.2,pn,ps,g,N,())/\k<=s.1.length/\Ot (pn,ps,g,()) (upto pn.toNat).length s.1 s.2.1/\s.2.2.1.length=s.1.length/\s.2.2.2.length=s.1.length/\N.length=k/\
    Gs g ls (3001-k) k s.1 s.2.1=Dr g (upto pn.toNat)/\Xh g ls (3001-k) k s N=R) (λv=>3001-v.1.toNat)
   ⟨0,([upto pn.toNat],[0],[0],[0]),[],?_,by simp,VB,rfl,rfl,rfl,yN,hR⟩ ?_
  ·rw [<-pd];rfl
  rintro v ⟨k,s0,N,rfl,h1,h2,h3,h4,h5,h6,h7⟩
  obtain ⟨L0,D0,P0,B0⟩:=s0
  dsimp only at h1 h2 h3 h4 h6 h7⊢
  have hL0:=h2.ok.oU
  have hD0:=h2.len
  obtain ⟨f,hf⟩: ∃f,3001-k=f+1:=⟨3000-k,by omega⟩
  refine Br.dec (λhl=>?_) λhl=>?_
  ·have hk:k<L0.length:=by omega
   have DV:k<D0.length:=by omega
   have hx: ∀y∈L0[k],0<=y/\y<pn:=h2.row _ (List.getElem_mem hk)
   have QL:L0[k].length=(upto pn.toNat).length:=h2.ok.len _ (List.getElem_mem hk)
   have hdk:=h2.dep k DV
   have hxe:L0.getD k []=L0[k]:=Ox hk
   have PS:D0.getD k 0=D0[k]:=by rw [List.getD_eq_getElem?_getD,List.getElem?_eq_getElem DV];rfl
   have yG: ∀L' D' ok,Ey g L0[k] D0[k] ls L0 D0=(L',D',ok)->Dr g (upto pn.toNat)=if ok=true then Gs g ls f (k+1) L' D' else (L',D',false):=by
    intro L' D' ok he
    rw [<-h6,hf,Gs,if_pos hk,hxe,PS,he]
    cases ok<;>rfl
   obtain ⟨E,hE⟩: ∃E,Vx g (k:Int) L0[k] D0[k] ls (L0,D0,P0,B0) []=E:=⟨_,rfl⟩
   have hex:R=Xh g ls f (k+1) E.1 (N++ [E.2]):=by
    rw [<-h7,hf,Xh,if_pos hk]
    dsimp only
    rw [hxe,PS,hE]
   refine ⟨⟨by omega,by omega⟩,L0[k],by rw [Int.toNat_natCast,Nat.zero_add];exact List.getElem?_eq_getElem hk,ls.map (λl=>Aa L0[k] (Af g l)),?_,?_⟩
   ·refine (if_pos ⟨hv,by show L0[k].length<=20;omega,hx⟩).trans (congrArg some ?_)
    show td g L0[k]=_
    unfold td
    rw [kL]
   refine ⟨rfl,rfl,rfl,rfl,rfl,rfl,rfl,rfl,rfl,rfl,rfl,rfl,?_⟩
   obtain ⟨nb,hnb⟩: ∃nb,ls.map (λl=>Aa L0[k] (Af g l))=nb:=⟨_,rfl⟩
   have hnl:nb.length=ls.length:=by rw [<-hnb,List.length_map]
   have hni: ∀i (h:i<ls.length),nb[i]'(by omega)=Aa L0[k] (Af g ls[i]):= λi h=>by simp only [<-hnb,List.getElem_map]
   rw [hnb]
   refine Bn.mk (λv=> ∃(i:Nat) (row:List Int) (s:EX),v=((i:Int),pn,ps,g,row,s.1,s.2.1,Ro s.1,s.2.2.1,s.2.2.2,pn,ps,g,N,())/\i<=ls.length/\row.length=i/\Ot (pn,ps,g,()) (upto pn.toNat).length s.1 s.2.1/\s.2.2.1.length=s.1.length/\s.2.2.2.length=s.1.length/\
     (∃A,s.1=L0++A)/\(∃A,s.2.1=D0++A)/\Ey g L0[k] D0[k] (ls.drop i) s.1 s.2.1=Ey g L0[k] D0[k] ls L0 D0/\Vx g (k:Int) L0[k] D0[k] (ls.drop i) s row=E) (λv=>ls.length-v.1.toNat)
    ⟨0,[],(L0,D0,P0,B0),rfl,Nat.zero_le _,rfl,h2,h3,h4,⟨[],by simp⟩,⟨[],by simp⟩,rfl,hE⟩ ?_
   rintro v ⟨i,row,s,rfl,g1,g2,g3,g4,g5,⟨A,g6⟩,⟨A',g7⟩,g8,g9⟩
   obtain ⟨L,D,Pa,By⟩:=s
   dsimp only at g3 g4 g5 g6 g7 g8 g9⊢
   have hLf:=g3.ok.oU
   have SW:=g3.len
   refine Br.dec (λhli=>?_) λhli=>?_
   ·have hi:i<ls.length:=by omega
    have TI:k<L.length:=by rw [g6,List.length_append];omega
    have VQ:k<D.length:=by rw [SW];exact TI
    have hDk:D[k]=D0[k]:=by simp only [g7];exact List.getElem_append_left DV
    have sE:=jw _ (List.getElem_mem hi)
    obtain ⟨nl,nr⟩:=lY hV hx sE
    dsimp only at nl nr
    rw [List.drop_eq_getElem_cons hi] at g8 g9
    simp only [Ey] at g8
    simp only [Vx] at g9
    have hyb:=BP _ nr
    refine ⟨_,Ap (by omega),?_⟩
    rw [hni i hi]
    generalize hyv:Aa L0[k] (Af g ls[i])=yv at*
    refine ⟨Mj yv,if_pos (by show short yv;unfold short;rw [nl];omega),?_⟩
    rw [qR hyb λy hy=>BP _ (g3.row y hy)]
    refine Br.of (λNq=>?_) λNq=>?_
    ·have Nq:yv∉L:= λhm=>by rw [if_pos hm] at Nq;simp at Nq
     rw [if_neg Nq] at g8 g9
     by_cases eG:L.length=3000
     ·rw [if_pos eG] at g8
      have:=yG _ _ _ g8.symm
      rw [if_neg (by decide)] at this
      rw [this] at yD
      cases yD
     rw [if_neg eG] at g8
     refine ⟨_,if_pos trivial,rfl,rfl,?_,⟨by omega,by omega⟩,D0[k],?_,rfl,rfl,?_,rfl,rfl,?_,_,Ap hi,rfl,rfl,?_,rfl,rfl,?_,rfl,rfl,rfl,rfl,rfl,rfl,rfl,rfl,rfl,rfl,rfl,rfl,?_⟩
     ·show L.length+1<=4294967296;omega
     ·rw [Int.toNat_natCast,Nat.zero_add,List.getElem?_eq_getElem VQ,hDk]
     ·show D.length+1<=4294967296;omega
     ·show Pa.length+1<=4294967296;omega
     ·show By.length+1<=4294967296;omega
     ·show row.length+1<=4294967296;omega
     ·dsimp only
      rw [Cc L,Bt (n:=D0[k]+1) (by omega) (by omega),Al (by omega),qQ hyb (λy hy=>BP _ (g3.row y hy)) Nq]
      refine ⟨⟨i+1,row++ [(L.length:Int)],(L++ [yv],D++ [D0[k]+1],Pa++ [(k:Int)],By++ [ls[i]]),rfl,hi,by rw [List.length_append,g2];rfl,g3.add Nq (by rw [nl,QL]) (by omega) nr ⟨by omega,by omega⟩,?_,?_,⟨A++ [yv],by rw [g6,List.append_assoc]⟩,⟨A'++ [D0[k]+1],by rw [g7,List.append_assoc]⟩,g8,g9⟩,by omega⟩
      ·simp [g4]
      ·simp [g5]
    ·have Nq:yv∈L:=Classical.byContradiction λhm=>by rw [if_neg hm] at Nq;simp at Nq
     rw [if_pos Nq] at g8 g9
     rw [if_pos Nq]
     refine ⟨rfl,rfl,?_,rfl,rfl,rfl,rfl,rfl,rfl,rfl,rfl,rfl,rfl,rfl,rfl,?_⟩
     ·show row.length+1<=4294967296;omega
     ·rw [Al (by omega)]
      exact ⟨⟨i+1,row++ [(L.idxOf yv:Int)],(L,D,Pa,By),rfl,hi,by rw [List.length_append,g2];rfl,g3,g4,g5,⟨A,g6⟩,⟨A',g7⟩,g8,g9⟩,by omega⟩
   ·have:i=ls.length:=by omega
    subst this
    rw [List.drop_length,Ey] at g8
    rw [List.drop_length,Vx] at g9
    have:=yG _ _ _ g8.symm
    rw [if_pos rfl] at this
    rw [Cc row,Al (by omega)]
    refine ⟨rfl,rfl,?_,rfl,rfl,rfl,rfl,rfl,rfl,rfl,rfl,rfl,rfl,⟨k+1,(L,D,Pa,By),N++ [row],rfl,by rw [g6,List.length_append];omega,g3,g4,g5,by rw [List.length_append,h5];rfl,?_,?_⟩,by omega⟩
    ·show N.length+1<=4294967296;omega
    ·rw [show 3001-(k+1)=f by omega]
     exact this.symm
    ·rw [show 3001-(k+1)=f by omega,hex,<-g9]
  ·have hk:k=L0.length:=by omega
   rw [hf,Xh,if_neg (by show ¬k<L0.length;omega)] at h7
   subst h7
   simp only [List.drop_zero,List.take_length]
   rfl
 ·have yH:Ek.fn (upto pn.toNat,())=some (Mj (upto pn.toNat)):=if_pos (by show short (upto pn.toNat);unfold short;omega)
  repeat' (first|exact ⟨rfl,rfl⟩|refine ⟨_,yH,?_⟩|refine ⟨?_,?_⟩)
theorem pT:Sound Try.prog 80 Og:=
 Sound.Cu Bj (Ah ke (Ah Mf (Ah bu (Ah dk (Ah Xq (Ah xm (Ah dj Aq))))))) mixed Try.func80 (by kernel_rfl) (by kernel_rfl) λx h=>FF x.1 h
end Go.Proofs.Ytjbdmibbbpdnnaa

namespace Go.Proofs.Ytjbdmibbbpdnnaa
open Go.RowKit
abbrev XP:Type:=PP×List (List Int)×List Int×(ByteArray->Option Int)×List Int×List Int×List (List Int)×Unit
noncomputable def Ab (p:PP):List (List Int):=(Dr p.2.2.1 (upto p.1.toNat)).1
noncomputable def cJ (p:PP):List Int:=(Dr p.2.2.1 (upto p.1.toNat)).2.1
def rV (e:XP):Prop:=Bi e.1=true/\e=Ib e.1
noncomputable def Pv (p:PP) (s:List Int):Int×Bool×Unit:=if s∈Ab p then ((List.idxOf s (Ab p):Nat),true,()) else (0,false,())
noncomputable def Nh (p:PP) (s:List Int):Bool:=Bi p&&decide (s∈Ab p)
noncomputable def KZ (e:Option XP) (s:List Int):Int×Bool×Unit:=match e with|some e=>Pv e.1 s|none=>(0,false,())
noncomputable abbrev jT:Spec:=Cu (.pair (.optr Wv) (.pair tL .unit)) (.pair tI (.pair .bool .unit)) true true (λx=>(∃e:XP,x.1=some e/\rV e)/\short x.2.1) (λx=>KZ x.1 x.2.1)
noncomputable def Qq (p:PP) (s:List Int):Option XP×Int×Bool×Unit:=if Bi p=true then (some (Ib p),(Pv p s).1,(Pv p s).2.1,()) else (none,0,false,())
noncomputable abbrev Uc:Spec:=Cu (.pair Dc (.pair tL .unit)) (.pair (.optr Wv) (.pair tI (.pair .bool .unit))) true false (λx=>Dg x.1/\short x.2.1) (λx=>Qq x.1 x.2.1)
abbrev Acs:Ty:= .clo 151 (.pair (.ptr tL) .unit)
def Wn (goal s:List Int):Bool:=List.all goal λx=>decide (Cb s x=x)
noncomputable abbrev jX:Spec:=Cu (.pair tI (.pair (.ptr tL) .unit)) .bool false true (λx=>short x.2.1/\0<=x.1/\x.1<List.length x.2.1) (λx=>!decide (Cb x.2.1 x.1=x.1))
noncomputable abbrev rG:Spec:=Cu (.pair tL (.pair Acs .unit)) tI false true (λx=>short x.1/\short x.2.1.1/\Hb (List.length x.2.1.1) x.1) (λx=>Bw (λy=>!decide (Cb x.2.1.1 y=y)) x.1 0)
noncomputable abbrev ry:Spec:=Cu (.pair tL (.pair Acs .unit)) .bool false true (λx=>short x.1/\short x.2.1.1/\Hb (List.length x.2.1.1) x.1) (λx=>List.any x.1 (λy=>!decide (Cb x.2.1.1 y=y)))
noncomputable abbrev Oi:Spec:=Cu (.pair tL (.pair tL .unit)) .bool false true (λx=>short x.1/\short x.2.1/\Hb (List.length x.2.1) x.1) (λx=>Wn x.1 x.2.1)
noncomputable def ak (p:PP):SS×Bool×Unit:=if Ay p=true then (Df p.2.2.1 (upto p.1.toNat),Bi p,()) else (([],[],[],false,()),false,())
noncomputable abbrev Rc:Spec:=Cu (.pair Dc .unit) (.pair Ww (.pair .bool .unit)) true false (λx=>Dg x.1) (λx=>ak x.1)
noncomputable abbrev Ud:Spec:=Cu (.pair Dc (.pair Ww (.pair tL .unit))) .bool false true (λx=>Dg x.1/\short x.2.2.1/\Ay x.1=true/\x.2.1=Df x.1.2.2.1 (upto x.1.1.toNat)) (λx=>decide (x.2.2.1∈Ab x.1))
noncomputable abbrev Md:Spec:=Cu (.pair Dc (.pair tL .unit)) .bool false true (λx=>Dg x.1/\short x.2.1) (λx=>Nh x.1 x.2.1)
noncomputable abbrev jW:Spec:=Cu (.pair Dc (.pair bC (.pair tL .unit))) .bool false true (λx=>Dg x.1/\Cs x.2.1/\short x.2.2.1) (λ_=>true)
abbrev CT:Type:=(Int×ByteArray×List (List Int)×PUnit)×List (List Int)×List Int×(ByteArray->Option Int)×List Int×List Int×List (List Int)×PUnit
theorem YG (e:Option (PP×List (List Int)×List Int×(ByteArray->Option Int)×List Int×List Int×List (List Int)×Unit)) (s:List Int) (P:(Int×Bool×Unit)->Prop):(∃(y3:CT),e=some y3/\ ∃(y4:Bool),Qx.fn (y3.1,s,())=some y4/\Br (!y4) (P ((0:Int),false,())) (∃(y5:CT),e=some y5/\ ∃(y6:ByteArray),Ek.fn (s,())=some y6/\P ((y5.2.2.2.1 y6).getD (Int.ofNat (nat_lit 0)),(y5.2.2.2.1 y6).isSome,())))=fnW Co (look [(141,Qx),(128,Ek)]) jT Try.f98 (e,s,()) P:=by kernel_rfl
theorem rU (p:Int×ByteArray×List (List Int)×Unit) (s:List Int) (P:(Option (PP×List (List Int)×List Int×(ByteArray->Option Int)×List Int×List Int×List (List Int)×Unit)×Int×Bool×Unit)->Prop):(∃(y3:Option ((Int×ByteArray×List (List Int)×PUnit)×List (List Int)×List Int×(ByteArray->Option Int)×List Int×List Int×List (List Int)×PUnit)×Bool×PUnit),Og.fn ((p.1,p.2.1,p.2.2.1,()),())=some y3/\Br (!y3.2.1) (P (none,(0:Int),false,())) (∃(y4:Int×Bool×PUnit),jT.fn (y3.1,s,())=some y4/\P (y3.1,y4.1,y4.2.1,())))=fnW Co (look [(80,Og),(98,jT)]) Uc Try.f65 (p,s,()) P:=by kernel_rfl
theorem YM (x:Int) (s:List Int) (P:Bool->Prop):(∃(y3:Int),idx s x=some y3/\P (y3 !=x))=fnW Co (look []) jX Try.f151 (x,s,()) P:=by kernel_rfl
theorem Ad7 (xs:List Int) (c:List Int×Unit) (P:Int->Prop):(Bn (λ(v3:Int×PUnit) (k4:Int×PUnit->Prop)=>Br (decide (v3.1<(↑xs.length:Int))) (∃(y5:Int),idx xs v3.1=some y5/\ ∃(y6:Bool),jX.fn (y5,c.1,())=some y6/\Br y6 (P v3.1) (k4 (IntKind.i64.wrap (v3.1+(1:Int)),()))) (P (-1:Int))) ((0:Int),PUnit.unit))=fnW Co (look [(151,jX)]) rG Try.f118 (xs,c,()) P:=by kernel_rfl
theorem Acz (xs:List Int) (c:List Int×Unit) (P:Bool->Prop):(∃(y3:Int),rG.fn (xs,c,())=some y3/\P (decide (y3>=(0:Int))))=fnW Co (look [(118,rG)]) ry Try.f131 (xs,c,()) P:=by kernel_rfl
theorem xI (g s:List Int) (P:Bool->Prop):(∃(y3:Bool),ry.fn (g,(s,()),())=some y3/\P !y3)=fnW Co (look [(131,ry)]) Oi Try.f121 (g,s,()) P:=by kernel_rfl
abbrev Ca:Type:=List (List Int)×List Int×List Int×Bool×PUnit
theorem AJ (p:Int×ByteArray×List (List Int)×Unit) (P:((List (List Int)×List Int×List Int×Bool×Unit)×Bool×Unit)->Prop):(∃(y2:Bool),Eu.fn ((p.1,p.2.1,p.2.2.1,()),())=some y2/\Br (!y2) (P ((List.take 0 (List.drop 0 []),List.take 0 (List.drop 0 []),List.take 0 (List.drop 0 []),false,()),false,())) (((((∃(y3:List Int),Cg.fn (p.1,())=some y3/\(∃(y4:Ca),Db.fn ((p.1,p.2.1,p.2.2.1,()),y3,())=some y4/\((P ((y4.1,y4.2.1,y4.2.2.1,y4.2.2.2.1,()),y4.2.2.2.1,())/\P ((y4.1,y4.2.1,y4.2.2.1,y4.2.2.2.1,()),y4.2.2.2.1,()))/\P ((y4.1,y4.2.1,y4.2.2.1,y4.2.2.2.1,()),y4.2.2.2.1,()))/\(P ((y4.1,y4.2.1,y4.2.2.1,y4.2.2.2.1,()),y4.2.2.2.1,())/\P ((y4.1,y4.2.1,y4.2.2.1,y4.2.2.2.1,()),y4.2.2.2.1,()))/\P ((y4.1,y4.2.1,y4.2.2.1,y4.2.2.2.1,()),y4.2.2.2.1,()))/\ ∃(y4:Ca),Db.fn ((p.1,p.2.1,p.2.2.1,()),y3,())=some y4/\((P ((y4.1,y4.2.1,y4.2.2.1,y4.2.2.2.1,()),y4.2.2.2.1,())/\P ((y4.1,y4.2.1,y4.2.2.1,y4.2.2.2.1,()),y4.2.2.2.1,()))/\P ((y4.1,y4.2.1,y4.2.2.1,y4.2.2.2.1,()),y4.2.2.2.1,()))/\(P ((y4.1,y4.2.1,y4.2.2.1,y4.2.2.2.1,()),y4.2.2.2.1,())/\P ((y4.1,y4.2.1,y4.2.2.1,y4.2.2.2.1,()),y4.2.2.2.1,()))/\P ((y4.1,y4.2.1,y4.2.2.1,y4.2.2.2.1,()),y4.2.2.2.1,()))/\ ∃(y3:List Int),Cg.fn (p.1,())=some y3/\ ∃(y4:Ca),Db.fn ((p.1,p.2.1,p.2.2.1,()),y3,())=some y4/\((P ((y4.1,y4.2.1,y4.2.2.1,y4.2.2.2.1,()),y4.2.2.2.1,())/\P ((y4.1,y4.2.1,y4.2.2.1,y4.2.2.2.1,()),y4.2.2.2.1,()))/\P ((y4.1,y4.2.1,y4.2.2.1,y4.2.2.2.1,()),y4.2.2.2.1,()))/\(P ((y4.1,y4.2.1,y4.2.2.1,y4.2.2.2.1,()),y4.2.2.2.1,())/\P ((y4.1,y4.2.1,y4.2.2.1,y4.2.2.2.1,()),y4.2.2.2.1,()))/\P ((y4.1,y4.2.1,y4.2.2.1,y4.2.2.2.1,()),y4.2.2.2.1,()))/\ ∃(y3:List Int),Cg.fn (p.1,())=some y3/\ ∃(y4:Ca),Db.fn ((p.1,p.2.1,p.2.2.1,()),y3,())=some y4/\((P ((y4.1,y4.2.1,y4.2.2.1,y4.2.2.2.1,()),y4.2.2.2.1,())/\P ((y4.1,y4.2.1,y4.2.2.1,y4.2.2.2.1,()),y4.2.2.2.1,()))/\P ((y4.1,y4.2.1,y4.2.2.1,y4.2.2.2.1,()),y4.2.2.2.1,()))/\(P ((y4.1,y4.2.1,y4.2.2.1,y4.2.2.2.1,()),y4.2.2.2.1,())/\P ((y4.1,y4.2.1,y4.2.2.1,y4.2.2.2.1,()),y4.2.2.2.1,()))/\P ((y4.1,y4.2.1,y4.2.2.1,y4.2.2.2.1,()),y4.2.2.2.1,()))/\ ∃(y3:List Int),Cg.fn (p.1,())=some y3/\ ∃(y4:Ca),Db.fn ((p.1,p.2.1,p.2.2.1,()),y3,())=some y4/\((P ((y4.1,y4.2.1,y4.2.2.1,y4.2.2.2.1,()),y4.2.2.2.1,())/\P ((y4.1,y4.2.1,y4.2.2.1,y4.2.2.2.1,()),y4.2.2.2.1,()))/\P ((y4.1,y4.2.1,y4.2.2.1,y4.2.2.2.1,()),y4.2.2.2.1,()))/\(P ((y4.1,y4.2.1,y4.2.2.1,y4.2.2.2.1,()),y4.2.2.2.1,())/\P ((y4.1,y4.2.1,y4.2.2.1,y4.2.2.2.1,()),y4.2.2.2.1,()))/\P ((y4.1,y4.2.1,y4.2.2.1,y4.2.2.2.1,()),y4.2.2.2.1,()))/\((((∃(y3:List Int),Cg.fn (p.1,())=some y3/\(∃(y4:Ca),Db.fn ((p.1,p.2.1,p.2.2.1,()),y3,())=some y4/\((P ((y4.1,y4.2.1,y4.2.2.1,y4.2.2.2.1,()),y4.2.2.2.1,())/\P ((y4.1,y4.2.1,y4.2.2.1,y4.2.2.2.1,()),y4.2.2.2.1,()))/\P ((y4.1,y4.2.1,y4.2.2.1,y4.2.2.2.1,()),y4.2.2.2.1,()))/\(P ((y4.1,y4.2.1,y4.2.2.1,y4.2.2.2.1,()),y4.2.2.2.1,())/\P ((y4.1,y4.2.1,y4.2.2.1,y4.2.2.2.1,()),y4.2.2.2.1,()))/\P ((y4.1,y4.2.1,y4.2.2.1,y4.2.2.2.1,()),y4.2.2.2.1,()))/\ ∃(y4:Ca),Db.fn ((p.1,p.2.1,p.2.2.1,()),y3,())=some y4/\((P ((y4.1,y4.2.1,y4.2.2.1,y4.2.2.2.1,()),y4.2.2.2.1,())/\P ((y4.1,y4.2.1,y4.2.2.1,y4.2.2.2.1,()),y4.2.2.2.1,()))/\P ((y4.1,y4.2.1,y4.2.2.1,y4.2.2.2.1,()),y4.2.2.2.1,()))/\(P ((y4.1,y4.2.1,y4.2.2.1,y4.2.2.2.1,()),y4.2.2.2.1,())/\P ((y4.1,y4.2.1,y4.2.2.1,y4.2.2.2.1,()),y4.2.2.2.1,()))/\P ((y4.1,y4.2.1,y4.2.2.1,y4.2.2.2.1,()),y4.2.2.2.1,()))/\ ∃(y3:List Int),Cg.fn (p.1,())=some y3/\ ∃(y4:Ca),Db.fn ((p.1,p.2.1,p.2.2.1,()),y3,())=some y4/\((P ((y4.1,y4.2.1,y4.2.2.1,y4.2.2.2.1,()),y4.2.2.2.1,())/\P ((y4.1,y4.2.1,y4.2.2.1,y4.2.2.2.1,()),y4.2.2.2.1,()))/\P ((y4.1,y4.2.1,y4.2.2.1,y4.2.2.2.1,()),y4.2.2.2.1,()))/\(P ((y4.1,y4.2.1,y4.2.2.1,y4.2.2.2.1,()),y4.2.2.2.1,())/\P ((y4.1,y4.2.1,y4.2.2.1,y4.2.2.2.1,()),y4.2.2.2.1,()))/\P ((y4.1,y4.2.1,y4.2.2.1,y4.2.2.2.1,()),y4.2.2.2.1,()))/\ ∃(y3:List Int),Cg.fn (p.1,())=some y3/\ ∃(y4:Ca),Db.fn ((p.1,p.2.1,p.2.2.1,()),y3,())=some y4/\((P ((y4.1,y4.2.1,y4.2.2.1,y4.2.2.2.1,()),y4.2.2.2.1,())/\P ((y4.1,y4.2.1,y4.2.2.1,y4.2.2.2.1,()),y4.2.2.2.1,()))/\P ((y4.1,y4.2.1,y4.2.2.1,y4.2.2.2.1,()),y4.2.2.2.1,()))/\(P ((y4.1,y4.2.1,y4.2.2.1,y4.2.2.2.1,()),y4.2.2.2.1,())/\P ((y4.1,y4.2.1,y4.2.2.1,y4.2.2.2.1,()),y4.2.2.2.1,()))/\P ((y4.1,y4.2.1,y4.2.2.1,y4.2.2.2.1,()),y4.2.2.2.1,()))/\(((∃(y3:List Int),Cg.fn (p.1,())=some y3/\(∃(y4:Ca),Db.fn ((p.1,p.2.1,p.2.2.1,()),y3,())=some y4/\((P ((y4.1,y4.2.1,y4.2.2.1,y4.2.2.2.1,()),y4.2.2.2.1,())/\P ((y4.1,y4.2.1,y4.2.2.1,y4.2.2.2.1,()),y4.2.2.2.1,()))/\P ((y4.1,y4.2.1,y4.2.2.1,y4.2.2.2.1,()),y4.2.2.2.1,()))/\(P ((y4.1,y4.2.1,y4.2.2.1,y4.2.2.2.1,()),y4.2.2.2.1,())/\P ((y4.1,y4.2.1,y4.2.2.1,y4.2.2.2.1,()),y4.2.2.2.1,()))/\P ((y4.1,y4.2.1,y4.2.2.1,y4.2.2.2.1,()),y4.2.2.2.1,()))/\ ∃(y4:Ca),Db.fn ((p.1,p.2.1,p.2.2.1,()),y3,())=some y4/\((P ((y4.1,y4.2.1,y4.2.2.1,y4.2.2.2.1,()),y4.2.2.2.1,())/\P ((y4.1,y4.2.1,y4.2.2.1,y4.2.2.2.1,()),y4.2.2.2.1,()))/\P ((y4.1,y4.2.1,y4.2.2.1,y4.2.2.2.1,()),y4.2.2.2.1,()))/\(P ((y4.1,y4.2.1,y4.2.2.1,y4.2.2.2.1,()),y4.2.2.2.1,())/\P ((y4.1,y4.2.1,y4.2.2.1,y4.2.2.2.1,()),y4.2.2.2.1,()))/\P ((y4.1,y4.2.1,y4.2.2.1,y4.2.2.2.1,()),y4.2.2.2.1,()))/\ ∃(y3:List Int),Cg.fn (p.1,())=some y3/\ ∃(y4:Ca),Db.fn ((p.1,p.2.1,p.2.2.1,()),y3,())=some y4/\((P ((y4.1,y4.2.1,y4.2.2.1,y4.2.2.2.1,()),y4.2.2.2.1,())/\P ((y4.1,y4.2.1,y4.2.2.1,y4.2.2.2.1,()),y4.2.2.2.1,()))/\P ((y4.1,y4.2.1,y4.2.2.1,y4.2.2.2.1,()),y4.2.2.2.1,()))/\(P ((y4.1,y4.2.1,y4.2.2.1,y4.2.2.2.1,()),y4.2.2.2.1,())/\P ((y4.1,y4.2.1,y4.2.2.1,y4.2.2.2.1,()),y4.2.2.2.1,()))/\P ((y4.1,y4.2.1,y4.2.2.1,y4.2.2.2.1,()),y4.2.2.2.1,()))/\(∃(y3:List Int),Cg.fn (p.1,())=some y3/\((∃(y4:Ca),Db.fn ((p.1,p.2.1,p.2.2.1,()),y3,())=some y4/\((P ((y4.1,y4.2.1,y4.2.2.1,y4.2.2.2.1,()),y4.2.2.2.1,())/\P ((y4.1,y4.2.1,y4.2.2.1,y4.2.2.2.1,()),y4.2.2.2.1,()))/\P ((y4.1,y4.2.1,y4.2.2.1,y4.2.2.2.1,()),y4.2.2.2.1,()))/\(P ((y4.1,y4.2.1,y4.2.2.1,y4.2.2.2.1,()),y4.2.2.2.1,())/\P ((y4.1,y4.2.1,y4.2.2.1,y4.2.2.2.1,()),y4.2.2.2.1,()))/\P ((y4.1,y4.2.1,y4.2.2.1,y4.2.2.2.1,()),y4.2.2.2.1,()))/\ ∃(y4:Ca),Db.fn ((p.1,p.2.1,p.2.2.1,()),y3,())=some y4/\((P ((y4.1,y4.2.1,y4.2.2.1,y4.2.2.2.1,()),y4.2.2.2.1,())/\P ((y4.1,y4.2.1,y4.2.2.1,y4.2.2.2.1,()),y4.2.2.2.1,()))/\P ((y4.1,y4.2.1,y4.2.2.1,y4.2.2.2.1,()),y4.2.2.2.1,()))/\(P ((y4.1,y4.2.1,y4.2.2.1,y4.2.2.2.1,()),y4.2.2.2.1,())/\P ((y4.1,y4.2.1,y4.2.2.1,y4.2.2.2.1,()),y4.2.2.2.1,()))/\P ((y4.1,y4.2.1,y4.2.2.1,y4.2.2.2.1,()),y4.2.2.2.1,()))/\ ∃(y4:Ca),Db.fn ((p.1,p.2.1,p.2.2.1,()),y3,())=some y4/\((P ((y4.1,y4.2.1,y4.2.2.1,y4.2.2.2.1,()),y4.2.2.2.1,())/\P ((y4.1,y4.2.1,y4.2.2.1,y4.2.2.2.1,()),y4.2.2.2.1,()))/\P ((y4.1,y4.2.1,y4.2.2.1,y4.2.2.2.1,()),y4.2.2.2.1,()))/\(P ((y4.1,y4.2.1,y4.2.2.1,y4.2.2.2.1,()),y4.2.2.2.1,())/\P ((y4.1,y4.2.1,y4.2.2.1,y4.2.2.2.1,()),y4.2.2.2.1,()))/\P ((y4.1,y4.2.1,y4.2.2.1,y4.2.2.2.1,()),y4.2.2.2.1,()))/\(∃(y3:List Int),Cg.fn (p.1,())=some y3/\ ∃(y4:Ca),Db.fn ((p.1,p.2.1,p.2.2.1,()),y3,())=some y4/\((P ((y4.1,y4.2.1,y4.2.2.1,y4.2.2.2.1,()),y4.2.2.2.1,())/\P ((y4.1,y4.2.1,y4.2.2.1,y4.2.2.2.1,()),y4.2.2.2.1,()))/\P ((y4.1,y4.2.1,y4.2.2.1,y4.2.2.2.1,()),y4.2.2.2.1,()))/\(P ((y4.1,y4.2.1,y4.2.2.1,y4.2.2.2.1,()),y4.2.2.2.1,())/\P ((y4.1,y4.2.1,y4.2.2.1,y4.2.2.2.1,()),y4.2.2.2.1,()))/\P ((y4.1,y4.2.1,y4.2.2.1,y4.2.2.2.1,()),y4.2.2.2.1,()))/\ ∃(y3:List Int),Cg.fn (p.1,())=some y3/\ ∃(y4:Ca),Db.fn ((p.1,p.2.1,p.2.2.1,()),y3,())=some y4/\((P ((y4.1,y4.2.1,y4.2.2.1,y4.2.2.2.1,()),y4.2.2.2.1,())/\P ((y4.1,y4.2.1,y4.2.2.1,y4.2.2.2.1,()),y4.2.2.2.1,()))/\P ((y4.1,y4.2.1,y4.2.2.1,y4.2.2.2.1,()),y4.2.2.2.1,()))/\(P ((y4.1,y4.2.1,y4.2.2.1,y4.2.2.2.1,()),y4.2.2.2.1,())/\P ((y4.1,y4.2.1,y4.2.2.1,y4.2.2.2.1,()),y4.2.2.2.1,()))/\P ((y4.1,y4.2.1,y4.2.2.1,y4.2.2.2.1,()),y4.2.2.2.1,()))/\(∃(y3:List Int),Cg.fn (p.1,())=some y3/\ ∃(y4:Ca),Db.fn ((p.1,p.2.1,p.2.2.1,()),y3,())=some y4/\((P ((y4.1,y4.2.1,y4.2.2.1,y4.2.2.2.1,()),y4.2.2.2.1,())/\P ((y4.1,y4.2.1,y4.2.2.1,y4.2.2.2.1,()),y4.2.2.2.1,()))/\P ((y4.1,y4.2.1,y4.2.2.1,y4.2.2.2.1,()),y4.2.2.2.1,()))/\(P ((y4.1,y4.2.1,y4.2.2.1,y4.2.2.2.1,()),y4.2.2.2.1,())/\P ((y4.1,y4.2.1,y4.2.2.1,y4.2.2.2.1,()),y4.2.2.2.1,()))/\P ((y4.1,y4.2.1,y4.2.2.1,y4.2.2.2.1,()),y4.2.2.2.1,()))/\(∃(y3:List Int),Cg.fn (p.1,())=some y3/\ ∃(y4:Ca),Db.fn ((p.1,p.2.1,p.2.2.1,()),y3,())=some y4/\((P ((y4.1,y4.2.1,y4.2.2.1,y4.2.2.2.1,()),y4.2.2.2.1,())/\P ((y4.1,y4.2.1,y4.2.2.1,y4.2.2.2.1,()),y4.2.2.2.1,()))/\P ((y4.1,y4.2.1,y4.2.2.1,y4.2.2.2.1,()),y4.2.2.2.1,()))/\(P ((y4.1,y4.2.1,y4.2.2.1,y4.2.2.2.1,()),y4.2.2.2.1,())/\P ((y4.1,y4.2.1,y4.2.2.1,y4.2.2.2.1,()),y4.2.2.2.1,()))/\P ((y4.1,y4.2.1,y4.2.2.1,y4.2.2.2.1,()),y4.2.2.2.1,()))/\ ∃(y3:List Int),Cg.fn (p.1,())=some y3/\ ∃(y4:Ca),Db.fn ((p.1,p.2.1,p.2.2.1,()),y3,())=some y4/\((P ((y4.1,y4.2.1,y4.2.2.1,y4.2.2.2.1,()),y4.2.2.2.1,())/\P ((y4.1,y4.2.1,y4.2.2.1,y4.2.2.2.1,()),y4.2.2.2.1,()))/\P ((y4.1,y4.2.1,y4.2.2.1,y4.2.2.2.1,()),y4.2.2.2.1,()))/\(P ((y4.1,y4.2.1,y4.2.2.1,y4.2.2.2.1,()),y4.2.2.2.1,())/\P ((y4.1,y4.2.1,y4.2.2.1,y4.2.2.2.1,()),y4.2.2.2.1,()))/\P ((y4.1,y4.2.1,y4.2.2.1,y4.2.2.2.1,()),y4.2.2.2.1,()))/\(∃(y3:List Int),Cg.fn (p.1,())=some y3/\ ∃(y4:Ca),Db.fn ((p.1,p.2.1,p.2.2.1,()),y3,())=some y4/\((P ((y4.1,y4.2.1,y4.2.2.1,y4.2.2.2.1,()),y4.2.2.2.1,())/\P ((y4.1,y4.2.1,y4.2.2.1,y4.2.2.2.1,()),y4.2.2.2.1,()))/\P ((y4.1,y4.2.1,y4.2.2.1,y4.2.2.2.1,()),y4.2.2.2.1,()))/\(P ((y4.1,y4.2.1,y4.2.2.1,y4.2.2.2.1,()),y4.2.2.2.1,())/\P ((y4.1,y4.2.1,y4.2.2.1,y4.2.2.2.1,()),y4.2.2.2.1,()))/\P ((y4.1,y4.2.1,y4.2.2.1,y4.2.2.2.1,()),y4.2.2.2.1,()))/\(∃(y3:List Int),Cg.fn (p.1,())=some y3/\ ∃(y4:Ca),Db.fn ((p.1,p.2.1,p.2.2.1,()),y3,())=some y4/\((P ((y4.1,y4.2.1,y4.2.2.1,y4.2.2.2.1,()),y4.2.2.2.1,())/\P ((y4.1,y4.2.1,y4.2.2.1,y4.2.2.2.1,()),y4.2.2.2.1,()))/\P ((y4.1,y4.2.1,y4.2.2.1,y4.2.2.2.1,()),y4.2.2.2.1,()))/\(P ((y4.1,y4.2.1,y4.2.2.1,y4.2.2.2.1,()),y4.2.2.2.1,())/\P ((y4.1,y4.2.1,y4.2.2.1,y4.2.2.2.1,()),y4.2.2.2.1,()))/\P ((y4.1,y4.2.1,y4.2.2.1,y4.2.2.2.1,()),y4.2.2.2.1,()))/\(∃(y3:List Int),Cg.fn (p.1,())=some y3/\ ∃(y4:Ca),Db.fn ((p.1,p.2.1,p.2.2.1,()),y3,())=some y4/\((P ((y4.1,y4.2.1,y4.2.2.1,y4.2.2.2.1,()),y4.2.2.2.1,())/\P ((y4.1,y4.2.1,y4.2.2.1,y4.2.2.2.1,()),y4.2.2.2.1,()))/\P ((y4.1,y4.2.1,y4.2.2.1,y4.2.2.2.1,()),y4.2.2.2.1,()))/\(P ((y4.1,y4.2.1,y4.2.2.1,y4.2.2.2.1,()),y4.2.2.2.1,())/\P ((y4.1,y4.2.1,y4.2.2.1,y4.2.2.2.1,()),y4.2.2.2.1,()))/\P ((y4.1,y4.2.1,y4.2.2.1,y4.2.2.2.1,()),y4.2.2.2.1,()))/\ ∃(y3:List Int),Cg.fn (p.1,())=some y3/\ ∃(y4:Ca),Db.fn ((p.1,p.2.1,p.2.2.1,()),y3,())=some y4/\((P ((y4.1,y4.2.1,y4.2.2.1,y4.2.2.2.1,()),y4.2.2.2.1,())/\P ((y4.1,y4.2.1,y4.2.2.1,y4.2.2.2.1,()),y4.2.2.2.1,()))/\P ((y4.1,y4.2.1,y4.2.2.1,y4.2.2.2.1,()),y4.2.2.2.1,()))/\(P ((y4.1,y4.2.1,y4.2.2.1,y4.2.2.2.1,()),y4.2.2.2.1,())/\P ((y4.1,y4.2.1,y4.2.2.1,y4.2.2.2.1,()),y4.2.2.2.1,()))/\P ((y4.1,y4.2.1,y4.2.2.1,y4.2.2.2.1,()),y4.2.2.2.1,())))=fnW Co (look [(110,Eu),(124,Cg),(112,Db)]) Rc Try.f75 (p,()) P:=by kernel_rfl
theorem HH (p:Int×ByteArray×List (List Int)×Unit) (f:List (List Int)×List Int×List Int×Bool×Unit) (s:List Int) (P:Bool->Prop):(∃(y4:Bool),Ug.fn ((p.1,p.2.1,p.2.2.1,()),s,())=some y4/\Br y4 (∃(y5:Int),Ko.fn ((f.1,f.2.1,f.2.2.1,f.2.2.2.1,()),s,())=some y5/\P (decide (y5>=(0:Int)))) (P false))=fnW Co (look [(103,Ug),(54,Ko)]) Ud Try.f53 (p,f,s,()) P:=by kernel_rfl
theorem uF (p:Int×ByteArray×List (List Int)×Unit) (s:List Int) (P:Bool->Prop):(∃(y3:(List (List Int)×List Int×List Int×Bool×PUnit)×Bool×PUnit),Rc.fn ((p.1,p.2.1,p.2.2.1,()),())=some y3/\Br y3.2.1 (∃(y4:Bool),Ud.fn ((p.1,p.2.1,p.2.2.1,()),(y3.1.1,y3.1.2.1,y3.1.2.2.1,y3.1.2.2.2.1,()),s,())=some y4/\P y4) (P false))=fnW Co (look [(75,Rc),(53,Ud)]) Md Try.f63 (p,s,()) P:=by kernel_rfl
theorem EI {p:List Int} (h:Ul p):Gd p=true:=by
 refine Fp.2 ⟨h.pos,h.len,λj h1 h2=>?_⟩
 have:=h.row _ (List.getElem_mem h2)
 exact ⟨by omega,by omega,λhm=>by
  obtain ⟨i,hi,e⟩:=List.mem_iff_getElem.1 hm
  have eH:i<j:=by rw [List.length_take] at hi;omega
  rw [List.getElem_take] at e
  exact (List.pairwise_iff_getElem.1 h.nodup i j (by omega) h2 eH) e⟩
theorem Cn {p:PP} (hw:Bi p=true):Ay p=true/\(Dr p.2.2.1 (upto p.1.toNat)).2.2=true:=Bool.and_eq_true_iff.1 hw
theorem CP {p:PP} (hw:Bi p=true):Reach p (Ab p) (cJ p) true:=by
 have h:=Yw (Cn hw).1
 rw [(Cn hw).2] at h
 exact h
theorem ub {p:PP} (hv:Ay p=true):Ot p p.1.toNat (Ab p) (cJ p):=(Yw hv).ok
theorem JG {p:PP} (hV:Valid p):AQ p.1.toNat λg=>some g∈p.2.2.1.map some:=
 ⟨by have:=hV.n;omega,λg Zj=>by obtain ⟨g',e,h⟩:=nN (gL hV).2.2 _ Zj;cases e;exact h⟩
theorem CQ {p:PP} (hv:Ay p=true) {x:List Int} (hx:x∈Ab p):Pm p.1.toNat x:=Xv.pm (JG (valid hv)) ((Yw hv).gen x hx)
theorem XQ {p:PP} (hV:Valid p) {x:List Int} (h:Pm p.1.toNat x):El p.1 x=true:=by
 have:=hV.n
 have:=h.1
 exact Fp.2 ⟨by omega,EI h.2⟩
theorem JF {p:PP} (_hV:Valid p) {x:List Int} (h:El p.1 x=true):Pm p.1.toNat x:=by
 obtain ⟨h1,h2⟩:=Fp.1 h
 exact ⟨by omega,cQ h2⟩
theorem MM {p:PP} (hv:Ay p=true) {x:List Int} (hx:x∈Ab p):El p.1 x=true:=XQ (valid hv) (CQ hv hx)
theorem RN {p:PP} (hv:Ay p=true) {x:List Int} (hx:x∈Ab p):Px x:= λy hy=>by
 have h1:=(ub hv).row x hx y hy
 have:=(valid hv).n
 omega
theorem RG {n:Nat} {x:List Int} (h:Pm n x):Px x:= λy hy=>by
 have h1:=h.row y hy
 have:=h.n2
 omega
theorem x5 {n:Nat} {x:List Int} (h:Pm n x):short x:=by
 have h1:=h.1
 have:=h.n2
 unfold short;omega
theorem su {p:PP} (hw:Bi p=true):(Ib p).2.1=Ab p/\(Ib p).2.2.1=cJ p:=by
 have h:=(Cn hw).2
 refine vI 3001 0 ([upto p.1.toNat],[0],[0],[0]) [] _ _ ?_
 show Gs p.2.2.1 (Ag p.2.2.1.length) 3001 0 [upto p.1.toNat] [0]=(Ab p,cJ p,true)
 rw [<-h]
 rfl
theorem PC {p:PP} (hw:Bi p=true) {s:List Int} (hs:Px s):(Ib p).2.2.2.1 (Mj s)=if s∈Ab p then some (((Ab p).idxOf s:Nat):Int) else none:=by
 show Ro (Ib p).2.1 (Mj s)=_
 rw [(su hw).1,qR hs λy hy=>RN (Cn hw).1 hy]
theorem XF (e:Option XP) (s:List Int) (h:(∃e':XP,e=some e'/\rV e')/\short s):fnW Co (look [(141,Qx),(128,Ek)]) jT Try.f98 (e,s,()) (λ(z:Int×Bool×Unit)=>z=KZ e s):=by
 obtain ⟨⟨e',rfl,h1,h2⟩,hs⟩:=h
 have hv:=(Cn h1).1
 refine Eq.mp (YG (some e') s _) ⟨e',rfl,_,if_pos hs,Br.of (λhb=>?_) λhb=>⟨e',rfl,_,if_pos hs,?_⟩⟩
 ·have hb:=Ci hb
  show (0,false,())=Pv e'.1 s
  unfold Pv
  rw [if_neg λhm=>hb (MM hv hm)]
 ·have hb:El e'.1.1 s=true:=by simpa using hb
  have hp:=JF (valid hv) hb
  dsimp only
  have e3:e'.2.2.2.1=(Ib e'.1).2.2.2.1:=by rw [<-h2]
  rw [e3,PC h1 (RG hp)]
  show _=Pv e'.1 s
  unfold Pv
  split<;>rfl
theorem zM:Sound Try.prog 98 jT:=
 Sound.Cu Bj (Ah gg (Ah dk Aq)) mixed Try.func98 (by kernel_rfl) (by kernel_rfl) λx h=>XF x.1 x.2.1 h
theorem FE (p:PP) (s:List Int) (h:Dg p/\short s):fnW Co (look [(80,Og),(98,jT)]) Uc Try.f65 (p,s,()) (λ(z:Option XP×Int×Bool×Unit)=>z=Qq p s):=by
 unfold Qq
 by_cases hw:Bi p=true
 ·rw [if_pos hw]
  have he:Og.fn ((p.1,p.2.1,p.2.2.1,()),())=some (some (Ib p),true,()):=(if_pos h.1).trans (congrArg some (if_pos hw))
  refine Eq.mp (rU p s _) ⟨_,he,λhb=>by simp at hb,λ_=>⟨_,if_pos ⟨⟨Ib p,rfl,hw,rfl⟩,h.2⟩,?_⟩⟩
  rfl
 ·rw [if_neg hw]
  have he:Og.fn ((p.1,p.2.1,p.2.2.1,()),())=some (none,false,()):=(if_pos h.1).trans (congrArg some (if_neg hw))
  exact Eq.mp (rU p s _) ⟨_,he,λ_=>rfl,λhb=>by simp at hb⟩
theorem pS:Sound Try.prog 65 Uc:=
 Sound.Cu Bj (Ah pT (Ah zM Aq)) mixed Try.func65 (by kernel_rfl) (by kernel_rfl) λx h=>FE x.1 x.2.1 h
theorem WU {s goal:List Int} (h:Hb s.length goal) {j:Nat} (hj:j<goal.length):0<=goal[j]/\goal[j]<s.length:=h _ (List.getElem_mem hj)
theorem XL (x:Int) (s:List Int) (h:short s/\0<=x/\x<(s.length:Int)):fnW Co (look []) jX Try.f151 (x,s,()) (λ(z:Bool)=>z=!decide (Cb s x=x)):=by
 obtain ⟨_,h1,h2⟩:=h
 obtain ⟨xn,rfl⟩:=Int.eq_ofNat_of_zero_le h1
 refine Eq.mp (YM (xn:Int) s _) ⟨_,Ap (by omega),?_⟩
 have e:Cb s (xn:Int)=s[xn]'(by omega):=by unfold Cb;rw [Int.toNat_natCast,Cw]
 rw [e,Bool.eq_iff_iff]
 simp
theorem zS:Sound Try.prog 151 jX:=
 Sound.Cu Bj Aq mixed Try.func151 (by kernel_rfl) (by kernel_rfl) λx h=>XL x.1 x.2.1 h
theorem Ach (xs:List Int) (c:List Int×Unit) (h:short xs/\short c.1/\Hb (List.length c.1) xs):fnW Co (look [(151,jX)]) rG Try.f118 (xs,c,()) (λ(z:Int)=>z=Bw (λy=>!decide (Cb c.1 y=y)) xs 0):=by
 obtain ⟨h,h4,h5⟩:=h
 unfold short at h
 refine Eq.mp (Ad7 xs c _) ?_
 refine Am xs.length (λv=>v.1) (λj _=>Bw (λy=>!decide (Cb c.1 y=y)) (xs.drop j) j=Bw (λy=>!decide (Cb c.1 y=y)) xs 0) rfl (by simp) ?_
 rintro j ⟨i,⟨⟩⟩ K hj hi hR hK
 dsimp only at hi⊢
 subst hi
 refine Br.dec (λhl=>?_) λhl=>?_
 ·have hl:j<xs.length:=by omega
  rw [List.drop_eq_getElem_cons hl] at hR
  simp only [Bw] at hR
  refine ⟨_,Ap hl,_,if_pos ⟨h4,WU h5 hl⟩,⟨λhe=>?_,λhe=>?_⟩⟩
  ·have he:(!decide (Cb c.1 xs[j]=xs[j]))=true:=he
   rw [if_pos he] at hR
   exact hR
  ·have he:(!decide (Cb c.1 xs[j]=xs[j]))=false:=he
   rw [if_neg (by rw [he];decide)] at hR
   rw [Al (by omega)]
   exact hK hl _ rfl (by push_cast;exact hR)
 ·have:j=xs.length:=by omega
  subst this
  rw [List.drop_length] at hR
  exact hR
theorem GM:Sound Try.prog 118 rG:=
 Sound.Cu Bj (Ah zS Aq) mixed Try.func118 (by kernel_rfl) (by kernel_rfl) λx h=>Ach x.1 x.2.1 h
theorem Ac8 (xs:List Int) (c:List Int×Unit) (h:short xs/\short c.1/\Hb (List.length c.1) xs):fnW Co (look [(118,rG)]) ry Try.f131 (xs,c,()) (λ(z:Bool)=>z=List.any xs (λy=>!decide (Cb c.1 y=y))):=by
 refine Eq.mp (Acz xs c _) ⟨_,if_pos h,?_⟩
 rw [Bool.eq_iff_iff,decide_eq_true_iff]
 exact Wm _ xs 0 (Int.le_refl 0)
theorem GF:Sound Try.prog 131 ry:=
 Sound.Cu Bj (Ah GM Aq) mixed Try.func131 (by kernel_rfl) (by kernel_rfl) λx h=>Ac8 x.1 x.2.1 h
theorem wY (g s:List Int) (h:short g/\short s/\Hb s.length g):fnW Co (look [(131,ry)]) Oi Try.f121 (g,s,()) (λ(z:Bool)=>z=Wn g s):=by
 refine Eq.mp (xI g s _) ⟨_,if_pos h,?_⟩
 dsimp only
 unfold Wn
 rw [List.any_eq_not_all_not,Bool.not_not]
 simp only [Bool.not_not]
theorem lI:Sound Try.prog 121 Oi:=
 Sound.Cu Bj (Ah GF Aq) mixed Try.func121 (by kernel_rfl) (by kernel_rfl) λx h=>wY x.1 x.2.1 h
theorem jr {p:PP} {s:List Int} :Nh p s=true↔Bi p=true/\s∈Ab p:=by
 unfold Nh;rw [Bool.and_eq_true,decide_eq_true_iff]
theorem yz {p:PP} {s:List Int} :(Qq p s).2.2.1=Nh p s:=by
 unfold Qq Pv Nh
 by_cases hw:Bi p=true
 ·rw [if_pos hw,hw,Bool.true_and]
  by_cases hm:s∈Ab p
  ·rw [if_pos hm,decide_eq_true hm]
  ·rw [if_neg hm,decide_eq_false hm]
 ·rw [if_neg hw,Bool.not_eq_true _|>.mp hw,Bool.false_and]
theorem zr (p:PP) (h:Dg p):fnW Co (look [(110,Eu),(124,Cg),(112,Db)]) Rc Try.f75 (p,()) (λ(z:SS×Bool×Unit)=>z=ak p):=by
 refine Eq.mp (AJ p _) ⟨_,if_pos h,?_⟩
 show Br (!Ay p) _ _
 unfold ak
 by_cases hv:Ay p=true
 ·rw [if_pos hv,hv]
  refine ⟨λhb=>by simp at hb,λ_=>?_⟩
  have hn:=(valid hv).n
  have hid:Cg.fn (p.1,())=some (upto p.1.toNat):=if_pos ⟨by show 0<=p.1;omega,by show p.1<=20;omega⟩
  have TX: ∀y∈upto p.1.toNat,0<=y/\y<p.1:= λy hy=>by have:=Is.1 hy;omega
  have vX:Db.fn ((p.1,p.2.1,p.2.2.1,()),upto p.1.toNat,())=some (Df p.2.2.1 (upto p.1.toNat)):=if_pos ⟨hv,by show (upto p.1.toNat).length<=20;rw [Pr];omega,TX⟩
  have hz:(((Df p.2.2.1 (upto p.1.toNat)).1,(Df p.2.2.1 (upto p.1.toNat)).2.1,(Df p.2.2.1 (upto p.1.toNat)).2.2.1,(Df p.2.2.1 (upto p.1.toNat)).2.2.2.1,()),(Df p.2.2.1 (upto p.1.toNat)).2.2.2.1,())=(Df p.2.2.1 (upto p.1.toNat),Bi p,()):=by
   unfold Bi
   rw [hv,Bool.true_and]
   rfl
  repeat' (first|exact hz|refine ⟨_,hid,?_⟩|refine ⟨_,vX,?_⟩|refine ⟨?_,?_⟩)
 ·rw [if_neg hv]
  refine ⟨λ_=>rfl,λhb=>?_⟩
  exact absurd (by simpa using hb) hv
theorem oo:Sound Try.prog 75 Rc:=
 Sound.Cu Bj (Ah Rf (Ah oa (Ah l9 Aq))) mixed Try.func75 (by kernel_rfl) (by kernel_rfl) λx h=>zr x.1 h
theorem FG (p:PP) (f:SS) (s:List Int) (h:Dg p/\short s/\Ay p=true/\f=Df p.2.2.1 (upto p.1.toNat)):fnW Co (look [(103,Ug),(54,Ko)]) Ud Try.f53 (p,f,s,()) (λ(z:Bool)=>z=decide (s∈Ab p)):=by
 obtain ⟨hp,hs,hv,rfl⟩:=h
 refine Eq.mp (HH p _ s _) ⟨_,if_pos ⟨hp,hs⟩,?_⟩
 show Br (Ay p&&El p.1 s) _ _
 rw [hv,Bool.true_and]
 refine Br.of (λhb=>?_) λhb=>?_
 ·have EC:=JF (valid hv) hb
  refine ⟨_,if_pos (by show Cv s.length (Ab p) (Td (Ab p));rw [EC.1];exact (ub hv).ok),?_⟩
  show decide (bn (Ab p) s>=0)=_
  unfold bn
  split
  ·rename_i hm
   rw [decide_eq_true hm]
   exact decide_eq_true (by omega)
  ·rename_i hm
   rw [decide_eq_false hm]
   rfl
 ·exact (decide_eq_false λhm=>by rw [MM hv hm] at hb;cases hb).symm
theorem pU:Sound Try.prog 53 Ud:=
 Sound.Cu Bj (Ah iR (Ah aO Aq)) mixed Try.func53 (by kernel_rfl) (by kernel_rfl) λx h=>FG x.1 x.2.1 x.2.2.1 h
theorem tu (p:PP) (s:List Int) (h:Dg p/\short s):fnW Co (look [(75,Rc),(53,Ud)]) Md Try.f63 (p,s,()) (λ(z:Bool)=>z=Nh p s):=by
 refine Eq.mp (uF p s _) ⟨_,if_pos h.1,?_⟩
 dsimp only
 unfold Nh ak
 by_cases hv:Ay p=true
 ·rw [if_pos hv]
  show Br (Bi p) _ _
  refine Br.of (λhw=>?_) λhw=>by rw [hw,Bool.false_and]
  rw [hw,Bool.true_and]
  exact ⟨_,if_pos ⟨h.1,h.2,hv,rfl⟩,rfl⟩
 ·rw [if_neg hv]
  refine ⟨λhb=>by simp at hb,λ_=>?_⟩
  have:Bi p=false:=by unfold Bi;rw [Bool.not_eq_true _|>.mp hv,Bool.false_and]
  rw [this,Bool.false_and]
theorem kc:Sound Try.prog 63 Md:=
 Sound.Cu Bj (Ah oo (Ah pU Aq)) mixed Try.func63 (by kernel_rfl) (by kernel_rfl) λx h=>tu x.1 x.2.1 h
theorem GU {xs:List (List Int)} {room:Int} (hr:roomy room) (h: ¬Js xs room<0):(Le xs:Int)<=room-Js xs room/\roomy (Js xs room):=by
 have e2:=xt h
 have:=wy hr h
 exact ⟨by omega,this⟩
theorem sf {b:Bool} (h:(!b)=true):b=false:=by cases b<;>simp_all
theorem wG {p:PP} {gs:List (List Int)} (h:Je p gs=true) {j:Nat} (hj:j<gs.length):Fh p.1 gs[j]=true:=by
 obtain ⟨_,_,h3,_⟩:=Fp.1 h
 exact (h3 j hj hj).1
theorem oz {p:PP} (hv:Ay p=true):(Ab p).length<=3000:=(ub hv).ok.oU
theorem dU {p:PP} {t s:List Int} (hv:Ay p=true) (hs:s∈Ab p) (ht:Dl p t=true):Hb s.length t:=by
 have h1:=(CQ hv hs).1
 have hn:=(valid hv).n
 intro y hy
 have:=(Fy ht).2 y hy
 omega
end Go.Proofs.Ytjbdmibbbpdnnaa

namespace Go.Proofs.Ytjbdmibbbpdnnaa
open Go.RowKit
def Ip (g:List (List Int)) (s w:List Int):List Int:=w.foldl (λq l=>Aa q (Af g l)) s
theorem EO {p:PP} (hV:Valid p) {l:Int} (hl:Er (List.length p.2.2.1) l):Pm p.1.toNat (Af p.2.2.1 l):=by
 have hn:=hV.n
 obtain ⟨k,hk,Ja⟩:=Ma hl
 have hp:Pm p.1.toNat (p.2.2.1[k]):=⟨by have:=hV.len _ (List.getElem_mem hk);omega,cQ (hV.perm _ (List.getElem_mem hk))⟩
 rcases Ja with rfl|rfl
 ·rw [Lo hk];exact hp
 ·rw [Ln hk];exact hp.inv
theorem uW {p:PP} (hV:Valid p): ∀(w s:List Int),(∀l∈w,Er (List.length p.2.2.1) l)->Pm p.1.toNat s->Pm p.1.toNat (Ip p.2.2.1 s w)
 | [],s,_,hs=>hs
 |l::w,s,hl,hs=>by
  have h1:=EO hV (hl l (by simp))
  exact uW hV w _ (λl' h=>hl l' (List.mem_cons_of_mem _ h)) (hs.comp h1)
theorem ya {g:List (List Int)} {s w:List Int} {j:Nat} (h:j<w.length):Ip g s (w.take (j+1))=Aa (Ip g s (w.take j)) (Af g w[j]):=by
 unfold Ip
 rw [List.take_add_one,List.getElem?_eq_getElem h,Option.toList_some,List.foldl_append]
 rfl
theorem XR {n:Nat} {q:List Int} (h:Pm n q):q.length<=20:=by have:=h.1;have:=h.n2;omega
theorem MA {p:PP} (hV:Valid p) {q:List Int} (h:Pm p.1.toNat q): ∀y∈q,0<=y/\y<p.1:= λy hy=>by
 have:=h.row y hy
 have:=hV.n
 omega
theorem PF {p:PP} (hv:Ay p=true) {g s:List Int} (hs:Pm p.1.toNat s) (hg:Fh p.1 g=true):Hb s.length g:=by
 have h1:=hs.1
 have hn:=(valid hv).n
 have h2:=Fy (p:=p) (t:=g) (Kb.2 ⟨hv,hg⟩)
 intro y hy
 have:=h2.2 y hy
 omega
end Go.Proofs.Ytjbdmibbbpdnnaa

namespace Go.Proofs.Ytjbdmibbbpdnnaa
open Go.RowKit
theorem map_take {α β:Type} (f:α->β) {xs:List α} {j:Nat} (h:j<xs.length):(xs.take (j+1)).map f=(xs.take j).map f++ [f xs[j]]:=by
 rw [List.take_add_one,List.getElem?_eq_getElem h,List.map_append];rfl
theorem Abz {p:PP} {s:List Int} (h:s∈Ab p):0<=(Pv p s).1/\(Pv p s).1<(Ab p).length/\(Ab p).getD (Pv p s).1.toNat []=s:=by
 unfold Pv
 rw [if_pos h]
 have h1:=List.idxOf_lt_length_of_mem h
 refine ⟨Int.natCast_nonneg _,by show ((List.idxOf s (Ab p):Nat):Int)<_;omega,?_⟩
 show (Ab p).getD ((List.idxOf s (Ab p):Nat):Int).toNat []=s
 rw [Int.toNat_natCast,Cw h1]
 exact List.getElem_idxOf h1
theorem MN {p:PP} (hv:Ay p=true):1<=(Ab p).length:=by
 obtain ⟨A,h⟩:=(Yw hv).first
 show 1<=(Dr p.2.2.1 (upto p.1.toNat)).1.length
 rw [h];simp
end Go.Proofs.Ytjbdmibbbpdnnaa
