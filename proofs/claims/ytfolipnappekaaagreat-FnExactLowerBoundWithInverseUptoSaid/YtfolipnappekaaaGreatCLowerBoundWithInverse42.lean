/-
  Part 43 of the proof that the statement FnExactLowerBoundWithInverse holds.
-/
import Derived.Test.YtfolipnappekaaaGreatCLowerBoundWithInverse41
namespace Go.Proofs.YtfolipnappekaaaGreat
open Go.RowKit
def ap (p:List Int) (i:Nat):Nat:=(Ii p (i:Int)).toNat
def Pm (n:Nat) (p:List Int):Prop:=p.length=n/\Uq p
theorem Pm.n1 {n:Nat} {p:List Int} (h:Pm n p):1<=n:=h.1▸h.2.pos
theorem Pm.n2 {n:Nat} {p:List Int} (h:Pm n p):n<=20:=h.1▸h.2.len
theorem Pm.Tj {n:Nat} {p:List Int} (h:Pm n p) {i:Nat} (hi:i<n):Ii p (i:Int)=(ap p i:Int)/\ap p i<n:=by
 have kN:i<p.length:=by rw [h.1];exact hi
 have:=h.2.row _ (List.getElem_mem kN)
 unfold ap
 rw [Ho kN]
 have h1:=h.1
 omega
theorem Pm.lt {n:Nat} {p:List Int} (h:Pm n p) {i:Nat} (hi:i<n):ap p i<n:=(h.Tj hi).2
theorem Pm.ext {n:Nat} {p q:List Int} (h:Pm n p) (k:Pm n q) (e: ∀i,i<n->ap p i=ap q i):p=q:=by
 refine List.ext_getElem (by rw [h.1,k.1]) λi h1 h2=>?_
 have hi:i<n:=by rw [<-h.1];exact h1
 have a:=(h.Tj hi).1
 have b:=(k.Tj hi).1
 rw [Ho h1] at a
 rw [Ho h2] at b
 rw [a,b,e i hi]
theorem Pm.inj {n:Nat} {p:List Int} (h:Pm n p) {i j:Nat} (hi:i<n) (hj:j<n) (e:ap p i=ap p j):i=j:=
 h.2.inj i j (by rw [h.1];exact hi) (by rw [h.1];exact hj) e
theorem Pm.MF {n:Nat} {p:List Int} (h:Pm n p) {k:Nat} (hk:k<n): ∃i,i<n/\ap p i=k:=by
 obtain ⟨i,h1,h2⟩:=h.2.MF k (by rw [h.1];exact hk)
 exact ⟨i,by rw [<-h.1];exact h1,h2⟩
theorem Pm.of {n:Nat} {p:List Int} (hl:p.length=n) (h1:1<=n) (h2:n<=20) (f:Nat->Nat) (hf: ∀i,i<n->p[i]?=some (f i:Int)/\f i<n) (hi: ∀i j,i<n->j<n->f i=f j->i=j):Pm n p:=by
 refine ⟨hl,by omega,by omega,λy hy=>?_,?_⟩
 ·obtain ⟨i,hi,rfl⟩:=List.mem_iff_getElem.1 hy
  obtain ⟨h3,h4⟩:=hf i (by omega)
  rw [List.getElem?_eq_getElem hi] at h3
  rw [Option.some.inj h3]
  omega
 ·refine List.pairwise_iff_getElem.2 λi j h3 h4 h5 h6=>?_
  have a:=(hf i (by omega)).1
  have b:=(hf j (by omega)).1
  rw [List.getElem?_eq_getElem h3] at a
  rw [List.getElem?_eq_getElem h4] at b
  rw [Option.some.inj a,Option.some.inj b] at h6
  have:=hi i j (by omega) (by omega) (by omega)
  omega
theorem w5 {n:Nat} {p q:List Int} (hp:Pm n p) (hq:Pm n q) {i:Nat} (hi:i<n):(Aa p q)[i]?=some (ap q (ap p i):Int):=by
 have h1:i<p.length:=by rw [hp.1];exact hi
 unfold Aa
 rw [List.getElem?_map,List.getElem?_eq_getElem h1]
 have a:=(hp.Tj hi).1
 rw [Ho h1] at a
 simp only [Option.map_some,a]
 rw [(hq.Tj (hp.Tj hi).2).1]
theorem Pm.comp {n:Nat} {p q:List Int} (hp:Pm n p) (hq:Pm n q):Pm n (Aa p q):=
 Pm.of (by rw [Jp,hp.1]) hp.n1 hp.n2 (λi=>ap q (ap p i)) (λi hi=>⟨w5 hp hq hi,hq.lt (hp.lt hi)⟩) λi j hi hj e=>hp.inj hi hj (hq.inj (hp.lt hi) (hp.lt hj) e)
theorem JL {p:List Int} {i k:Nat} (h:p[i]?=some (k:Int)):ap p i=k:=by
 unfold ap Ii
 rw [Int.toNat_natCast,List.getD_eq_getElem?_getD,h]
 simp
theorem Gx {n:Nat} {p q:List Int} (hp:Pm n p) (hq:Pm n q) {i:Nat} (hi:i<n):ap (Aa p q) i=ap q (ap p i):=JL (w5 hp hq hi)
theorem pa {n i:Nat} (hi:i<n):(upto n)[i]?=some (i:Int):=by simp [upto,hi]
theorem ey {n i:Nat} (hi:i<n):ap (upto n) i=i:=JL (pa hi)
theorem Pm.id {n:Nat} (h1:1<=n) (h2:n<=20):Pm n (upto n):=Pm.of (by simp [upto]) h1 h2 (λi=>i) (λi hi=>⟨pa hi,hi⟩) λ_ _ _ _ e=>e
theorem DT {n:Nat} {p:List Int} (hp:Pm n p) {i:Nat} (hi:i<n):(Af p)[ap p i]?=some (i:Int):=LH hp.2 (by rw [hp.1];exact hi)
theorem dz {n:Nat} {p:List Int} (hp:Pm n p) {i:Nat} (hi:i<n):ap (Af p) (ap p i)=i:=JL (DT hp hi)
theorem sH {n:Nat} {p:List Int} (hp:Pm n p) {k:Nat} (hk:k<n):ap p (ap (Af p) k)=k:=by
 obtain ⟨i,hi,rfl⟩:=hp.MF hk
 rw [dz hp hi]
theorem Pm.inv {n:Nat} {p:List Int} (hp:Pm n p):Pm n (Af p):=by
 refine Pm.of (by rw [il,hp.1]) hp.n1 hp.n2 (λk=>ap (Af p) k) (λk hk=>?_) λi j hi hj e=>?_
 ·obtain ⟨i,hi,rfl⟩:=hp.MF hk
  rw [dz hp hi]
  exact ⟨DT hp hi,hi⟩
 ·rw [<-sH hp hi,<-sH hp hj,e]
theorem Fv {n:Nat} {p q r:List Int} (hp:Pm n p) (hq:Pm n q) (hr:Pm n r):Aa (Aa p q) r=Aa p (Aa q r):=
 ((hp.comp hq).comp hr).ext (hp.comp (hq.comp hr)) λi hi=>by rw [Gx (hp.comp hq) hr hi,Gx hp hq hi,Gx hp (hq.comp hr) hi,Gx hq hr (hp.lt hi)]
theorem comp_id {n:Nat} {p:List Int} (hp:Pm n p):Aa p (upto n)=p:=
 (hp.comp (Pm.id hp.n1 hp.n2)).ext hp λi hi=>by rw [Gx hp (Pm.id hp.n1 hp.n2) hi,ey (hp.lt hi)]
theorem id_comp {n:Nat} {p:List Int} (hp:Pm n p):Aa (upto n) p=p:=
 ((Pm.id hp.n1 hp.n2).comp hp).ext hp λi hi=>by rw [Gx (Pm.id hp.n1 hp.n2) hp hi,ey hi]
theorem gN {n:Nat} {p:List Int} (hp:Pm n p):Aa p (Af p)=upto n:=
 (hp.comp hp.inv).ext (Pm.id hp.n1 hp.n2) λi hi=>by rw [Gx hp hp.inv hi,dz hp hi,ey hi]
theorem Yu {n:Nat} {p:List Int} (hp:Pm n p):Aa (Af p) p=upto n:=
 (hp.inv.comp hp).ext (Pm.id hp.n1 hp.n2) λi hi=>by rw [Gx hp.inv hp hi,sH hp hi,ey hi]
theorem nz {n:Nat} {p q:List Int} (hp:Pm n p) (hq:Pm n q) (h:Aa p q=upto n):Af p=q:=by
 rw [<-comp_id hp.inv,<-h,<-Fv hp.inv hp hq,Yu hp,id_comp hq]
theorem inv_mul {n:Nat} {p q:List Int} (hp:Pm n p) (hq:Pm n q):Af (Aa p q)=Aa (Af q) (Af p):=
 nz (hp.comp hq) (hq.inv.comp hp.inv) (by
  rw [Fv hp hq (hq.inv.comp hp.inv),<-Fv hq hq.inv hp.inv,gN hq,id_comp hp.inv,gN hp])
theorem inv_inv {n:Nat} {p:List Int} (hp:Pm n p):Af (Af p)=p:=nz hp.inv hp (Yu hp)
theorem LI {n:Nat} (h1:1<=n) (h2:n<=20):Af (upto n)=upto n:=nz (Pm.id h1 h2) (Pm.id h1 h2) (comp_id (Pm.id h1 h2))
inductive Wa (n:Nat) (S:List Int->Prop):List Int->Prop where
 |id:Wa n S (upto n)
 |mul {p g:List Int} :Wa n S p->S g->Wa n S (Aa p g)
 |inv {p g:List Int} :Wa n S p->S g->Wa n S (Aa p (Af g))
def vE (n:Nat) (S:List Int->Prop):Prop:=(1<=n/\n<=20)/\ ∀g,S g->Pm n g
theorem Wa.pm {n:Nat} {S:List Int->Prop} (hS:vE n S) {p:List Int} (h:Wa n S p):Pm n p:=by
 induction h with
 |id=>exact Pm.id hS.1.1 hS.1.2
 |mul _ hg ih=>exact ih.comp (hS.2 _ hg)
 |inv _ hg ih=>exact ih.comp (hS.2 _ hg).inv
theorem Wa.comp {n:Nat} {S:List Int->Prop} (hS:vE n S) {p q:List Int} (hp:Wa n S p) (hq:Wa n S q):Wa n S (Aa p q):=by
 induction hq with
 |id=>rw [comp_id (hp.pm hS)];exact hp
 |mul hq hg ih=>rw [<-Fv (hp.pm hS) (hq.pm hS) (hS.2 _ hg)];exact .mul ih hg
 |inv hq hg ih=>rw [<-Fv (hp.pm hS) (hq.pm hS) (hS.2 _ hg).inv];exact .inv ih hg
theorem Wa.one {n:Nat} {S:List Int->Prop} (hS:vE n S) {g:List Int} (hg:S g):Wa n S g:=by
 have:=Wa.mul (n:=n) (S:=S) .id hg
 rwa [id_comp (hS.2 g hg)] at this
theorem Wa.XJ {n:Nat} {S:List Int->Prop} (hS:vE n S) {g:List Int} (hg:S g):Wa n S (Af g):=by
 have:=Wa.inv (n:=n) (S:=S) .id hg
 rwa [id_comp (hS.2 g hg).inv] at this
theorem Wa.im {n:Nat} {S:List Int->Prop} (hS:vE n S) {p:List Int} (hp:Wa n S p):Wa n S (Af p):=by
 induction hp with
 |id=>rw [LI hS.1.1 hS.1.2];exact .id
 |mul hq hg ih=>rw [inv_mul (hq.pm hS) (hS.2 _ hg)];exact (Wa.XJ hS hg).comp hS ih
 |inv hq hg ih=>rw [inv_mul (hq.pm hS) (hS.2 _ hg).inv,inv_inv (hS.2 _ hg)];exact (Wa.one hS hg).comp hS ih
theorem Wa.trans {n:Nat} {S S':List Int->Prop} (VB:vE n S') (h: ∀g,S g->Wa n S' g) {p:List Int} (hp:Wa n S p):Wa n S' p:=by
 induction hp with
 |id=>exact .id
 |mul _ hg ih=>exact ih.comp VB (h _ hg)
 |inv _ hg ih=>exact ih.comp VB ((h _ hg).im VB)
abbrev PO:=Option (List Int)
abbrev Row:=List PO
abbrev Av:=List Row
def Ny (row:Row):List Int:=(upto row.length).filter λy=>(row.getD y.toNat none).isSome
def Dx (T:Av):Nat->Nat->List Int->Bool
 |0,_,_=>true
 |k+1,i,p=>match (T.getD i []).getD (Ii p (i:Int)).toNat none with
  |none=>false
  |some t=>Dx T k (i+1) (Aa p (Af t))
def Hb (row:Row):Nat:=row.countP (·.isNone)
def Tl (x:Int) (s:Row×List Int) (o:PO):Row×List Int:=
 match s.1.getD (Ii (o.getD []) x).toNat none with
 |some _=>s
 |none=>(s.1.set (Ii (o.getD []) x).toNat (some (Aa ((s.1.getD x.toNat none).getD []) (o.getD []))),s.2++ [Ii (o.getD []) x])
def Tb (x:Int) (gs:List PO) (s:Row×List Int):Row×List Int:=gs.foldl (Tl x) s
def Sp (gs:List PO):Nat->List Int->Row->Row
 |0,_,row=>row
 |_+1,[],row=>row
 |f+1,x::q,row=>Sp gs f (Tb x gs (row,q)).2 (Tb x gs (row,q)).1
def Rn (gs:List PO) (row:Row):Row:=Sp gs 100 (Ny row) row
def Mz (row:Row) (y:Int) (g:PO):List Int:=
 Aa (Aa ((row.getD y.toNat none).getD []) (g.getD [])) (Af ((row.getD (Ii (g.getD []) y).toNat none).getD []))
def bp (row:Row) (gs:List PO):List (List Int):=(Ny row).flatMap λy=>gs.map λg=>Mz row y g
def Dn:Nat->Nat->List Int->Av×Av->Av×Av
 |0,_,_,s=>s
 |k+1,l,p,s=>
  if Dx s.2 (k+1) l p=true then s else
   (bp (Rn (s.1.getD l []++ [some p]) (s.2.getD l [])) (s.1.getD l []++ [some p])).foldl (λs q=>Dn k (l+1) q s)
    (s.1.set l (s.1.getD l []++ [some p]),s.2.set l (Rn (s.1.getD l []++ [some p]) (s.2.getD l [])))
def Fx (l:Nat) (p:List Int):Prop:= ∀i,i<l->ap p i=i
def Gn (n:Nat) (gs:List PO):List Int->Prop:=Wa n λg=>some g∈gs
structure PE (n l:Nat) (gs:List PO) (row:Row) (H:List Int->Prop):Prop where
 pg: ∀o∈gs,∃g,o=some g/\Pm n g/\Fx l g
 rl:row.length=n
 r0:row.getD l none=some (upto n)
 rt: ∀y t,row.getD y none=some t->Pm n t/\Fx l t/\ap t l=y/\Gn n gs t
 cl: ∀y t g,row.getD y none=some t->some g∈gs->row.getD (ap g y) none≠none
 sg: ∀y t g t',row.getD y none=some t->some g∈gs->row.getD (ap g y) none=some t'->H (Aa (Aa t g) (Af t'))
def ec (n:Nat):Nat->Nat->Av×Av->Prop
 |0,l,s=>s.1.getD l []= []
 |k+1,l,s=>ec n k (l+1) s/\PE n l (s.1.getD l []) (s.2.getD l []) (λq=>Dx s.2 k (l+1) q=true)/\ ∀g,some g∈s.1.getD (l+1) []->Gn n (s.1.getD l []) g
theorem RJ {l1 l2:List Nat} (hn:l1.Nodup) (hs: ∀x∈l1,x∈l2) (hl:l2.length<=l1.length): ∀x∈l2,x∈l1:=by
 induction l1 generalizing l2 with
 |nil=>
  intro x hx
  have:l2= []:=List.eq_nil_of_length_eq_zero (by simpa using hl)
  rw [this] at hx;cases hx
 |cons a l ih=>
  intro x hx
  obtain ⟨h1,h2⟩:=List.nodup_cons.1 hn
  have ha:=hs a (by simp)
  by_cases e:x=a
  ·subst e;simp
  ·refine List.mem_cons_of_mem _ (ih (l2:=l2.erase a) h2 (λy hy=>?_) ?_ x ((List.mem_erase_of_ne e).2 hx))
   ·have hya:y≠a:= λe'=>h1 (by rw [<-e'];exact hy)
    exact (List.mem_erase_of_ne hya).2 (hs y (by simp [hy]))
   ·rw [List.length_erase_of_mem ha]
    simp only [List.length_cons] at hl
    omega
theorem zU {n:Nat} {g:List Int} (hg:Pm n g) (D:Nat->Bool) (h: ∀y,y<n->D y=true->D (ap g y)=true) {y:Nat} (hy:y<n) (hD:D y=true): ∃x,x<n/\D x=true/\ap g x=y:=by
 have:=RJ (l1:=((List.range n).filter D).map (ap g)) (l2:=(List.range n).filter D) ?_ ?_ (by simp) y (List.mem_filter.2 ⟨List.mem_range.2 hy,hD⟩)
 ·obtain ⟨x,hx,e⟩:=List.mem_map.1 this
  obtain ⟨h1,h2⟩:=List.mem_filter.1 hx
  exact ⟨x,List.mem_range.1 h1,h2,e⟩
 ·refine List.pairwise_map.2 (List.Pairwise.imp_of_mem ?_ (List.nodup_range.filter D))
  intro a b ha hb Ey e
  exact Ey (hg.inj (List.mem_range.1 (List.mem_filter.1 ha).1) (List.mem_range.1 (List.mem_filter.1 hb).1) e)
 ·intro x hx
  obtain ⟨z,hz,rfl⟩:=List.mem_map.1 hx
  obtain ⟨h1,h2⟩:=List.mem_filter.1 hz
  exact List.mem_filter.2 ⟨List.mem_range.2 (hg.lt (List.mem_range.1 h1)),h z (List.mem_range.1 h1) h2⟩
theorem ia {row:Row} {y:Nat} {t:List Int} (h:row.getD y none=some t):y<row.length:=by
 rw [List.getD_eq_getElem?_getD] at h
 refine Classical.byContradiction λhn=>?_
 rw [List.getElem?_eq_none (by omega)] at h
 cases h
theorem PE.pms {n l:Nat} {gs:List PO} {row:Row} {H:List Int->Prop} (h:PE n l gs row H):vE n λg=>some g∈gs:=by
 refine ⟨?_,λg hg=>?_⟩
 ·have:=(h.rt l _ h.r0).1
  exact ⟨this.n1,this.n2⟩
 ·obtain ⟨g',e,h1,_⟩:=h.pg _ hg
  cases e;exact h1
theorem Fx.inv {n l:Nat} {p:List Int} (hp:Pm n p) (h:Fx l p) (hl:l<=n):Fx l (Af p):= λi hi=>by
 have:=dz hp (i:=i) (by omega)
 rwa [h i hi] at this
theorem Fx.comp {n l:Nat} {p q:List Int} (hp:Pm n p) (hq:Pm n q) (h1:Fx l p) (h2:Fx l q) (hl:l<=n):Fx l (Aa p q):= λi hi=>by
 rw [Gx hp hq (by omega),h1 i hi,h2 i hi]
theorem Fx.all {n:Nat} {p:List Int} (hp:Pm n p) (h:Fx n p):p=upto n:=hp.ext (Pm.id hp.n1 hp.n2) λi hi=>by rw [h i hi,ey hi]
theorem Fx.div {n l:Nat} {p t:List Int} (hp:Pm n p) (ht:Pm n t) (h1:Fx l p) (h2:Fx l t) (hl:l<n) (e:ap t l=ap p l):Fx (l+1) (Aa p (Af t)):= λi hi=>by
 rw [Gx hp ht.inv (by omega)]
 by_cases hil:i<l
 ·rw [h1 i hil];exact h2.inv ht (by omega) i hil
 ·have:i=l:=by omega
  subst this
  rw [<-e,dz ht hl]
theorem Nb {n:Nat} (h1:1<=n) (h2:n<=20): ∀(k l:Nat) (s:Av×Av),l+k=n->ec n k l s-> ∀p,Pm n p->Fx l p->(Dx s.2 k l p=true↔Gn n (s.1.getD l []) p)
 |0,l,s,hk,hc,p,hp,hf=>by
  have hl:l=n:=by omega
  subst hl
  rw [hf.all hp]
  exact ⟨λ_=> .id,λ_=>rfl⟩
 |k+1,l,s,hk,hc,p,hp,hf=>by
  obtain ⟨c1,c2,c3⟩:=hc
  have hS:=c2.pms
  have ih:=Nb h1 h2 k (l+1) s (by omega) c1
  have hS1:vE n λg=>some g∈s.1.getD (l+1) []:=⟨⟨h1,h2⟩,λg hg=>(c3 g hg).pm hS⟩
  have eL:l<n:=by omega
  constructor
  ·intro h
   simp only [Dx] at h
   rw [show (Ii p (l:Int)).toNat=ap p l from rfl] at h
   split at h
   ·cases h
   ·rename_i t ht
    obtain ⟨t1,t2,t3,t4⟩:=c2.rt _ _ ht
    have yE:=Fx.div hp t1 hf t2 eL t3
    have hg:=((ih _ (hp.comp t1.inv) yE).1 h).trans hS c3
    have:=Wa.comp hS hg t4
    rwa [Fv hp t1.inv t1,Yu t1,comp_id hp] at this
  ·intro h
   have key: ∀q,Gn n (s.1.getD l []) q-> ∃t,(s.2.getD l []).getD (ap q l) none=some t/\Gn n (s.1.getD (l+1) []) (Aa q (Af t)):=by
    intro q hq
    induction hq with
    |id=>
     refine ⟨upto n,by rw [ey eL];exact c2.r0,?_⟩
     rw [LI h1 h2,comp_id (Pm.id h1 h2)]
     exact .id
    | @mul q g hq hg ihq=>
     obtain ⟨t,e1,e2⟩:=ihq
     have TK:=Wa.pm hS hq
     have Mu:=hS.2 _ hg
     obtain ⟨t1,t2,t3,t4⟩:=c2.rt _ _ e1
     cases e3:(s.2.getD l []).getD (ap g (ap q l)) none with
     |none=>exact absurd e3 (c2.cl _ _ _ e1 hg)
     |some t'=>
      obtain ⟨u1,u2,u3,u4⟩:=c2.rt _ _ e3
      have hsg:=c2.sg _ _ _ _ e1 hg e3
      have hfg:Fx (l+1) (Aa (Aa t g) (Af t')):=Fx.div (t1.comp Mu) u1 (Fx.comp t1 Mu t2 (by obtain ⟨g',e,_,h⟩:=c2.pg _ hg;cases e;exact h) (by omega)) u2 eL (by rw [u3,Gx t1 Mu eL,t3])
      have yF:=(ih _ ((t1.comp Mu).comp u1.inv) hfg).1 hsg
      refine ⟨t',by rw [Gx TK Mu eL];exact e3,?_⟩
      have:=Wa.comp hS1 e2 yF
      rwa [show Aa (Aa q (Af t)) (Aa (Aa t g) (Af t'))=Aa (Aa q g) (Af t') by
       rw [Fv TK t1.inv ((t1.comp Mu).comp u1.inv),Fv t1 Mu u1.inv,<-Fv t1.inv t1 (Mu.comp u1.inv),Yu t1,id_comp (Mu.comp u1.inv),Fv TK Mu u1.inv]] at this
    | @inv q g hq hg ihq=>
     obtain ⟨t,e1,e2⟩:=ihq
     have TK:=Wa.pm hS hq
     have Mu:=hS.2 _ hg
     obtain ⟨t1,t2,t3,t4⟩:=c2.rt _ _ e1
     have hy:ap q l<n:=TK.lt eL
     obtain ⟨x,hx,hD,he⟩:=zU Mu (λy=>((s.2.getD l []).getD y none).isSome) (λy hy hd=>by
      obtain ⟨t0,ht0⟩:=Option.isSome_iff_exists.1 hd
      exact Option.ne_none_iff_isSome.1 (c2.cl _ _ _ ht0 hg)) hy (by rw [e1];rfl)
     obtain ⟨t',e3⟩:=Option.isSome_iff_exists.1 hD
     obtain ⟨u1,u2,u3,u4⟩:=c2.rt _ _ e3
     have hsg:=c2.sg _ _ _ _ e3 hg (by rw [he];exact e1)
     have hfg:Fx (l+1) (Aa (Aa t' g) (Af t)):=Fx.div (u1.comp Mu) t1 (Fx.comp u1 Mu u2 (by obtain ⟨g',e,_,h⟩:=c2.pg _ hg;cases e;exact h) (by omega)) t2 eL (by rw [t3,Gx u1 Mu eL,u3,he])
     have yF:=Wa.im hS1 ((ih _ ((u1.comp Mu).comp t1.inv) hfg).1 hsg)
     have hax:ap (Af g) (ap q l)=x:=by rw [<-he,dz Mu hx]
     refine ⟨t',by rw [Gx TK Mu.inv eL,hax];exact e3,?_⟩
     have:=Wa.comp hS1 e2 yF
     rwa [show Aa (Aa q (Af t)) (Af (Aa (Aa t' g) (Af t)))=Aa (Aa q (Af g)) (Af t') by
      rw [inv_mul (u1.comp Mu) t1.inv,inv_inv t1,inv_mul u1 Mu,Fv TK t1.inv (t1.comp (Mu.inv.comp u1.inv)),<-Fv t1.inv t1 (Mu.inv.comp u1.inv),Yu t1,id_comp (Mu.inv.comp u1.inv),Fv TK Mu.inv u1.inv]] at this
   obtain ⟨t,e1,e2⟩:=key p h
   obtain ⟨t1,t2,t3,t4⟩:=c2.rt _ _ e1
   simp only [Dx]
   rw [show (Ii p (l:Int)).toNat=ap p l from rfl,e1]
   exact (ih _ (hp.comp t1.inv) (Fx.div hp t1 hf t2 eL t3)).2 e2
end Go.Proofs.YtfolipnappekaaaGreat

namespace Go.Proofs.YtfolipnappekaaaGreat
open Go.RowKit
theorem Gl {α:Type} (xs:List α) (i j:Nat) (x d:α):(xs.set i x).getD j d=if i=j/\i<xs.length then x else xs.getD j d:=by
 rw [List.getD_eq_getElem?_getD,List.getElem?_set,List.getD_eq_getElem?_getD]
 by_cases e:i=j
 ·subst e
  by_cases h:i<xs.length
  ·rw [if_pos rfl,if_pos h,if_pos ⟨rfl,h⟩];rfl
  ·rw [if_pos rfl,if_neg h,if_neg (λhh=>h hh.2),List.getElem?_eq_none (by omega)]
 ·rw [if_neg e,if_neg (λhh=>e hh.1)]
theorem Wa.mono {n:Nat} {S S':List Int->Prop} (h: ∀g,S g->S' g) {p:List Int} (hp:Wa n S p):Wa n S' p:=by
 induction hp with
 |id=>exact .id
 |mul _ hg ih=>exact .mul ih (h _ hg)
 |inv _ hg ih=>exact .inv ih (h _ hg)
structure Nt (n l:Nat) (gs:List PO) (row:Row):Prop where
 rl:row.length=n
 r0:row.getD l none=some (upto n)
 rt: ∀y t,row.getD y none=some t->Pm n t/\Fx l t/\ap t l=y/\Gn n gs t
def PG (n l:Nat) (gs:List PO):Prop:= ∀o∈gs,∃g,o=some g/\Pm n g/\Fx l g
structure Ext (n l:Nat) (gs:List PO) (row:Row) (q:List Int) (s':Row×List Int):Prop where
 ok:Nt n l gs s'.1
 mono: ∀y t,row.getD y none=some t->s'.1.getD y none=some t
 ZS:s'.2.length+Hb s'.1=q.length+Hb row
 pv: ∀y∈q,y∈s'.2
 new: ∀y∈s'.2,y∈q\/ ∃yn:Nat,y=yn/\s'.1.getD yn none≠none
 src: ∀y:Nat,s'.1.getD y none≠none->row.getD y none≠none\/(y:Int)∈s'.2
theorem Ext.refl {n l:Nat} {gs:List PO} {row:Row} {q:List Int} (h:Nt n l gs row):Ext n l gs row q (row,q):=⟨h,λ_ _ h=>h,rfl,λ_ h=>h,λ_ h=> .inl h,λ_ h=> .inl h⟩
theorem aq {a b:Row} (h: ∀y t,a.getD y none=some t->b.getD y none=some t) {y:Nat} (hy:a.getD y none≠none):b.getD y none≠none:=by
 cases e:a.getD y none with
 |none=>exact absurd e hy
 |some t=>rw [h y t e];simp
theorem Ext.trans {n l:Nat} {gs:List PO} {row:Row} {q:List Int} {s1 s2:Row×List Int} (h:Ext n l gs row q s1) (k:Ext n l gs s1.1 s1.2 s2):Ext n l gs row q s2:=by
 refine ⟨k.ok,λy t e=>k.mono y t (h.mono y t e),k.ZS.trans h.ZS,λy hy=>k.pv y (h.pv y hy),λy hy=>?_,λy hy=>?_⟩
 ·rcases k.new y hy with h1|h1
  ·rcases h.new y h1 with h2|⟨yn,h2,h3⟩
   ·exact .inl h2
   ·exact .inr ⟨yn,h2,aq k.mono h3⟩
  ·exact .inr h1
 ·rcases k.src y hy with h1|h1
  ·exact (h.src y h1).imp id λh2=>k.pv _ h2
  ·exact .inr h1
theorem jM {row:Row} {i:Nat} {t:List Int} (h:row.getD i none=none) (hi:i<row.length):Hb (row.set i (some t))+1=Hb row:=by
 unfold Hb
 have e:row[i]=none:=by
  rw [List.getD_eq_getElem?_getD,List.getElem?_eq_getElem hi] at h
  exact h
 have h1:=List.countP_set (p:= λo:PO=>o.isNone) (l:=row) (i:=i) (a:=some t) hi
 have FJ:0<row.countP (·.isNone):=List.countP_pos_iff.2 ⟨row[i],List.getElem_mem hi,by rw [e];rfl⟩
 rw [h1,e]
 simp
 omega
theorem RI {n l:Nat} {gs:List PO} (eL:l<n) (hg:PG n l gs) {row:Row} {q:List Int} (h:Nt n l gs row) {x:Nat} {t:List Int} (hx:row.getD x none=some t) {g:List Int} (ho:some g∈gs):
  Ext n l gs row q (Tl (x:Int) (row,q) (some g))/\(Tl (x:Int) (row,q) (some g)).1.getD (ap g x) none≠none:=by
 obtain ⟨g',e,Mu,SX⟩:=hg _ ho
 cases e
 obtain ⟨t1,t2,t3,t4⟩:=h.rt _ _ hx
 have PB:x<n:=by rw [<-h.rl];exact ia hx
 obtain ⟨a1,a2⟩:=Mu.Tj PB
 unfold Tl
 simp only [Option.getD_some,a1,Int.toNat_natCast]
 cases e:row.getD (ap g x) none with
 |some u=>exact ⟨Ext.refl h,by simp only;rw [e];simp⟩
 |none=>
  simp only [hx,Option.getD_some]
  have hl:ap g x<row.length:=by rw [h.rl];exact a2
  have hS:vE n λg=>some g∈gs:=⟨⟨t1.n1,t1.n2⟩,λg Mf=>by obtain ⟨g',e,h1,_⟩:=hg _ Mf;cases e;exact h1⟩
  have Ad: ∀y,(row.set (ap g x) (some (Aa t g))).getD y none=if ap g x=y/\ap g x<row.length then some (Aa t g) else row.getD y none:= λy=>Gl _ _ _ _ _
  have Ey: ∀y u,row.getD y none=some u->ap g x≠y:= λy u hu e'=>by rw [<-e',e] at hu;cases hu
  refine ⟨⟨⟨by simp [h.rl],?_,λy u hu=>?_⟩,λy u hu=>?_,?_,λy hy=>List.mem_append_left _ hy,λy hy=>?_,λy hy=>?_⟩,?_⟩
  ·rw [Ad,if_neg (λhh=>Ey l _ h.r0 hh.1)];exact h.r0
  ·rw [Ad] at hu
   split at hu
   ·rename_i hc
    cases hu
    exact ⟨t1.comp Mu,Fx.comp t1 Mu t2 SX (by omega),by rw [Gx t1 Mu eL,t3];exact hc.1, .mul t4 ho⟩
   ·exact h.rt y u hu
  ·show (row.set (ap g x) (some (Aa t g))).getD y none=some u
   rw [Ad,if_neg (λhh=>Ey y u hu hh.1)];exact hu
  ·have:=jM (t:=Aa t g) e hl
   simp only [List.length_append,List.length_cons,List.length_nil]
   omega
  ·rcases List.mem_append.1 hy with hy|hy
   ·exact .inl hy
   ·simp only [List.mem_singleton] at hy
    exact .inr ⟨ap g x,hy,by show (row.set (ap g x) (some (Aa t g))).getD (ap g x) none≠none;rw [Ad,if_pos ⟨rfl,hl⟩];simp⟩
  ·have hy:(row.set (ap g x) (some (Aa t g))).getD y none≠none:=hy
   rw [Ad] at hy
   split at hy
   ·rename_i hc
    exact .inr (by show (y:Int)∈q++ [(ap g x:Int)];rw [<-hc.1];simp)
   ·exact .inl hy
  ·show (row.set (ap g x) (some (Aa t g))).getD (ap g x) none≠none
   rw [Ad,if_pos ⟨rfl,hl⟩];simp
theorem MQ {n l:Nat} {gs:List PO} (eL:l<n) (hg:PG n l gs): ∀(SG:List PO) {row:Row} {q:List Int},(∀o∈SG,o∈gs)->Nt n l gs row-> ∀ {x:Nat} {t:List Int},row.getD x none=some t->
  Ext n l gs row q (Tb (x:Int) SG (row,q))/\ ∀g,some g∈SG->(Tb (x:Int) SG (row,q)).1.getD (ap g x) none≠none
 | [],row,q,_,h,x,t,hx=>⟨Ext.refl h,λg hg=>by cases hg⟩
 |o::SG,row,q,hs,h,x,t,hx=>by
  obtain ⟨g,rfl,_,_⟩:=hg o (hs o (by simp))
  obtain ⟨e1,e2⟩:=RI (q:=q) eL hg h hx (hs (some g) (by simp))
  obtain ⟨f1,f2⟩:=MQ eL hg SG (q:=(Tl (x:Int) (row,q) (some g)).2) (λo ho=>hs o (by simp [ho])) e1.ok (e1.mono x t hx)
  have hb:Tb (x:Int) (some g::SG) (row,q)=Tb (x:Int) SG ((Tl (x:Int) (row,q) (some g)).1,(Tl (x:Int) (row,q) (some g)).2):=rfl
  rw [hb]
  refine ⟨e1.trans f1,λg' Mf=>?_⟩
  rcases List.mem_cons.1 Mf with e|Mf
  ·cases e;exact aq f1.mono e2
  ·exact f2 g' Mf
def EK (gs:List PO) (q:List Int) (row:Row):Prop:=
 (∀y∈q,∃yn:Nat,y=yn/\row.getD yn none≠none)/\ ∀y:Nat,row.getD y none≠none->(y:Int)∈q\/ ∀g,some g∈gs->row.getD (ap g y) none≠none
theorem AL {n l:Nat} {gs:List PO} (eL:l<n) (hg:PG n l gs) {x:Int} {q:List Int} {row:Row} (h:Nt n l gs row) (hq:EK gs (x::q) row):
  Ext n l gs row q (Tb x gs (row,q))/\EK gs (Tb x gs (row,q)).2 (Tb x gs (row,q)).1/\ ∃(xn:Nat) (t:List Int),x=xn/\row.getD xn none=some t:=by
 obtain ⟨xn,rfl,hx⟩:=hq.1 x (by simp)
 cases e:row.getD xn none with
 |none=>exact absurd e hx
 |some t=>
  obtain ⟨e1,e2⟩:=MQ eL hg gs (q:=q) (λo ho=>ho) h e
  refine ⟨e1,⟨λy hy=>?_,λy hy=>?_⟩,xn,t,rfl,e⟩
  ·rcases e1.new y hy with h1|h1
   ·obtain ⟨yn,h2,h3⟩:=hq.1 y (by simp [h1])
    exact ⟨yn,h2,aq e1.mono h3⟩
   ·exact h1
  ·rcases e1.src y hy with h1|h1
   ·rcases hq.2 y h1 with h2|h2
    ·rcases List.mem_cons.1 h2 with h2|h2
     ·have:y=xn:=by omega
      subst this
      exact .inr λg Mf=>e2 g Mf
     ·exact .inl (e1.pv _ h2)
    ·exact .inr λg Mf=>aq e1.mono (h2 g Mf)
   ·exact .inl h1
theorem MX {n l:Nat} {gs:List PO} (eL:l<n) (hg:PG n l gs): ∀(f:Nat) (q:List Int) (row:Row),q.length+Hb row<=f->Nt n l gs row->EK gs q row->
  Nt n l gs (Sp gs f q row)/\(∀y t,row.getD y none=some t->(Sp gs f q row).getD y none=some t)/\ ∀y t g,(Sp gs f q row).getD y none=some t->some g∈gs->(Sp gs f q row).getD (ap g y) none≠none
 |0,q,row,hf,h,hq=>by
  have:q= []:=List.eq_nil_of_length_eq_zero (by omega)
  subst this
  exact ⟨h,λ_ _ h=>h,λy t g e Mf=>by
   rcases hq.2 y (by rw [show row.getD y none=some t from e];simp) with h1|h1
   ·cases h1
   ·exact h1 g Mf⟩
 |f+1,[],row,hf,h,hq=>⟨h,λ_ _ h=>h,λy t g e Mf=>by
   rcases hq.2 y (by rw [show row.getD y none=some t from e];simp) with h1|h1
   ·cases h1
   ·exact h1 g Mf⟩
 |f+1,x::q,row,hf,h,hq=>by
  obtain ⟨e1,e2,_⟩:=AL eL hg h hq
  obtain ⟨r1,r2,r3⟩:=MX eL hg f _ _ (by have:=e1.ZS;simp only [List.length_cons] at hf;omega) e1.ok e2
  exact ⟨r1,λy t e=>r2 y t (e1.mono y t e),r3⟩
theorem Tu {row:Row} {y:Int} :y∈Ny row↔ ∃yn:Nat,y=yn/\row.getD yn none≠none:=by
 unfold Ny
 rw [List.mem_filter,Se]
 constructor
 ·rintro ⟨h1,h2⟩
  exact ⟨y.toNat,by omega,Option.ne_none_iff_isSome.2 h2⟩
 ·rintro ⟨yn,rfl,h⟩
  obtain ⟨t,ht⟩:=Option.ne_none_iff_exists'.1 h
  exact ⟨by have:=ia ht;omega,by simpa using Option.ne_none_iff_isSome.1 h⟩
theorem tT (row:Row):(Ny row).length<=row.length:=by
 unfold Ny
 refine Nat.le_trans (List.length_filter_le _ _) (by simp [upto])
theorem cI (row:Row):Hb row<=row.length:=List.countP_le_length
theorem xq {n l:Nat} {gs:List PO} (eL:l<n) (h2:n<=20) (hg:PG n l gs) {row:Row} (h:Nt n l gs row):
  Nt n l gs (Rn gs row)/\(∀y t,row.getD y none=some t->(Rn gs row).getD y none=some t)/\ ∀y t g,(Rn gs row).getD y none=some t->some g∈gs->(Rn gs row).getD (ap g y) none≠none:=
 MX eL hg 100 _ _ (by have:=tT row;have:=cI row;have:=h.rl;omega) h ⟨λy hy=>Tu.1 hy,λy hy=> .inl (Tu.2 ⟨y,rfl,hy⟩)⟩
theorem vU {n l:Nat} {gs:List PO} (eL:l<n) (hg:PG n l gs): ∀(f:Nat) (q:List Int) (row:Row),q.length+Hb row<=f->Nt n l gs row->EK gs q row->Sp gs f q row=Sp gs (q.length+Hb row) q row
 |0,q,row,hf,_,_=>by
  have:q.length+Hb row=0:=by omega
  rw [this]
 |f+1,[],row,hf,_,_=>by
  cases h:([]:List Int).length+Hb row with
  |zero=>rfl
  |succ m=>rfl
 |f+1,x::q,row,hf,h,hq=>by
  obtain ⟨e1,e2,_⟩:=AL eL hg h hq
  have QI:=e1.ZS
  have:(x::q).length+Hb row=(q.length+Hb row)+1:=by simp only [List.length_cons];omega
  rw [this]
  simp only [Sp]
  rw [vU eL hg f _ _ (by simp only [List.length_cons] at hf;omega) e1.ok e2,QI]
def pA (row:Row):Nat:=row.countP (·.isSome)
theorem jn: ∀(a b:Row),a.length=b.length->(∀y t,a.getD y none=some t->b.getD y none=some t)->pA a<=pA b/\(pA a=pA b->a=b)
 | [],[],_,_=>⟨Nat.le_refl _,λ_=>rfl⟩
 | [],_::_,h,_=>by simp at h
 |_::_,[],h,_=>by simp at h
 |x::a,y::b,h,hm=>by
  obtain ⟨h1,h2⟩:=jn a b (by simpa using h) λi t e=>by simpa using hm (i+1) t (by simpa using e)
  unfold pA at h1 h2⊢
  cases x with
  |none=>
   cases y with
   |none=>simp only [List.countP_cons];exact ⟨by simpa using h1,λe=>by rw [h2 (by simpa using e)]⟩
   |some u=>
    simp only [List.countP_cons,Option.isSome_none,Option.isSome_some]
    simp only [if_true,Bool.false_eq_true,if_false]
    exact ⟨by omega,λe=>by omega⟩
  |some t=>
   have:=hm 0 t (by simp)
   simp only [List.getD_cons_zero] at this
   subst this
   simp only [List.countP_cons]
   exact ⟨by simpa using h1,λe=>by rw [h2 (by simpa using e)]⟩
def cL (T:Av):Nat->Nat->Nat
 |0,_=>0
 |k+1,l=>pA (T.getD l [])+cL T k (l+1)
def YY:Nat->Nat->Av×Av->Prop
 |0,_,_=>True
 |k+1,l,s=>YY k (l+1) s/\(s.1.getD l []).length<=cL s.2 (k+1) l
structure Oq (l0:Nat) (s s':Av×Av):Prop where
 Abu:s'.1.length=s.1.length
 nE:s'.2.length=s.2.length
 low: ∀i,i<l0->s'.1.getD i []=s.1.getD i []/\s'.2.getD i []=s.2.getD i []
 ri: ∀i o,o∈s.1.getD i []->o∈s'.1.getD i []
 p8: ∀i y t,(s.2.getD i []).getD y none=some t->(s'.2.getD i []).getD y none=some t
 MW: ∀i,(s'.2.getD i []).length=(s.2.getD i []).length
theorem Oq.refl (l0:Nat) (s:Av×Av):Oq l0 s s:=⟨rfl,rfl,λ_ _=>⟨rfl,rfl⟩,λ_ _ h=>h,λ_ _ _ h=>h,λ_=>rfl⟩
theorem Oq.trans {l0 l1:Nat} {a b c:Av×Av} (h:Oq l0 a b) (k:Oq l1 b c) (hl:l0<=l1):Oq l0 a c:=
 ⟨k.Abu.trans h.Abu,k.nE.trans h.nE,λi hi=>⟨(k.low i (by omega)).1.trans (h.low i hi).1,(k.low i (by omega)).2.trans (h.low i hi).2⟩,λi o ho=>k.ri i o (h.ri i o ho),λi y t e=>k.p8 i y t (h.p8 i y t e),λi=>(k.MW i).trans (h.MW i)⟩
theorem Oq.El {l0 l1:Nat} {a b:Av×Av} (h:Oq l1 a b) (hl:l0<=l1):Oq l0 a b:=(Oq.refl l0 a).trans h hl
theorem Wo {T T':Av} : ∀(k l:Nat) (p:List Int),(∀i,l<=i->i<l+k->T'.getD i []=T.getD i [])->Dx T' k l p=Dx T k l p
 |0,_,_,_=>rfl
 |k+1,l,p,h=>by
  simp only [Dx]
  rw [h l (Nat.le_refl _) (by omega)]
  split
  ·rfl
  ·exact Wo k (l+1) _ λi h1 h2=>h i (by omega) (by omega)
theorem Nk {n:Nat} {s s':Av×Av} : ∀(k l:Nat),(∀i,l<=i->s'.1.getD i []=s.1.getD i []/\s'.2.getD i []=s.2.getD i [])->ec n k l s->ec n k l s'
 |0,l,h,hc=>by simp only [ec] at hc⊢;rw [(h l (Nat.le_refl _)).1];exact hc
 |k+1,l,h,hc=>by
  simp only [ec] at hc⊢
  obtain ⟨c1,c2,c3⟩:=hc
  refine ⟨Nk k (l+1) (λi hi=>h i (by omega)) c1,?_,?_⟩
  ·rw [(h l (Nat.le_refl _)).1,(h l (Nat.le_refl _)).2]
   have e:(λq=>Dx s'.2 k (l+1) q=true)= λq=>Dx s.2 k (l+1) q=true:=funext λq=>by rw [Wo k (l+1) q λi h1 h2=>(h i (by omega)).2]
   rw [e];exact c2
  ·rw [(h (l+1) (by omega)).1,(h l (Nat.le_refl _)).1];exact c3
theorem s8 {T T':Av} : ∀(k l:Nat),(∀i,l<=i->T'.getD i []=T.getD i [])->cL T' k l=cL T k l
 |0,_,_=>rfl
 |k+1,l,h=>by simp only [cL];rw [h l (Nat.le_refl _),s8 k (l+1) λi hi=>h i (by omega)]
theorem Vb {s s':Av×Av} : ∀(k l:Nat),(∀i,l<=i->s'.1.getD i []=s.1.getD i []/\s'.2.getD i []=s.2.getD i [])->YY k l s->YY k l s'
 |0,_,_,_=>trivial
 |k+1,l,h,hg=>⟨Vb k (l+1) (λi hi=>h i (by omega)) hg.1,by
  rw [(h l (Nat.le_refl _)).1,s8 (k+1) l λi hi=>(h i hi).2];exact hg.2⟩
theorem o1 {T T':Av} (hl: ∀i,(T'.getD i []).length=(T.getD i []).length) (hm: ∀i y t,(T.getD i []).getD y none=some t->(T'.getD i []).getD y none=some t):
  ∀(k l:Nat),cL T k l<=cL T' k l/\(cL T k l=cL T' k l-> ∀i,l<=i->i<l+k->T'.getD i []=T.getD i [])
 |0,l=>⟨Nat.le_refl _,λ_ i h1 h2=>by omega⟩
 |k+1,l=>by
  obtain ⟨h1,h2⟩:=o1 hl hm k (l+1)
  obtain ⟨h3,h4⟩:=jn (T.getD l []) (T'.getD l []) (hl l).symm (hm l)
  simp only [cL]
  refine ⟨by omega,λe i g1 g2=>?_⟩
  by_cases hi:i=l
  ·subst hi;exact (h4 (by omega)).symm
  ·exact h2 (by omega) i (by omega) (by omega)
def V (n k l:Nat) (s:Av×Av):Prop:=s.1.length=n/\s.2.length=n/\ec n k l s/\YY k l s
structure IY (n k l:Nat) (s:Av×Av) (p:List Int) (s':Av×Av):Prop where
 v:V n k l s'
 grow:Oq l s s'
 WZ:Gn n (s'.1.getD l []) p
 gens: ∀o∈s'.1.getD l [],o∈s.1.getD l []\/o=some p
theorem PE.row {n l:Nat} {gs:List PO} {row:Row} {H:List Int->Prop} (h:PE n l gs row H):Nt n l gs row:=⟨h.rl,h.r0,h.rt⟩
theorem dd {row:Row} {y:Nat} {t g t':List Int} (h1:row.getD y none=some t) (h2:row.getD (ap g y) none=some t'):Mz row (y:Int) (some g)=Aa (Aa t g) (Af t'):=by
 unfold Mz
 rw [Int.toNat_natCast,h1,Option.getD_some,Option.getD_some,show (Ii g (y:Int)).toNat=ap g y from rfl,h2,Option.getD_some]
theorem jJ {n l:Nat} {gs:List PO} {row:Row} (hg:PG n l gs) (_h:Nt n l gs row) (hc: ∀y t g,row.getD y none=some t->some g∈gs->row.getD (ap g y) none≠none) {q:List Int} :
  q∈bp row gs↔ ∃(y:Nat) (t g t':List Int),row.getD y none=some t/\some g∈gs/\row.getD (ap g y) none=some t'/\q=Aa (Aa t g) (Af t'):=by
 unfold bp
 rw [List.mem_flatMap]
 constructor
 ·rintro ⟨y,hy,hq⟩
  obtain ⟨o,ho,rfl⟩:=List.mem_map.1 hq
  obtain ⟨yn,rfl,hyn⟩:=Tu.1 hy
  obtain ⟨t,ht⟩:=Option.ne_none_iff_exists'.1 hyn
  obtain ⟨g,rfl,Mu,_⟩:=hg o ho
  obtain ⟨t',rC⟩:=Option.ne_none_iff_exists'.1 (hc yn t g ht ho)
  exact ⟨yn,t,g,t',ht,ho,rC,dd ht rC⟩
 ·rintro ⟨y,t,g,t',h1,h2,h3,rfl⟩
  obtain ⟨g',e,Mu,_⟩:=hg _ h2
  cases e
  exact ⟨(y:Int),Tu.2 ⟨y,rfl,by rw [h1];simp⟩,List.mem_map.2 ⟨some g,h2,dd h1 h3⟩⟩
theorem sF {n:Nat} (h1:1<=n) (h2:n<=20): ∀(k l:Nat) (p:List Int) (s:Av×Av),l+k=n->V n k l s->Pm n p->Fx l p->IY n k l s p (Dn k l p s)
 |0,l,p,s,hk,hv,hp,hf=>by
  have hl:l=n:=by omega
  subst hl
  exact ⟨hv,Oq.refl _ _,by rw [hf.all hp];exact .id,λo ho=> .inl ho⟩
 |k+1,l,p,s,hk,hv,hp,hf=>by
  have eL:l<n:=by omega
  obtain ⟨v1,v2,hc,rv⟩:=hv
  have eI:=hc
  obtain ⟨c1,c2,c3⟩:=hc
  unfold Dn
  by_cases hh:Dx s.2 (k+1) l p=true
  ·rw [if_pos hh]
   exact ⟨⟨v1,v2,eI,rv⟩,Oq.refl _ _,(Nb h1 h2 (k+1) l s hk eI p hp hf).1 hh,λo ho=> .inl ho⟩
  rw [if_neg hh]
  generalize ig:s.1.getD l []++ [some p]=gs
  have Sr:some p∈gs:=by rw [<-ig];simp
  have Ka: ∀o∈s.1.getD l [],o∈gs:= λo ho=>by rw [<-ig];exact List.mem_append_left _ ho
  have hg:PG n l gs:= λo ho=>by
   rw [<-ig] at ho
   rcases List.mem_append.1 ho with ho|ho
   ·exact c2.pg o ho
   ·rw [List.mem_singleton] at ho;exact ⟨p,ho,hp,hf⟩
  have Ab9:Nt n l gs (s.2.getD l []):=⟨c2.rl,c2.r0,λy t e=>⟨(c2.rt y t e).1,(c2.rt y t e).2.1,(c2.rt y t e).2.2.1,(c2.rt y t e).2.2.2.mono λg hg=>Ka _ hg⟩⟩
  obtain ⟨r1,r2,r3⟩:=xq eL h2 hg Ab9
  generalize hR:Rn gs (s.2.getD l [])=R at r1 r2 r3
  have hS:vE n λg=>some g∈gs:=⟨⟨h1,h2⟩,λg Mf=>by obtain ⟨g',e,h,_⟩:=hg _ Mf;cases e;exact h⟩
  have og: ∀i,((s.1.set l gs).getD i []=if i=l then gs else s.1.getD i [])/\(s.2.set l R).getD i []=if i=l then R else s.2.getD i []:= λi=>by
   rw [Gl,Gl]
   by_cases e:l=i
   ·subst e;rw [if_pos ⟨rfl,by omega⟩,if_pos rfl,if_pos ⟨rfl,by omega⟩,if_pos rfl];exact ⟨rfl,rfl⟩
   ·rw [if_neg (λhh=>e hh.1),if_neg (Ne.symm e),if_neg (λhh=>e hh.1),if_neg (Ne.symm e)];exact ⟨rfl,rfl⟩
  have rD: ∀i,l+1<=i->(s.1.set l gs).getD i []=s.1.getD i []/\(s.2.set l R).getD i []=s.2.getD i []:= λi hi=>by
   rw [(og i).1,(og i).2,if_neg (by omega),if_neg (by omega)];exact ⟨rfl,rfl⟩
  have gB:V n k (l+1) (s.1.set l gs,s.2.set l R):=⟨by simpa using v1,by simpa using v2,Nk k (l+1) rD c1,Vb k (l+1) rD rv.1⟩
  have fN:Oq l s (s.1.set l gs,s.2.set l R):=by
   refine ⟨by simp,by simp,λi hi=>?_,λi o ho=>?_,λi y t e=>?_,λi=>?_⟩
   ·rw [(og i).1,(og i).2,if_neg (by omega),if_neg (by omega)];exact ⟨rfl,rfl⟩
   ·rw [(og i).1]
    split
    ·rename_i hi;subst hi;exact Ka o ho
    ·exact ho
   ·rw [(og i).2]
    split
    ·rename_i hi;subst hi;exact r2 y t e
    ·exact e
   ·rw [(og i).2]
    split
    ·rename_i hi;subst hi;rw [r1.rl,c2.rl]
    ·rfl
  have hq: ∀q∈bp R gs,Pm n q/\Fx (l+1) q/\Gn n gs q:= λq hq=>by
   obtain ⟨y,t,g,t',e1,e2,e3,rfl⟩:=(jJ hg r1 r3).1 hq
   obtain ⟨t1,t2,t3,t4⟩:=r1.rt _ _ e1
   obtain ⟨u1,u2,u3,u4⟩:=r1.rt _ _ e3
   obtain ⟨g',e,Mu,SX⟩:=hg _ e2
   cases e
   exact ⟨(t1.comp Mu).comp u1.inv,Fx.div (t1.comp Mu) u1 (Fx.comp t1 Mu t2 SX (by omega)) u2 eL (by rw [u3,Gx t1 Mu eL,t3]),Wa.comp hS (.mul t4 e2) (Wa.im hS u4)⟩
  have fold: ∀(qs:List (List Int)) (s1:Av×Av),(∀q∈qs,Pm n q/\Fx (l+1) q)->V n k (l+1) s1->
    V n k (l+1) (qs.foldl (λs q=>Dn k (l+1) q s) s1)/\Oq (l+1) s1 (qs.foldl (λs q=>Dn k (l+1) q s) s1)/\
     (∀q∈qs,Gn n ((qs.foldl (λs q=>Dn k (l+1) q s) s1).1.getD (l+1) []) q)/\ ∀o∈(qs.foldl (λs q=>Dn k (l+1) q s) s1).1.getD (l+1) [],o∈s1.1.getD (l+1) []\/ ∃q∈qs,o=some q:=by
   intro qs
   induction qs with
   |nil=>exact λs1 _ hv=>⟨hv,Oq.refl _ _,(λq hq=>by cases hq),λo ho=>Or.inl ho⟩
   |cons q qs ih=>
    intro s1 FK hv
    have ha:=sF h1 h2 k (l+1) q s1 (by omega) hv (FK q (by simp)).1 (FK q (by simp)).2
    obtain ⟨g1,g2,g3,g4⟩:=ih (Dn k (l+1) q s1) (λq' fO=>FK q' (by simp [fO])) ha.v
    simp only [List.foldl_cons]
    refine ⟨g1,ha.grow.trans g2 (Nat.le_refl _),λq' fO=>?_,λo ho=>?_⟩
    ·rcases List.mem_cons.1 fO with rfl|fO
     ·exact ha.WZ.mono λg hg=>g2.ri _ _ hg
     ·exact g3 q' fO
    ·rcases g4 o ho with h|⟨q',fO,h⟩
     ·rcases ha.gens o h with h|h
      ·exact .inl h
      ·exact .inr ⟨q,by simp,h⟩
     ·exact .inr ⟨q',by simp [fO],h⟩
  obtain ⟨f1,f2,f3,f4⟩:=fold (bp R gs) (s.1.set l gs,s.2.set l R) (λq h=>⟨(hq q h).1,(hq q h).2.1⟩) gB
  generalize (bp R gs).foldl (λs q=>Dn k (l+1) q s) (s.1.set l gs,s.2.set l R)=s' at f1 f2 f3 f4
  obtain ⟨w1,w2,w3,w4⟩:=f1
  have ZX:s'.1.getD l []=gs:=by rw [(f2.low l (by omega)).1,(og l).1,if_pos rfl]
  have el2:s'.2.getD l []=R:=by rw [(f2.low l (by omega)).2,(og l).2,if_pos rfl]
  have nh:=fN.trans f2 (by omega)
  have VV:PE n l gs R (λq=>Dx s'.2 k (l+1) q=true):=⟨hg,r1.rl,r1.r0,r1.rt,r3,λy t g t' e1 e2 e3=>by
   have hm:=(jJ hg r1 r3).2 ⟨y,t,g,t',e1,e2,e3,rfl⟩
   exact (Nb h1 h2 k (l+1) s' (by omega) w3 _ (hq _ hm).1 (hq _ hm).2.1).2 (f3 _ hm)⟩
  have wB:ec n (k+1) l s':=⟨w3,by rw [ZX,el2];exact VV,λg Mf=>by
   rw [ZX]
   rcases f4 _ Mf with h|⟨q,fO,h⟩
   ·rw [(rD (l+1) (Nat.le_refl _)).1] at h
    exact (c3 g h).mono λg hg=>Ka _ hg
   ·cases h;exact (hq _ fO).2.2⟩
  have cv:Gn n (s'.1.getD l []) p:=by rw [ZX];exact Wa.one hS Sr
  refine ⟨⟨w1,w2,wB,w4,?_⟩,nh,cv,λo ho=>?_⟩
  ·have hold:=rv.2
   obtain ⟨p1,p2⟩:=o1 nh.MW nh.p8 (k+1) l
   have Ey:cL s.2 (k+1) l≠cL s'.2 (k+1) l:= λe=>by
    have:=Wo (k+1) l p (p2 e)
    rw [(Nb h1 h2 (k+1) l s' hk wB p hp hf).2 cv] at this
    exact hh this.symm
   rw [ZX,<-ig,List.length_append,List.length_singleton]
   omega
  ·rw [ZX,<-ig] at ho
   rcases List.mem_append.1 ho with ho|ho
   ·exact .inl ho
   ·rw [List.mem_singleton] at ho;exact .inr ho
end Go.Proofs.YtfolipnappekaaaGreat

namespace Go.Proofs.YtfolipnappekaaaGreat
open Go.RowKit
theorem MO {n l:Nat} {gs:List PO} {R:Row} (eL:l<n) (hg:PG n l gs) (r1:Nt n l gs R) (r3: ∀y t g,R.getD y none=some t->some g∈gs->R.getD (ap g y) none≠none): ∀q∈bp R gs,Pm n q/\Fx (l+1) q:=by
 intro q hq
 obtain ⟨y,t,g,t',e1,e2,e3,rfl⟩:=(jJ hg r1 r3).1 hq
 obtain ⟨t1,t2,t3,t4⟩:=r1.rt _ _ e1
 obtain ⟨u1,u2,u3,u4⟩:=r1.rt _ _ e3
 obtain ⟨g',e,Mu,SX⟩:=hg _ e2
 cases e
 exact ⟨(t1.comp Mu).comp u1.inv,Fx.div (t1.comp Mu) u1 (Fx.comp t1 Mu t2 SX (by omega)) u2 eL (by rw [u3,Gx t1 Mu eL,t3])⟩
theorem V.lower {n k l:Nat} {s:Av×Av} (h:V n (k+1) l s) (gs:List PO) (R:Row):V n k (l+1) (s.1.set l gs,s.2.set l R):=by
 obtain ⟨v1,v2,hc,rv⟩:=h
 have rD: ∀i,l+1<=i->(s.1.set l gs).getD i []=s.1.getD i []/\(s.2.set l R).getD i []=s.2.getD i []:= λi hi=>by
  rw [Gl,Gl,if_neg (by omega),if_neg (by omega)];exact ⟨rfl,rfl⟩
 exact ⟨by simpa using v1,by simpa using v2,Nk k (l+1) rD hc.1,Vb k (l+1) rD rv.1⟩
theorem CZ {n k l:Nat} (h1:1<=n) (h2:n<=20) (hk:l+k=n): ∀(qs:List (List Int)) (s1:Av×Av),(∀q∈qs,Pm n q/\Fx l q)->V n k l s1->
  V n k l (qs.foldl (λs q=>Dn k l q s) s1)/\Oq l s1 (qs.foldl (λs q=>Dn k l q s) s1)
 | [],s1,_,hv=>⟨hv,Oq.refl _ _⟩
 |q::qs,s1,FK,hv=>by
  have ha:=sF h1 h2 k l q s1 hk hv (FK q (by simp)).1 (FK q (by simp)).2
  obtain ⟨g1,g2⟩:=CZ h1 h2 hk qs (Dn k l q s1) (λq' fO=>FK q' (by simp [fO])) ha.v
  exact ⟨g1,ha.grow.trans g2 (Nat.le_refl _)⟩
theorem MP {n:Nat} {s:Av×Av} : ∀(k l:Nat),ec n k l s->cL s.2 k l<=n*k
 |0,_,_=>by simp [cL]
 |k+1,l,hc=>by
  have h1:=MP k (l+1) hc.1
  have h2:pA (s.2.getD l [])<=n:=by
   have:=hc.2.1.rl
   have h3:pA (s.2.getD l [])<=(s.2.getD l []).length:=List.countP_le_length
   omega
  simp only [cL]
  rw [Nat.mul_succ]
  omega
theorem DD {n k l:Nat} {s:Av×Av} (h2:n<=20) (hk:l+(k+1)=n) (h:V n (k+1) l s):(s.1.getD l []).length<=400:=by
 have h3:=h.2.2.2.2
 have h4:=MP (k+1) l h.2.2.1
 have h5:n*(k+1)<=20*20:=Nat.mul_le_mul h2 (by omega)
 omega
theorem V.lvl {n k l:Nat} {s:Av×Av} (h:V n (k+1) l s):PE n l (s.1.getD l []) (s.2.getD l []) (λq=>Dx s.2 k (l+1) q=true):=h.2.2.1.2.1
theorem V.pg {n k l:Nat} {s:Av×Av} (h:V n (k+1) l s) {p:List Int} (hp:Pm n p) (hf:Fx l p):PG n l (s.1.getD l []++ [some p]):= λo ho=>by
 rcases List.mem_append.1 ho with ho|ho
 ·exact h.lvl.pg o ho
 ·rw [List.mem_singleton] at ho;exact ⟨p,ho,hp,hf⟩
theorem V.Ahd {n k l:Nat} {s:Av×Av} (h:V n (k+1) l s) (p:List Int):Nt n l (s.1.getD l []++ [some p]) (s.2.getD l []):=
 ⟨h.lvl.rl,h.lvl.r0,λy t e=>⟨(h.lvl.rt y t e).1,(h.lvl.rt y t e).2.1,(h.lvl.rt y t e).2.2.1,(h.lvl.rt y t e).2.2.2.mono λ_ hg=>List.mem_append_left _ hg⟩⟩
theorem qi {α:Type} (xs:List (List α)) (i:Nat) (h:i<xs.length):xs.set i (xs.getD i [])=xs:=by
 refine List.ext_getElem (by simp) λj h1 h2=>?_
 rw [List.getElem_set]
 split
 ·rename_i e;subst e;rw [List.getD_eq_getElem?_getD,List.getElem?_eq_getElem h];rfl
 ·rfl
theorem Xp {α:Type} (xs:List (List α)) (i:Nat) (h:i<xs.length) (r:List α):(xs.set i r).getD i []=r:=by
 rw [Gl,if_pos ⟨rfl,h⟩]
end Go.Proofs.YtfolipnappekaaaGreat

namespace Go.Proofs.YtfolipnappekaaaGreat
open Go.RowKit
noncomputable abbrev Qy:MSpec:=me [none] [(false, .Ee RK)] false [none] [.row tI 2] (λx=>List.length x.1<=20) (λx=>((Ny x.1,()),()))
noncomputable abbrev Fa:Spec:=Co (.pair tL (.pair tL .unit)) tO false true (λx=>(0<x.1.length/\x.1.length<=20)/\Hq x.2.1.length x.1) (λx=>some (Aa x.1 x.2.1))
noncomputable abbrev Ht:Spec:=Co (.pair tL (.pair tL .unit)) tL false false (λx=>x.1.length<=20/\Hq x.2.1.length x.1) (λx=>Aa x.1 x.2.1)
noncomputable abbrev da:Spec:=Co (.pair tI .unit) tL false true (λx=>0<=x.1/\x.1<=20) (λx=>upto x.1.toNat)
noncomputable abbrev Jw:Spec:=Co (.pair tI .unit) tO false true (λx=>1<=x.1/\x.1<=20) (λx=>some (upto x.1.toNat))
abbrev pw:TypeId:=22
structure On (N L:Nat) (n:Int) (G T:Av) (l:Int) (p:List Int):Prop where
 n1:1<=N
 n2:N<=20
 en:n=N
 el:l=L
 le:L<=N
 v:V N (N-L) L (G,T)
 pm:Pm N p
 fx:Fx L p
noncomputable abbrev iM:Spec:=Co (.pair (.ptr j5) (.pair tI (.pair tL .unit))) .bool false true (λx=> ∃N L,On N L x.1.1 x.1.2.1 x.1.2.2.1 x.2.1 x.2.2.1) (λx=>Dx x.1.2.2.1 (x.1.1-x.2.1).toNat x.2.1.toNat x.2.2.1)
noncomputable abbrev TU:MSpec:= {ptr:=some (141,3),Fc:= [none,none],ins:= [(false, .Ee tI),(false, .Ah tO pw true),(false, .Ah tO pw true),(false, .Ee tI),(false, .Ee tO)],Dh:=false,Ef:= [],outs:= [.Ee tI, .Ah tO pw false, .Ah tO pw false],fn:= λ_=>none,keeps:= [(1,1),(2,2)],Cj:= λx=>x.2.2.2.1.toNat}
noncomputable abbrev Ph (m:Nat):MSpec:=gD TU (λx=>(∃N L q,x.2.2.2.2.1=some q/\On N L x.1 x.2.1 x.2.2.1 x.2.2.2.1 q)/\(x.1-x.2.2.2.1).toNat<m)
 (λx=>((x.1,(Dn (x.1-x.2.2.2.1).toNat x.2.2.2.1.toNat (x.2.2.2.2.1.getD []) (x.2.1,x.2.2.1)).1,(Dn (x.1-x.2.2.2.1).toNat x.2.2.2.1.toNat (x.2.2.2.2.1.getD []) (x.2.1,x.2.2.1)).2,()),()))
theorem yl (n:Int) (P:List Int->Prop):(((0:Int)<=n/\n<(↑Bj:Int)+(1:Int))/\n=n/\0=0/\(List.replicate n.toNat (Int.ofNat (nat_lit 0))).length=(List.replicate n.toNat (Int.ofNat (nat_lit 0))).length/\Bm (λ(v2:Int×List Int×PUnit) (k3:Int×List Int×PUnit->Prop)=>Br (decide (v2.1<(↑(List.replicate n.toNat (Int.ofNat (nat_lit 0))).length:Int))) (((0:Int)<=v2.1/\v2.1<(↑v2.2.1.length:Int))/\0+v2.1.toNat<v2.2.1.length/\0=0/\v2.2.1.length=(v2.2.1.set (0+v2.1.toNat) v2.1).length/\k3 (IntKind.i64.wrap (v2.1+(1:Int)),v2.2.1.set (0+v2.1.toNat) v2.1,())) (P (List.take v2.2.1.length (List.drop 0 v2.2.1)))) ((0:Int),List.replicate n.toNat (Int.ofNat (nat_lit 0)),PUnit.unit))=fnW Cg (look []) da Tryz.f105 (n,()) P:=by kernel_rfl
theorem IG (row:List (Option (List Int))) (P:(List Int×Unit)×Unit->Prop):(0=0/\0=([]:List Int).length/\Bm (λ(v2:Int×List Int×PUnit) (k3:Int×List Int×PUnit->Prop)=>Br (decide (v2.1<(↑row.length:Int))) (∃(y4:Option (List Int)),idx row v2.1=some y4/\Br (!y4.isNone) (0=0/\v2.2.1.length=v2.2.1.length/\v2.2.1.length+(List.take 1 (List.drop 0 [v2.1])).length<=Bj/\0=0/\(v2.2.1++List.take 1 (List.drop 0 [v2.1])).length=(v2.2.1++List.take 1 (List.drop 0 [v2.1])).length/\k3 (IntKind.i64.wrap (v2.1+(1:Int)),v2.2.1++List.take 1 (List.drop 0 [v2.1]),())) (0=0/\v2.2.1.length=v2.2.1.length/\k3 (IntKind.i64.wrap (v2.1+(1:Int)),v2.2.1,()))) (P ((List.take v2.2.1.length (List.drop 0 v2.2.1),()),()))) ((0:Int),[],PUnit.unit))=fnMW Wd (look []) Qy Tryz.f147 (row,()) P:=by kernel_rfl
theorem Acu (c:Int×List (List (Option (List Int)))×List (List (Option (List Int)))×Unit) (l:Int) (p:List Int) (P:Bool->Prop):(Bm (λ(v4:List Int×Int×PUnit) (k5:List Int×Int×PUnit->Prop)=>Br (decide (v4.2.1<c.1)) (∃(y6:List (Option (List Int))),idx c.2.2.1 v4.2.1=some y6/\ ∃(y7:Int),idx v4.1 v4.2.1=some y7/\ ∃(y8:Option (List Int)),idx y6 y7=some y8/\Br y8.isNone (P false) (∃(y9:List Int),Ca.fn (y8.getD [],())=some y9/\ ∃(Ya:List Int),Ht.fn (v4.1,y9,())=some Ya/\k5 (Ya,IntKind.i64.wrap (v4.2.1+(1:Int)),()))) (P true)) (p,l,PUnit.unit))=fnW Wd (look [(56,Ca),(121,Ht)]) iM Tryz.f99 (c,l,p,()) P:=by kernel_rfl
theorem Sound.loose {P:Program} {f:FuncId} {arg res:Ty} {pre:arg.den->Prop} {val:arg.den->res.den} (h:Sound P f (Go.Proofs.YtfolipnappekaaaGreat.Co arg res false true pre val)):Sound P f (Go.Proofs.YtfolipnappekaaaGreat.Co arg res false false pre val):=
 ⟨h.enter,λw S vs x y h1 h2 h3=>Calls.mono (h.calls w S vs x y h1 h2 h3) λe' w' hr=>by
  obtain ⟨v,g1,g2,g3⟩:=hr
  exact ⟨v,g1,g2,Bb.El (S:= λb=>S b\/(true=true/\b<w.heap.size)) g3 λk _ hk=>hk.elim .inl λhh=>absurd (show false=true from hh.1) (by simp)⟩⟩
theorem oC:Sound Tryz.prog 121 Ht:=Sound.loose Xc
theorem oD:Sound Tryz.prog 121 Fa:=Sound.YK Xc λx h=>⟨⟨h.1.2,h.2⟩,λe=>by
 have:=Jp x.1 x.2.1
 rw [e] at this
 have:=h.1.1
 simp only [List.length_nil] at*
 omega⟩
theorem xu (n:Int) (h:0<=n/\n<=20):fnW Cg (look []) da Tryz.f105 (n,()) (λ(z:List Int)=>z=upto n.toNat):=by
 refine Eq.mp (yl n _) ⟨⟨by omega,by show n<(4294967296:Int)+1;omega⟩,rfl,rfl,rfl,?_⟩
 refine Ai n.toNat (λv=>v.1) (λj v=>v.2.1.length=n.toNat/\v.2.1.take j=upto j) rfl ⟨by simp,by simp [upto]⟩ ?_
 rintro j ⟨i,ys,⟨⟩⟩ K hj hi ⟨h1,h2⟩ hK
 dsimp only at hi h1 h2⊢
 subst hi
 rw [List.length_replicate]
 simp only [Int.toNat_natCast,Nat.zero_add]
 refine Br.dec (λhl=>⟨⟨by omega,by omega⟩,by omega,trivial,by rw [List.length_set],?_⟩) λhl=>?_
 ·rw [Ag (by omega)]
  refine hK (by omega) _ rfl ⟨by rw [List.length_set];exact h1,?_⟩
  rw [List.take_add_one,List.take_set_of_le (by omega),h2,List.getElem?_set_self (by omega),e8]
  rfl
 ·have:j=ys.length:=by omega
  subst this
  rw [List.take_length] at h2
  rw [List.drop_zero,List.take_length,h2,h1]
theorem lM:Sound Tryz.prog 105 da:=
 Sound.Co Bg Al mixed Tryz.func105 (by kernel_rfl) (by kernel_rfl) λx h=>xu x.1 h
theorem EJ {n:Int} (h:1<=n/\n<=20):(0<=n/\n<=20)/\upto n.toNat≠ []:=⟨by omega,λe=>by
 have:=congrArg List.length e
 simp [upto] at this
 omega⟩
theorem lL:Sound Tryz.prog 105 Jw:=Sound.YK lM λ_ h=>EJ h
theorem xp {row:Row} {j:Nat} :(upto (j+1)).filter (λy=>(row.getD y.toNat none).isSome)=(upto j).filter (λy=>(row.getD y.toNat none).isSome)++if (row.getD j none).isSome=true then [(j:Int)] else []:=by
 rw [e8,List.filter_append]
 congr 1
 simp only [List.filter_cons,List.filter_nil,Int.toNat_natCast]
theorem GJ (row:List (Option (List Int))) (h:List.length row<=20):fnMW Wd (look []) Qy Tryz.f147 (row,()) (λ(z:(List Int×Unit)×Unit)=>z=((Ny row,()),())):=by
 refine Eq.mp (IG row _) ⟨rfl,rfl,?_⟩
 refine Ai row.length (λv=>v.1) (λj v=>v.2.1=(upto j).filter (λy=>(row.getD y.toNat none).isSome)) rfl rfl ?_
 rintro j ⟨i,ys,⟨⟩⟩ K hj hi h1 hK
 dsimp only at hi h1⊢
 subst hi
 refine Br.dec (λhl=>?_) λhl=>?_
 ·have hl:j<row.length:=by omega
  have hlen:ys.length<=j:=by rw [h1];refine Nat.le_trans (List.length_filter_le _ _) (by simp [upto])
  have hg:row.getD j none=row[j]:=by rw [List.getD_eq_getElem?_getD,List.getElem?_eq_getElem hl];rfl
  refine ⟨_,Ap hl,Br.of (λhb=>⟨rfl,rfl,?_,rfl,rfl,?_⟩) λhb=>⟨rfl,rfl,?_⟩⟩
  ·show ys.length+1<=4294967296
   omega
  ·rw [Ag (by omega)]
   refine hK hl _ rfl ?_
   show ys++ [(j:Int)]=_
   rw [xp,hg,h1,if_pos (by cases e:row[j] with
    |none=>rw [e] at hb;simp at hb
    |some t=>rfl)]
  ·rw [Ag (by omega)]
   refine hK hl _ rfl ?_
   show ys=_
   rw [xp,hg,h1,if_neg (by cases e:row[j] with
    |none=>simp
    |some t=>rw [e] at hb;simp at hb),List.append_nil]
 ·have:j=row.length:=by omega
  subst this
  rw [List.drop_zero,List.take_length,h1]
  rfl
theorem qt:Bf Tryz.prog 147 Qy:=
 Bf.me oZ Al mixed Tryz.func147 (by kernel_rfl) (by kernel_rfl) λx h=>GJ x.1 h
theorem mN {n:Nat} {s:Av×Av} : ∀(k l:Nat),ec n k l s-> ∀i,l<=i->i<l+k->PE n i (s.1.getD i []) (s.2.getD i []) (λq=>Dx s.2 (l+k-i-1) (i+1) q=true)
 |0,_,_,i,h1,h2=>by omega
 |k+1,l,hc,i,h1,h2=>by
  obtain ⟨c1,c2,_⟩:=hc
  by_cases e:i=l
  ·subst e
   rw [show i+(k+1)-i-1=k by omega]
   exact c2
  ·have:=mN k (l+1) c1 i (by omega) (by omega)
   rwa [show l+1+k-i-1=l+(k+1)-i-1 by omega] at this
theorem SF {α:Type} {xs:List (List α)} {i:Nat} (h:i<xs.length):xs.getD i []=xs[i]:=by
 rw [List.getD_eq_getElem?_getD,List.getElem?_eq_getElem h];rfl
theorem wu {α:Type} {xs:List (Option α)} {i:Nat} (h:i<xs.length):xs.getD i none=xs[i]:=by
 rw [List.getD_eq_getElem?_getD,List.getElem?_eq_getElem h];rfl
theorem Pm.row {n:Nat} {p:List Int} (h:Pm n p):Hq n p:=by
 have:=h.2.row
 rwa [h.1] at this
theorem Ac4 (c:Int×List (List (Option (List Int)))×List (List (Option (List Int)))×Unit) (l:Int) (p:List Int) (h: ∃N L,On N L c.1 c.2.1 c.2.2.1 l p):
  fnW Wd (look [(56,Ca),(121,Ht)]) iM Tryz.f99 (c,l,p,()) (λ(z:Bool)=>z=Dx c.2.2.1 (c.1-l).toNat l.toNat p):=by
 obtain ⟨n,G,T,⟨⟩⟩:=c
 obtain ⟨N,L,h⟩:=h
 obtain ⟨n1,n2,en,el,hle,v,pm,fx⟩:=h
 dsimp only at en el v⊢
 subst en el
 refine Eq.mp (Acu ((N:Int),G,T,()) (L:Int) p _) ?_
 obtain ⟨v1,v2,v3,v4⟩:=v
 dsimp only at v1 v2
 refine ⟨λv=> ∃i:Nat,L<=i/\i<=N/\v.2.1=i/\Pm N v.1/\Fx i v.1/\Dx T (N-i) i v.1=Dx T (N-L) L p,λv=>N-v.2.1.toNat,⟨L,Nat.le_refl _,hle,rfl,pm,fx,rfl⟩,?_⟩
 rintro ⟨p',i',⟨⟩⟩ ⟨i,h1,h2,h3,h4,h5,h6⟩
 dsimp only at h3 h4 h5 h6⊢
 subst h3
 rw [show (((N:Int)-(L:Int)).toNat)=N-L by omega,show ((L:Int)).toNat=L by omega,<-h6]
 refine Br.dec (λhl=>?_) λhl=>?_
 ·have hl:i<N:=by omega
  have Gf:=mN (N-L) L v3 i h1 (by omega)
  obtain ⟨a1,a2⟩:=h4.Tj hl
  have hT:i<T.length:=by omega
  have hlen:T[i].length=N:=by have:=Gf.rl;dsimp only at this;rwa [SF hT] at this
  refine ⟨_,Ap hT,_,Ap (by rw [h4.1];exact hl),?_⟩
  have e1:p'[i]'(by rw [h4.1];exact hl)=(ap p' i:Int):=by rw [<-a1,Ho]
  rw [e1]
  refine ⟨_,Ap (by omega),?_⟩
  have e2:N-i=(N-i-1)+1:=by omega
  have e3:(T.getD i []).getD (Ii p' (i:Int)).toNat none=T[i][ap p' i]'(by omega):=by
   rw [SF hT];exact wu (by show ap p' i<_;omega)
  rw [e2]
  simp only [Dx,e3]
  refine Br.of (λhb=>?_) λhb=>?_
  ·cases e:T[i][ap p' i]'(by omega) with
   |none=>rfl
   |some t=>rw [e] at hb;simp at hb
  ·cases e:T[i][ap p' i]'(by omega) with
   |none=>rw [e] at hb;simp at hb
   |some t=>
    have ht:(T.getD i []).getD (ap p' i) none=some t:=by rw [<-e];exact e3
    obtain ⟨t1,t2,t3,t4⟩:=Gf.rt _ _ ht
    simp only [Option.getD_some]
    refine ⟨_,if_pos ⟨by show t.length<=20;rw [t1.1];exact n2,t1.2.row⟩,_,if_pos ⟨by show p'.length<=20;rw [h4.1];exact n2,by show Hq (Af t).length p';rw [il,t1.1];exact h4.row⟩,⟨i+1,by omega,by omega,Ag (by omega),h4.comp t1.inv,Fx.div h4 t1 h5 t2 hl t3,?_⟩,?_⟩
    ·rw [show N-(i+1)=N-i-1 by omega]
    ·show N-(IntKind.i64.wrap ((i:Int)+1)).toNat<N-((i:Int)).toNat
     rw [Ag (by omega)]
     omega
 ·rw [show N-i=0 by omega]
  rfl
theorem sr:Sound Tryz.prog 99 iM:=
 Sound.Co oZ (Ae Kz (Ae oC Al)) mixed Tryz.func99 (by kernel_rfl) (by kernel_rfl) λx h=>Ac4 x.1 x.2.1 x.2.2.1 h
end Go.Proofs.YtfolipnappekaaaGreat

namespace Go.Proofs.YtfolipnappekaaaGreat
open Go.RowKit
abbrev uM:Type:=Nat×Nat×Int×List (List (Option (List Int)))×Nat×List (List (Option (List Int)))×Nat×List Int×Int×PUnit
abbrev NM:Type:=Nat×Int×List (List (Option (List Int)))×Nat×List (List (Option (List Int)))×Nat×List Int×Int×PUnit
abbrev NN:Type:=Nat×List (List (Option (List Int)))×Nat×List (List (Option (List Int)))×Nat×List Int×Int×PUnit
abbrev Gr (G:List (List (Option (List Int)))) (l:Int) (p:Option (List Int)) (T:List (List (Option (List Int)))) (y7:Bool) (n:Int):Prop:=0=0/\(G.getD (0+l.toNat) []).length=(G.getD (0+l.toNat) []).length/\(G.getD (0+l.toNat) []).length+(List.take 1 (List.drop 0 [p])).length<=Bj/\((0:Int)<=l/\l<(↑G.length:Int))/\0=0/\(G.getD (0+l.toNat) []++List.take 1 (List.drop 0 [p])).length=(G.getD (0+l.toNat) []++List.take 1 (List.drop 0 [p])).length/\0+l.toNat=0+l.toNat/\ [(0,G.length),(0,G.length),(0,G.length),(0,T.length)]= [(0,G.length),(0,G.length),(0,G.length),(0,T.length)]/\(l,p,l,p,y7,l,l,0+l.toNat,p,List.take 1 (List.drop 0 [p]),0+l.toNat,G.set (0+l.toNat) (G.getD (0+l.toNat) []++List.take 1 (List.drop 0 [p])),min G.length (0+l.toNat),T,T.length,n,())=(l,p,l,p,y7,l,l,0+l.toNat,p,List.take 1 (List.drop 0 [p]),0+l.toNat,G.set (0+l.toNat) (G.getD (0+l.toNat) []++List.take 1 (List.drop 0 [p])),min G.length (0+l.toNat),T,T.length,n,PUnit.unit)
theorem Aco {m:Nat} (n:Int) (G T:List (List (Option (List Int)))) (l:Int) (p:Option (List Int)) (P:(Int×List (List (Option (List Int)))×List (List (Option (List Int)))×Unit)×Unit->Prop):(∃(y7:Bool),iM.fn ((n,List.take G.length (List.drop 0 G),List.take T.length (List.drop 0 T),()),l,p.getD [],())=some y7/\Br y7 ((0=0/\G.length=G.length)/\(0=0/\T.length=T.length)/\(Ph (m+1)).Cj (n,G,T,l,p,())<=G.length/\(Ph (m+1)).Cj (n,G,T,l,p,())<=T.length/\P ((n,G,T,()),())) (((0:Int)<=l/\l<(↑G.length:Int))/\0=0/\(G.getD (0+l.toNat) []).length=(G.getD (0+l.toNat) []).length/\(G.getD (0+l.toNat) []).length+(List.take 1 (List.drop 0 [p])).length<=Bj/\((0:Int)<=l/\l<(↑G.length:Int))/\0=0/\(G.getD (0+l.toNat) []++List.take 1 (List.drop 0 [p])).length=(G.getD (0+l.toNat) []++List.take 1 (List.drop 0 [p])).length/\0+l.toNat=0+l.toNat/\(((0:Int)<=l/\l<(↑T.length:Int))/\ ∃(y8:(List Int×PUnit)×PUnit),Qy.fn (T.getD (0+l.toNat) [],())=some y8/\0=0/\(List.take y8.1.1.length (List.drop 0 y8.1.1)).length=(List.take y8.1.1.length (List.drop 0 y8.1.1)).length/\0=0/\G.length=(G.set (0+l.toNat) (G.getD (0+l.toNat) []++List.take 1 (List.drop 0 [p]))).length/\0=0/\T.length=T.length/\Bm (λ(v9:NN) (k10:NN->Prop)=>Br (decide ((↑v9.2.2.2.2.2.1.length:Int)>(0:Int))) (((0:Int)<=l/\l<(↑v9.2.1.length:Int))/\0=0/\(List.take v9.2.2.2.2.2.1.length (List.drop 0 v9.2.2.2.2.2.1)).length=(List.take v9.2.2.2.2.2.1.length (List.drop 0 v9.2.2.2.2.2.1)).length/\0=0/\v9.2.1.length=v9.2.1.length/\0=0/\v9.2.2.2.1.length=v9.2.2.2.1.length/\Bm (λ(v11:uM) (k12:uM->Prop)=>Br (decide (v11.2.2.1<(↑(v9.2.1.getD (0+l.toNat) []).length:Int))) (((0:Int)<=v11.2.2.1/\v11.2.2.1<(↑(v11.2.2.2.1.getD v11.2.1 []).length:Int))/\((0:Int)<=(0:Int)/\(0:Int)<(↑v11.2.2.2.2.2.2.2.1.length:Int))/\ ∃(OO:Int),v11.2.2.2.2.2.2.2.1[0+Int.toNat (0:Int)]?=some OO/\ ∃(aW:Int),idx (((v11.2.2.2.1.getD v11.2.1 []).getD v11.2.2.1.toNat (none:Option (List Int))).getD []) OO=some aW/\((0:Int)<=aW/\aW<(↑(v11.2.2.2.2.2.1.getD v11.1 []).length:Int))/\Br ((v11.2.2.2.2.2.1.getD v11.1 []).getD aW.toNat (none:Option (List Int))).isNone (((0:Int)<=(0:Int)/\(0:Int)<(↑v11.2.2.2.2.2.2.2.1.length:Int))/\ ∃(px:Int),v11.2.2.2.2.2.2.2.1[0+Int.toNat (0:Int)]?=some px/\((0:Int)<=px/\px<(↑(v11.2.2.2.2.2.1.getD v11.1 []).length:Int))/\ ∃(vA:Option (List Int)),Fa.fn (((v11.2.2.2.2.2.1.getD v11.1 []).getD px.toNat (none:Option (List Int))).getD [],((v11.2.2.2.1.getD v11.2.1 []).getD v11.2.2.1.toNat (none:Option (List Int))).getD [],())=some vA/\((0:Int)<=aW/\aW<(↑(v11.2.2.2.2.2.1.getD v11.1 []).length:Int))/\0=0/\v11.2.2.2.2.2.2.2.1.length=v11.2.2.2.2.2.2.2.1.length/\v11.2.2.2.2.2.2.2.1.length+(List.take 1 (List.drop 0 [aW])).length<=Bj/\0=0/\(List.take (v11.2.2.2.2.2.2.2.1++List.take 1 (List.drop 0 [aW])).length (List.drop 0 (v11.2.2.2.2.2.2.2.1++List.take 1 (List.drop 0 [aW])))).length=(List.take (v11.2.2.2.2.2.2.2.1++List.take 1 (List.drop 0 [aW])).length (List.drop 0 (v11.2.2.2.2.2.2.2.1++List.take 1 (List.drop 0 [aW])))).length/\0=0/\v11.2.2.2.1.length=v11.2.2.2.1.length/\0=0/\v11.2.2.2.2.2.1.length=(v11.2.2.2.2.2.1.set v11.1 ((v11.2.2.2.2.2.1.getD v11.1 []).set aW.toNat vA)).length/\k12 (v11.1,v11.2.1,IntKind.i64.wrap (v11.2.2.1+(1:Int)),v11.2.2.2.1,v11.2.2.2.2.1,v11.2.2.2.2.2.1.set v11.1 ((v11.2.2.2.2.2.1.getD v11.1 []).set aW.toNat vA),v11.2.2.2.2.2.2.1,List.take (v11.2.2.2.2.2.2.2.1++List.take 1 (List.drop 0 [aW])).length (List.drop 0 (v11.2.2.2.2.2.2.2.1++List.take 1 (List.drop 0 [aW]))),v11.2.2.2.2.2.2.2.2.1,())) (0=0/\(List.take v11.2.2.2.2.2.2.2.1.length (List.drop 0 v11.2.2.2.2.2.2.2.1)).length=(List.take v11.2.2.2.2.2.2.2.1.length (List.drop 0 v11.2.2.2.2.2.2.2.1)).length/\0=0/\v11.2.2.2.1.length=v11.2.2.2.1.length/\0=0/\v11.2.2.2.2.2.1.length=v11.2.2.2.2.2.1.length/\k12 (v11.1,v11.2.1,IntKind.i64.wrap (v11.2.2.1+(1:Int)),v11.2.2.2.1,v11.2.2.2.2.1,v11.2.2.2.2.2.1,v11.2.2.2.2.2.2.1,List.take v11.2.2.2.2.2.2.2.1.length (List.drop 0 v11.2.2.2.2.2.2.2.1),v11.2.2.2.2.2.2.2.2.1,()))) (((0:Int)<=(1:Int)/\(1:Int)<=(↑v11.2.2.2.2.2.2.2.1.length:Int)/\(↑v11.2.2.2.2.2.2.2.1.length:Int)<=(↑v11.2.2.2.2.2.2.2.1.length:Int))/\0=0/\(List.take ((↑v11.2.2.2.2.2.2.2.1.length:Int).toNat-Int.toNat (1:Int)) (List.drop (0+Int.toNat (1:Int)) v11.2.2.2.2.2.2.2.1)).length=(List.take ((↑v11.2.2.2.2.2.2.2.1.length:Int).toNat-Int.toNat (1:Int)) (List.drop (0+Int.toNat (1:Int)) v11.2.2.2.2.2.2.2.1)).length/\0=0/\v11.2.2.2.1.length=v11.2.2.2.1.length/\0=0/\v11.2.2.2.2.2.1.length=v11.2.2.2.2.2.1.length/\k10 (v11.1,v11.2.2.2.1,v11.2.2.2.2.1,v11.2.2.2.2.2.1,v11.2.2.2.2.2.2.1,List.take ((↑v11.2.2.2.2.2.2.2.1.length:Int).toNat-Int.toNat (1:Int)) (List.drop (0+Int.toNat (1:Int)) v11.2.2.2.2.2.2.2.1),v11.2.2.2.2.2.2.2.2.1,()))) (v9.1,0+l.toNat,(0:Int),v9.2.1,v9.2.2.1,v9.2.2.2.1,v9.2.2.2.2.1,List.take v9.2.2.2.2.2.1.length (List.drop 0 v9.2.2.2.2.2.1),v9.2.2.2.2.2.2.1,PUnit.unit)) (∃(qS:(List Int×PUnit)×PUnit),Qy.fn (v9.2.2.2.1.getD v9.1 [],())=some qS/\0=0/\qS.1.1.length=qS.1.1.length/\0=0/\v9.2.1.length=v9.2.1.length/\0=0/\v9.2.2.2.1.length=v9.2.2.2.1.length/\Bm (λ(Iv:NM) (k13:NM->Prop)=>Br (decide (Iv.2.1<(↑qS.1.1.length:Int))) (((0:Int)<=Iv.2.1/\Iv.2.1<(↑Iv.2.2.2.2.2.2.1.length:Int))/\ ∃(aW:Int),Iv.2.2.2.2.2.2.1[0+Iv.2.1.toNat]?=some aW/\((0:Int)<=l/\l<(↑Iv.2.2.1.length:Int))/\0=0/\Iv.2.2.2.2.2.2.1.length=Iv.2.2.2.2.2.2.1.length/\0=0/\Iv.2.2.1.length=Iv.2.2.1.length/\0=0/\Iv.2.2.2.2.1.length=Iv.2.2.2.2.1.length/\Bm (λ(Lb:uM) (k16:uM->Prop)=>Br (decide (Lb.2.2.1<(↑(Iv.2.2.1.getD (0+l.toNat) []).length:Int))) (((0:Int)<=Lb.2.2.1/\Lb.2.2.1<(↑(Lb.2.2.2.1.getD Lb.2.1 []).length:Int))/\((0:Int)<=aW/\aW<(↑(Lb.2.2.2.2.2.1.getD Lb.1 []).length:Int))/\ ∃(RW:Option (List Int)),Fa.fn (((Lb.2.2.2.2.2.1.getD Lb.1 []).getD aW.toNat (none:Option (List Int))).getD [],((Lb.2.2.2.1.getD Lb.2.1 []).getD Lb.2.2.1.toNat (none:Option (List Int))).getD [],())=some RW/\ ∃(IQ:Int),idx (((Lb.2.2.2.1.getD Lb.2.1 []).getD Lb.2.2.1.toNat (none:Option (List Int))).getD []) aW=some IQ/\((0:Int)<=IQ/\IQ<(↑(Lb.2.2.2.2.2.1.getD Lb.1 []).length:Int))/\ ∃(y19:List Int),Ca.fn (((Lb.2.2.2.2.2.1.getD Lb.1 []).getD IQ.toNat (none:Option (List Int))).getD [],())=some y19/\ ∃(UH:Option (List Int)),Fa.fn (RW.getD [],y19,())=some UH/\0=0/\Lb.2.2.2.1.length=Lb.2.2.2.1.length/\0=0/\Lb.2.2.2.2.2.1.length=Lb.2.2.2.2.2.1.length/\ ∃(IX:(Int×List (List (Option (List Int)))×List (List (Option (List Int)))×PUnit)×PUnit),(Ph m).fn (Lb.2.2.2.2.2.2.2.2.1,Lb.2.2.2.1,Lb.2.2.2.2.2.1,IntKind.i64.wrap (l+(1:Int)),UH,())=some IX/\(Lb.1<(Ph m).Cj (Lb.2.2.2.2.2.2.2.2.1,Lb.2.2.2.1,Lb.2.2.2.2.2.1,IntKind.i64.wrap (l+(1:Int)),UH,())/\Lb.1<(List.length IX.1.2.2.1))/\(Lb.2.1<(Ph m).Cj (Lb.2.2.2.2.2.2.2.2.1,Lb.2.2.2.1,Lb.2.2.2.2.2.1,IntKind.i64.wrap (l+(1:Int)),UH,())/\Lb.2.1<(List.length IX.1.2.1))/\(Lb.1<(Ph m).Cj (Lb.2.2.2.2.2.2.2.2.1,Lb.2.2.2.1,Lb.2.2.2.2.2.1,IntKind.i64.wrap (l+(1:Int)),UH,())/\Lb.1<(List.length IX.1.2.2.1))/\(Lb.1<(Ph m).Cj (Lb.2.2.2.2.2.2.2.2.1,Lb.2.2.2.1,Lb.2.2.2.2.2.1,IntKind.i64.wrap (l+(1:Int)),UH,())/\Lb.1<(List.length IX.1.2.2.1))/\0=0/\Lb.2.2.2.2.2.2.2.1.length=Lb.2.2.2.2.2.2.2.1.length/\0=0/\IX.1.2.1.length=IX.1.2.1.length/\0=0/\IX.1.2.2.1.length=IX.1.2.2.1.length/\k16 (Lb.1,Lb.2.1,IntKind.i64.wrap (Lb.2.2.1+(1:Int)),IX.1.2.1,min Lb.2.2.2.2.1 ((Ph m).Cj (Lb.2.2.2.2.2.2.2.2.1,Lb.2.2.2.1,Lb.2.2.2.2.2.1,IntKind.i64.wrap (l+(1:Int)),UH,())),IX.1.2.2.1,min Lb.2.2.2.2.2.2.1 ((Ph m).Cj (Lb.2.2.2.2.2.2.2.2.1,Lb.2.2.2.1,Lb.2.2.2.2.2.1,IntKind.i64.wrap (l+(1:Int)),UH,())),Lb.2.2.2.2.2.2.2.1,IX.1.1,())) (0=0/\Lb.2.2.2.2.2.2.2.1.length=Lb.2.2.2.2.2.2.2.1.length/\0=0/\Lb.2.2.2.1.length=Lb.2.2.2.1.length/\0=0/\Lb.2.2.2.2.2.1.length=Lb.2.2.2.2.2.1.length/\k13 (Lb.1,IntKind.i64.wrap (Iv.2.1+(1:Int)),Lb.2.2.2.1,Lb.2.2.2.2.1,Lb.2.2.2.2.2.1,Lb.2.2.2.2.2.2.1,Lb.2.2.2.2.2.2.2.1,Lb.2.2.2.2.2.2.2.2.1,()))) (Iv.1,0+l.toNat,(0:Int),Iv.2.2.1,Iv.2.2.2.1,Iv.2.2.2.2.1,Iv.2.2.2.2.2.1,Iv.2.2.2.2.2.2.1,Iv.2.2.2.2.2.2.2.1,PUnit.unit)) ((0=0/\Iv.2.2.1.length=Iv.2.2.1.length)/\(0=0/\Iv.2.2.2.2.1.length=Iv.2.2.2.2.1.length)/\(Ph (m+1)).Cj (n,G,T,l,p,())<=Iv.2.2.2.1/\(Ph (m+1)).Cj (n,G,T,l,p,())<=Iv.2.2.2.2.2.1/\P ((Iv.2.2.2.2.2.2.2.1,Iv.2.2.1,Iv.2.2.2.2.1,()),()))) (v9.1,(0:Int),v9.2.1,v9.2.2.1,v9.2.2.2.1,v9.2.2.2.2.1,qS.1.1,v9.2.2.2.2.2.2.1,PUnit.unit))) (0+l.toNat,G.set (0+l.toNat) (G.getD (0+l.toNat) []++List.take 1 (List.drop 0 [p])),min G.length (0+l.toNat),T,T.length,List.take y8.1.1.length (List.drop 0 y8.1.1),n,PUnit.unit))/\(((((0:Int)<=l/\l<(↑G.length:Int))/\((Gr G l p T y7 n))/\(Gr G l p T y7 n))/\((0:Int)<=l/\l<(↑G.length:Int))/\(Gr G l p T y7 n))/\((0:Int)<=l/\l<(↑G.length:Int))/\(Gr G l p T y7 n))/\(((((0:Int)<=l/\l<(↑G.length:Int))/\((Gr G l p T y7 n))/\(Gr G l p T y7 n))/\((0:Int)<=l/\l<(↑G.length:Int))/\(Gr G l p T y7 n))/\(((0:Int)<=l/\l<(↑G.length:Int))/\(((Gr G l p T y7 n))/\(Gr G l p T y7 n))/\(((Gr G l p T y7 n))/\((Gr G l p T y7 n))/\(Gr G l p T y7 n))/\((Gr G l p T y7 n))/\((Gr G l p T y7 n))/\(Gr G l p T y7 n))/\(((0:Int)<=l/\l<(↑G.length:Int))/\(Gr G l p T y7 n))/\((0:Int)<=l/\l<(↑G.length:Int))/\((Gr G l p T y7 n))/\((Gr G l p T y7 n))/\(Gr G l p T y7 n))/\(((0:Int)<=l/\l<(↑G.length:Int))/\(Gr G l p T y7 n))/\(((0:Int)<=l/\l<(↑G.length:Int))/\(Gr G l p T y7 n))/\((0:Int)<=l/\l<(↑G.length:Int))/\((Gr G l p T y7 n))/\((Gr G l p T y7 n))/\(Gr G l p T y7 n)))=fnMW (NS [Lo+7]) (look [(99,iM),(147,Qy),(121,Fa),(56,Ca),(130,Up.m (Ph m))]) (Ph (m+1)) Tryz.f130 (n,G,T,l,p,()) P:=by kernel_rfl
theorem vK {k l:Nat} {p:List Int} {s:Av×Av} (h:Dx s.2 k l p=true):Dn k l p s=s:=by
 cases k with
 |zero=>rfl
 |succ k=>unfold Dn;rw [if_pos h]
theorem vJ (k l:Nat) (p:List Int) (s:Av×Av):Dn (k+1) l p s=if Dx s.2 (k+1) l p=true then s else
   (bp (Rn (s.1.getD l []++ [some p]) (s.2.getD l [])) (s.1.getD l []++ [some p])).foldl (λs q=>Dn k (l+1) q s)
    (s.1.set l (s.1.getD l []++ [some p]),s.2.set l (Rn (s.1.getD l []++ [some p]) (s.2.getD l []))):=rfl
theorem tt {n:Nat} {p:List Int} (h:Pm n p) {i:Nat} (hi:i<n):idx p (i:Int)=some (ap p i:Int):=by
 have kN:i<p.length:=by rw [h.1];exact hi
 rw [Ap kN,<-(h.Tj hi).1,Ho kN]
theorem yP {x:Int} {gs:List PO} {j:Nat} (hj:j<gs.length) (s:Row×List Int):Tb x (gs.take (j+1)) s=Tl x (Tb x (gs.take j) s) gs[j]:=by
 unfold Tb
 rw [List.take_add_one,List.getElem?_eq_getElem hj,Option.toList_some,List.foldl_append]
 rfl
theorem yQ {gs:List PO} {f:Nat} {row:Row} :Sp gs f [] row=row:=by cases f<;>rfl
theorem Pz {n:Nat} {p:List Int} (h:Pm n p):0<p.length/\p.length<=20:=⟨by rw [h.1];exact h.n1,by rw [h.1];exact h.n2⟩
theorem jV {n:Nat} {p q:List Int} (h:Pm n p) (k:Pm n q):Hq q.length p:=by rw [k.1];exact h.row
theorem Abz {m:Nat} (n:Int) (G T:List (List (Option (List Int)))) (l:Int) (p:Option (List Int)) (h:(∃N L q,p=some q/\On N L n G T l q)/\(n-l).toNat<m+1):
  fnMW (NS [Lo+7]) (look [(99,iM),(147,Qy),(121,Fa),(56,Ca),(130,Up.m (Ph m))]) (Ph (m+1)) Tryz.f130 (n,G,T,l,p,()) (λ(z:(Int×List (List (Option (List Int)))×List (List (Option (List Int)))×Unit)×Unit)=>z=((n,(Dn (n-l).toNat l.toNat (p.getD []) (G,T)).1,(Dn (n-l).toNat l.toNat (p.getD []) (G,T)).2,()),())):=by
 obtain ⟨⟨N,L,q,rfl,h⟩,hm⟩:=h
 have h':=h
 obtain ⟨n1,n2,en,el,hle,v,pm,fx⟩:=h
 subst en el
 have hk:((N:Int)-(L:Int)).toNat=N-L:=by omega
 rw [hk,Int.toNat_natCast]
 refine Eq.mp (Aco (N:Int) G T (L:Int) (some q) _) ⟨_,if_pos ⟨N,L,?a⟩,?b⟩
 case a=>
  simp only [List.drop_zero,List.take_length,Option.getD_some]
  exact h'
 obtain ⟨v1,v2,v3,v4⟩:=v
 dsimp only at v1 v2
 have hw:IntKind.i64.wrap ((L:Int)+1)=((L+1:Nat):Int):=Ag (by omega)
 simp only [Gr]
 simp only [List.drop_zero,List.take_length,Option.getD_some,hk,Int.toNat_natCast,Nat.zero_add,eq_self,true_and,and_true,List.take_succ_cons,List.take_zero,List.length_cons,List.length_nil,List.length_set,hw]
 refine Br.of (λhh=>⟨by show Int.toNat (L:Int)<=G.length;omega,by show Int.toNat (L:Int)<=T.length;omega,?_⟩) λhh=>?_
 ·rw [vK (s:=(G,T)) hh]
 obtain ⟨k,hNk⟩: ∃k,N-L=k+1:=by
  cases e:N-L with
  |zero=>rw [e] at hh;simp [Dx] at hh
  |succ k=>exact ⟨k,rfl⟩
 have hLN:L<N:=by omega
 have hv:V N (k+1) L (G,T):=by rw [<-hNk];exact ⟨v1,v2,v3,v4⟩
 rw [hNk] at hh⊢
 have e1:(0:Int)<=(L:Int)/\(L:Int)<(G.length:Int):=by omega
 have e1':(0:Int)<=(L:Int)/\(L:Int)<(T.length:Int):=by omega
 have hgl:(G.getD L []).length<=400:=DD n2 (by omega) hv
 have e2:(G.getD L []).length+1<=Bj:=by show _<=4294967296;omega
 simp only [e1,e1',e2,and_self,true_and,and_true]
 generalize ig:G.getD L []++ [some q]=gs
 have Ak9:gs.length<=401:=by rw [<-ig,List.length_append,List.length_singleton];omega
 have hg:PG N L gs:=by rw [<-ig];exact hv.pg pm fx
 have WG:Nt N L gs (T.getD L []):=by rw [<-ig];exact hv.Ahd q
 obtain ⟨r1,r2,r3⟩:=xq hLN n2 hg WG
 generalize hR:Rn gs (T.getD L [])=R at r1 r2 r3
 have nu:Dn (k+1) L q (G,T)=(bp R gs).foldl (λs q=>Dn k (L+1) q s) (G.set L gs,T.set L R):=by
  rw [vJ,if_neg (by rw [hh];simp)]
  dsimp only
  rw [ig,hR]
 rw [nu]
 have hTl:L<T.length:=by omega
 have hGl:L<G.length:=by omega
 have UY:(G.set L gs).getD L []=gs:=Xp G L hGl gs
 have hT1: ∀row:Row,(T.set L row).getD L []=row:=Xp T L hTl
 refine ⟨_,if_pos (by show (T.getD L []).length<=20;rw [WG.rl];exact n2),?_⟩
 dsimp only
 have hn0:(Ny (T.getD L [])).length+Hb (T.getD L [])<=40:=by have:=tT (T.getD L []);have:=cI (T.getD L []);have:=WG.rl;omega
 have hq0:EK gs (Ny (T.getD L [])) (T.getD L []):=⟨λy hy=>Tu.1 hy,λy hy=> .inl (Tu.2 ⟨y,rfl,hy⟩)⟩
 refine ⟨λv=> ∃(row:Row) (qu:List Int) (kg kt:Nat),v=(L,G.set L gs,kg,T.set L row,kt,qu,(N:Int),())/\L<=kg/\L<=kt/\qu.length+Hb row<=40/\Nt N L gs row/\EK gs qu row/\Sp gs (qu.length+Hb row) qu row=R,
  fun v=>v.2.2.2.2.2.1.length+Hb (v.2.2.2.1.getD v.1 []),⟨T.getD L [],Ny (T.getD L []),min G.length L,T.length,?_,by omega,by omega,hn0,WG,hq0,?_⟩,?_⟩
 ·rw [qi T L hTl]
 ·rw [<-vU hLN hg 100 _ _ (by omega) WG hq0];exact hR
 rintro v ⟨row,qu,kg,kt,rfl,VR,OV,hb,KR,hqi,KA⟩
 dsimp only
 simp only [UY,hT1,List.length_set]
 refine Br.dec (λhl=>⟨e1.2,?_⟩) λhl=>?_
 ·cases qu with
  |nil=>simp at hl
  |cons x qu=>
  obtain ⟨p1,p2,xn,t,rfl,ht⟩:=AL hLN hg KR hqi
  have PB:xn<N:=by rw [<-KR.rl];exact ia ht
  refine Ai gs.length (λv=>v.2.2.1) (λj v=> ∃kg kt:Nat,v=(L,L,(j:Int),G.set L gs,kg,T.set L (Tb (xn:Int) (gs.take j) (row,qu)).1,kt,(xn:Int)::(Tb (xn:Int) (gs.take j) (row,qu)).2,(N:Int),())/\L<=kg/\L<=kt) rfl ⟨kg,kt,rfl,VR,OV⟩ ?_
  rintro j v K hj hi ⟨kg,kt,rfl,h1,h2⟩ hK
  dsimp only
  simp only [UY,hT1,Int.toNat_natCast]
  refine Br.dec (λhl=>?_) λhl=>?_
  ·have hl:j<gs.length:=by omega
   obtain ⟨x1,x2⟩:=MQ hLN hg (gs.take j) (q:=qu) (λo ho=>List.mem_of_mem_take ho) KR ht
   have Td:=yP (x:=(xn:Int)) hl (row,qu)
   generalize Tb (xn:Int) (gs.take j) (row,qu)=s at x1 x2 Td⊢
   obtain ⟨r,qq⟩:=s
   dsimp only at x1 x2⊢
   obtain ⟨g,jd,Mu,SX⟩:=hg gs[j] (List.getElem_mem hl)
   have htx:r.getD xn none=some t:=x1.mono _ _ ht
   obtain ⟨t1,t2,t3,t4⟩:=x1.ok.rt _ _ htx
   have TN:r.length=N:=x1.ok.rl
   have hgj:gs.getD j none=some g:=by rw [wu hl];exact jd
   have hy:=Mu.lt PB
   have hga:=(Mu.Tj PB).1
   have QI:qq.length+Hb r=qu.length+Hb row:=x1.ZS
   simp only [List.length_cons] at hb
   simp only [hgj,Option.getD_some]
   refine ⟨⟨by omega,by omega⟩,⟨by omega,by simp only [List.length_cons];omega⟩,_,rfl,_,tt Mu PB,⟨by omega,by omega⟩,?_⟩
   rw [jd] at Td
   unfold Tl at Td
   dsimp only at Td
   rw [Option.getD_some,hga,Int.toNat_natCast,Int.toNat_natCast,htx,Option.getD_some] at Td
   rw [Int.toNat_natCast]
   refine Br.of (λhn=>?_) λhn=>?_
   ·have hn:r.getD (ap g xn) none=none:=by
     cases e:r.getD (ap g xn) none with
     |none=>rfl
     |some u=>rw [e] at hn;simp at hn
    rw [hn] at Td
    refine ⟨⟨by omega,by simp only [List.length_cons];omega⟩,_,rfl,⟨by omega,by omega⟩,some (Aa t g),?_,⟨by omega,by omega⟩,?_,?_⟩
    ·rw [Int.toNat_natCast,htx,Option.getD_some]
     exact if_pos ⟨Pz t1,jV t1 Mu⟩
    ·show qq.length+1+1<=4294967296
     omega
    ·rw [Ag (by omega)]
     refine hK hl _ rfl ⟨kg,kt,?_,h1,h2⟩
     rw [Td,List.set_set]
     rfl
   ·have hn: ∃u,r.getD (ap g xn) none=some u:=by
     cases e:r.getD (ap g xn) none with
     |none=>rw [e] at hn;simp at hn
     |some u=>exact ⟨u,rfl⟩
    obtain ⟨u,hn⟩:=hn
    rw [hn] at Td
    rw [Ag (by omega)]
    refine hK hl _ rfl ⟨kg,kt,?_,h1,h2⟩
    rw [Td]
  ·have:j=gs.length:=by omega
   subst this
   rw [List.take_length]
   generalize hs:Tb (xn:Int) gs (row,qu)=s at p1 p2⊢
   obtain ⟨r,qq⟩:=s
   dsimp only at p1 p2⊢
   have QI:qq.length+Hb r=qu.length+Hb row:=p1.ZS
   simp only [List.length_cons] at hb KA
   refine ⟨⟨by omega,by simp only [List.length_cons];omega,Int.le_refl _⟩,⟨r,qq,kg,kt,?_,h1,h2,by omega,p1.ok,p2,?_⟩,?_⟩
   ·simp
   ·rw [show qu.length+1+Hb row=(qu.length+Hb row)+1 by omega] at KA
    simp only [Sp,hs] at KA
    rw [QI]
    exact KA
   ·simp only [List.length_cons]
    have:(List.take (qq.length+1-Int.toNat 1) (List.drop (Int.toNat 1) ((xn:Int)::qq))).length=qq.length:=by simp
    rw [this]
    omega
 ·have:qu= []:=List.eq_nil_of_length_eq_zero (by omega)
  subst this
  rw [yQ] at KA
  subst KA
  have hpr:=MO hLN hg KR r3
  have hvl:=hv.lower gs row
  have SW: ∀qs:List (List Int),(∀q∈qs,q∈bp row gs)->V N k (L+1) (qs.foldl (λs q=>Dn k (L+1) q s) (G.set L gs,T.set L row))/\Oq (L+1) (G.set L gs,T.set L row) (qs.foldl (λs q=>Dn k (L+1) q s) (G.set L gs,T.set L row)):=
   fun qs FK=>CZ n1 n2 (by omega) qs _ (λq hq=>hpr q (FK q hq)) hvl
  refine ⟨_,if_pos (by show row.length<=20;rw [KR.rl];exact n2),?_⟩
  dsimp only
  have hol:=tT row
  have TN:=KR.rl
  refine Ai (Ny row).length (λv=>v.2.1) (λi v=> ∃(s:Av×Av) (kg kt:Nat),v=(L,(i:Int),s.1,kg,s.2,kt,Ny row,(N:Int),())/\L<=kg/\L<=kt/\s=(((Ny row).take i).flatMap λy=>gs.map (Mz row y)).foldl (λs q=>Dn k (L+1) q s) (G.set L gs,T.set L row)) rfl ⟨_,kg,kt,rfl,VR,OV,rfl⟩ ?_
  rintro i v K hi kN ⟨s,kg,kt,rfl,h1,h2,hs⟩ hK
  dsimp only
  have Ka: ∀q∈((Ny row).take i).flatMap (λy=>gs.map (Mz row y)),q∈bp row gs:= λq hq=>by
   obtain ⟨y,hy,hq⟩:=List.mem_flatMap.1 hq
   exact List.mem_flatMap.2 ⟨y,List.mem_of_mem_take hy,hq⟩
  refine Br.dec (λhl=>?_) λhl=>?_
  ·have hl:i<(Ny row).length:=by omega
   obtain ⟨f1,f2⟩:=SW _ Ka
   rw [<-hs] at f1 f2
   have g1:s.1.getD L []=gs:=by rw [(f2.low L (by omega)).1];exact UY
   have g2:s.1.length=N:=f1.1
   obtain ⟨yn,hyn,hyr⟩:=Tu.1 (List.getElem_mem hl)
   obtain ⟨t,ht⟩:=Option.ne_none_iff_exists'.1 hyr
   have hyN:yn<N:=by rw [<-TN];exact ia ht
   obtain ⟨t1,t2,t3,t4⟩:=KR.rt _ _ ht
   refine ⟨⟨by omega,by omega⟩,(yn:Int),by rw [Int.toNat_natCast,List.getElem?_eq_getElem hl,hyn],by omega,?_⟩
   rw [g1]
   refine Ai gs.length (λv=>v.2.2.1) (λj v=> ∃(s':Av×Av) (kg kt:Nat),v=(L,L,(j:Int),s'.1,kg,s'.2,kt,Ny row,(N:Int),())/\L<=kg/\L<=kt/\s'=(((Ny row).take i).flatMap (λy=>gs.map (Mz row y))++(gs.take j).map (Mz row (yn:Int))).foldl (λs q=>Dn k (L+1) q s) (G.set L gs,T.set L row)) rfl ⟨s,kg,kt,rfl,h1,h2,by simpa using hs⟩ ?_
   rintro j v K' hj tf ⟨s',kg,kt,rfl,h1,h2,wJ⟩ PV
   dsimp only
   refine Br.dec (λGm=>?_) λGm=>?_
   ·have Gm:j<gs.length:=by omega
    have DQ: ∀q∈((Ny row).take i).flatMap (λy=>gs.map (Mz row y))++(gs.take j).map (Mz row (yn:Int)),q∈bp row gs:= λq hq=>by
     rcases List.mem_append.1 hq with hq|hq
     ·exact Ka q hq
     ·obtain ⟨o,ho,rfl⟩:=List.mem_map.1 hq
      exact List.mem_flatMap.2 ⟨(yn:Int),Tu.2 ⟨yn,rfl,hyr⟩,List.mem_map.2 ⟨o,List.mem_of_mem_take ho,rfl⟩⟩
    obtain ⟨ZB,f2'⟩:=SW _ DQ
    rw [<-wJ] at ZB f2'
    obtain ⟨G',T'⟩:=s'
    dsimp only at ZB f2'⊢
    have g1':G'.getD L []=gs:=by have:=(f2'.low L (by omega)).1;dsimp only at this;rw [this];exact UY
    have g3':T'.getD L []=row:=by have:=(f2'.low L (by omega)).2;dsimp only at this;rw [this];exact hT1 row
    have g4':G'.length=N:=ZB.1
    have g5':T'.length=N:=ZB.2.1
    obtain ⟨g,jd,Mu,SX⟩:=hg gs[j] (List.getElem_mem Gm)
    have hgj:gs.getD j none=some g:=by rw [wu Gm];exact jd
    have vo:some g∈gs:=by rw [<-jd];exact List.getElem_mem Gm
    have hy:=Mu.lt hyN
    obtain ⟨t',rC⟩:=Option.ne_none_iff_exists'.1 (r3 yn t g ht vo)
    obtain ⟨u1,u2,u3,u4⟩:=KR.rt _ _ rC
    have Abb:Mz row (yn:Int) gs[j]=Aa (Aa t g) (Af t'):=by rw [jd];exact dd ht rC
    have TJ:=hpr _ (List.mem_flatMap.2 ⟨(yn:Int),Tu.2 ⟨yn,rfl,hyr⟩,List.mem_map.2 ⟨gs[j],List.getElem_mem Gm,Abb⟩⟩)
    simp only [g1',g3',Int.toNat_natCast,hgj,ht,Option.getD_some]
    have nm:L<Int.toNat ((L+1:Nat):Int):=by omega
    have JY:=sF n1 n2 k (L+1) _ (G',T') (by omega) ZB TJ.1 TJ.2
    have Ai2:((Dn k (L+1) (Aa (Aa t g) (Af t')) (G',T')).1).length=N:=JY.v.1
    have Ai3:((Dn k (L+1) (Aa (Aa t g) (Af t')) (G',T')).2).length=N:=JY.v.2.1
    have OU:((N:Int)-((L+1:Nat):Int)).toNat=k:=by omega
    refine ⟨⟨by omega,by omega⟩,⟨by omega,by omega⟩,some (Aa t g),if_pos ⟨Pz t1,jV t1 Mu⟩,_,tt Mu hyN,⟨by omega,by omega⟩,Af t',?_,some (Aa (Aa t g) (Af t')),?_,_,if_pos ⟨⟨N,L+1,_,rfl,?pr⟩,?lt⟩,⟨nm,?k1⟩,⟨nm,?k2⟩,⟨nm,?k3⟩,⟨nm,?k4⟩,?go⟩
    case pr=>exact ⟨n1,n2,rfl,rfl,by omega,by rw [show N-(L+1)=k by omega];exact ZB,TJ.1,TJ.2⟩
    case lt=>
     show ((N:Int)-((L+1:Nat):Int)).toNat<m
     omega
    case go=>
     dsimp only
     rw [Ag (by omega)]
     refine PV Gm _ rfl ⟨_,_,_,rfl,?_,?_,?_⟩
     ·show L<=min kg (Int.toNat ((L+1:Nat):Int));omega
     ·show L<=min kt (Int.toNat ((L+1:Nat):Int));omega
     ·rw [List.take_add_one,List.getElem?_eq_getElem Gm,Option.toList_some,List.map_append,<-List.append_assoc,List.foldl_append,<-wJ]
      simp only [List.map_cons,List.map_nil,List.foldl_cons,List.foldl_nil,Abb,OU,Int.toNat_natCast,Option.getD_some]
    case k1=>simp only [OU,Int.toNat_natCast,Option.getD_some];omega
    case k2=>simp only [OU,Int.toNat_natCast,Option.getD_some];omega
    case k3=>simp only [OU,Int.toNat_natCast,Option.getD_some];omega
    case k4=>simp only [OU,Int.toNat_natCast,Option.getD_some];omega
    ·rw [Int.toNat_natCast,rC,Option.getD_some]
     exact if_pos ⟨by show t'.length<=20;rw [u1.1];exact n2,u1.2.row⟩
    ·exact if_pos ⟨Pz (t1.comp Mu),jV (t1.comp Mu) u1.inv⟩
   ·have:j=gs.length:=by omega
    subst this
    rw [Ag (by omega)]
    refine hK hl _ rfl ⟨s',kg,kt,rfl,h1,h2,?_⟩
    rw [wJ,List.take_length,List.take_add_one,List.getElem?_eq_getElem hl,Option.toList_some,List.flatMap_append,hyn]
    simp
  ·have:i=(Ny row).length:=by omega
   subst this
   rw [List.take_length] at hs
   refine ⟨h1,h2,?_⟩
   rw [hs]
   rfl
theorem ND {m:Nat} (WY:Bf Tryz.prog 130 (Ph m)):Bf Tryz.prog 130 (Ph (m+1)):=
 Bf.gD (RN [Lo+7]) (Ae sr (Ft qt (Ae oD (Ae Kz (Ft WY Al))))) mixed Tryz.func130 (by kernel_rfl) (by kernel_rfl) λx h=>Abz x.1 x.2.1 x.2.2.1 x.2.2.2.1 x.2.2.2.2.1 h
theorem BD:Bf Tryz.prog 130 (Ph 0):=
 Bf.gD oZ Al mixed Tryz.func130 (by kernel_rfl) (by kernel_rfl) λ_ h=>absurd h.2 (Nat.not_lt_zero _)
theorem oz: ∀m,Bf Tryz.prog 130 (Ph m)
 |0=>BD
 |m+1=>ND (oz m)
noncomputable abbrev um:MSpec:=gD TU (λx=> ∃N L q,x.2.2.2.2.1=some q/\On N L x.1 x.2.1 x.2.2.1 x.2.2.2.1 q)
 (λx=>((x.1,(Dn (x.1-x.2.2.2.1).toNat x.2.2.2.1.toNat (x.2.2.2.2.1.getD []) (x.2.1,x.2.2.1)).1,(Dn (x.1-x.2.2.2.1).toNat x.2.2.2.1.toNat (x.2.2.2.2.1.getD []) (x.2.1,x.2.2.1)).2,()),()))
theorem BE:Bf Tryz.prog 130 um:=Bf.TX (λx=>(x.1-x.2.2.2.1).toNat) oz
end Go.Proofs.YtfolipnappekaaaGreat

namespace Go.Proofs.YtfolipnappekaaaGreat
open Go.RowKit
def Mq (n:Nat):Av:=List.replicate n []
def Vw (n i:Nat):Row:=(List.replicate n none).set i (some (upto n))
def Rf (n:Nat):Av:=(List.range n).map λi=>Vw n i
def Ni (n:Nat) (gens:List PO):Av×Av:=gens.foldl (λs o=>Dn n 0 (o.getD []) s) (Mq n,Rf n)
noncomputable abbrev zy:MSpec:= {Fc:= [none,none],ins:= [(false, .Ee tI),(false, .Ee RK)],Dh:=false,Ef:= [none,none,none],outs:= [.Ee tI, .Ah tO pw false, .Ah tO pw false],fn:= λ_=>none,rp:=some 141}
noncomputable abbrev db:MSpec:=gD zy (λx=>(1<=x.1/\x.1<=20)/\List.length x.2.1<=4294967296/\ ∀o∈(x.2.1:List PO),∃g,o=some g/\Pm x.1.toNat g)
 (λx=>((x.1,(Ni x.1.toNat x.2.1).1,(Ni x.1.toNat x.2.1).2,()),()))
abbrev Tx:Type:=Int×List (List (Option (List Int)))×Int×List (List (Option (List Int)))×PUnit
theorem yt (n:Int) (gens:List (Option (List Int))) (P:(Int×List (List (Option (List Int)))×List (List (Option (List Int)))×Unit)×Unit->Prop):(((0:Int)<=n/\n<(↑Bj:Int)+(1:Int))/\n=n/\0=0/\(List.replicate n.toNat ([]:List (Option (List Int)))).length=(List.replicate n.toNat ([]:List (Option (List Int)))).length/\0=0/\0=([]:List Int).length/\Bm (λ(v3:Tx) (k4:Tx->Prop)=>Br (decide (v3.1<n)) (((0:Int)<=n/\n<(↑Bj:Int)+(1:Int))/\n=n/\ ∃(y5:Option (List Int)),Jw.fn (n,())=some y5/\((0:Int)<=v3.1/\v3.1<(↑(List.replicate n.toNat (none:Option (List Int))).length:Int))/\0+v3.1.toNat<(List.replicate n.toNat (none:Option (List Int))).length/\0=0/\(List.replicate n.toNat (none:Option (List Int))).length=((List.replicate n.toNat (none:Option (List Int))).set (0+v3.1.toNat) y5).length/\(0=0/\v3.2.2.2.1.length=v3.2.2.2.1.length)/\(0=0/\1= [(List.replicate n.toNat (none:Option (List Int))).set (0+v3.1.toNat) y5].length)/\0< [(List.replicate n.toNat (none:Option (List Int))).set (0+v3.1.toNat) y5].length/\v3.2.2.2.1.length+ [(List.replicate n.toNat (none:Option (List Int))).set (0+v3.1.toNat) y5].length<=Bj/\0=0/\v3.2.1.length=v3.2.1.length/\0=0/\(v3.2.2.2.1++ [(List.replicate n.toNat (none:Option (List Int))).set (0+v3.1.toNat) y5]).length=(v3.2.2.2.1++ [(List.replicate n.toNat (none:Option (List Int))).set (0+v3.1.toNat) y5]).length/\k4 (IntKind.i64.wrap (v3.1+(1:Int)),v3.2.1,v3.2.2.1,v3.2.2.2.1++ [(List.replicate n.toNat (none:Option (List Int))).set (0+v3.1.toNat) y5],())) (0=0/\v3.2.1.length=v3.2.1.length/\0=0/\v3.2.2.2.1.length=v3.2.2.2.1.length/\Bm (λ(v5:Tx) (k6:Tx->Prop)=>Br (decide (v5.1<(↑gens.length:Int))) (∃(y7:Option (List Int)),idx gens v5.1=some y7/\0=0/\v5.2.1.length=v5.2.1.length/\0=0/\v5.2.2.2.1.length=v5.2.2.2.1.length/\ ∃(y8:(Int×List (List (Option (List Int)))×List (List (Option (List Int)))×PUnit)×PUnit),um.fn (v5.2.2.1,v5.2.1,v5.2.2.2.1,(0:Int),y7,())=some y8/\0=0/\y8.1.2.1.length=y8.1.2.1.length/\0=0/\y8.1.2.2.1.length=y8.1.2.2.1.length/\k6 (IntKind.i64.wrap (v5.1+(1:Int)),y8.1.2.1,y8.1.1,y8.1.2.2.1,())) ((0=0/\v5.2.1.length=v5.2.1.length)/\(0=0/\v5.2.2.2.1.length=v5.2.2.2.1.length)/\P ((v5.2.2.1,v5.2.1,v5.2.2.2.1,()),()))) ((0:Int),v3.2.1,v3.2.2.1,v3.2.2.2.1,PUnit.unit))) ((0:Int),List.replicate n.toNat ([]:List (Option (List Int))),n,[],PUnit.unit))=fnMW Wd (look [(105,Jw),(130,um)]) db Tryz.f98 (n,gens,()) P:=by kernel_rfl
theorem Re (n i:Nat):(Mq n).getD i []= []:=by
 unfold Mq
 rw [List.getD_eq_getElem?_getD,List.getElem?_replicate]
 split<;>rfl
theorem gq {n i:Nat} (h:i<n):(Rf n).getD i []=Vw n i:=by
 unfold Rf
 rw [List.getD_eq_getElem?_getD,List.getElem?_map,List.getElem?_range h]
 rfl
theorem iX {n i y:Nat} (h:i<n):(Vw n i).getD y none=if i=y then some (upto n) else none:=by
 unfold Vw
 rw [Gl,List.length_replicate]
 by_cases e:i=y
 ·rw [if_pos ⟨e,h⟩,if_pos e]
 ·rw [if_neg (λhh=>e hh.1),if_neg e,List.getD_eq_getElem?_getD,List.getElem?_replicate]
  split<;>rfl
theorem oU {n:Nat} (h1:1<=n) (h2:n<=20): ∀(k l:Nat),l+k=n->ec n k l (Mq n,Rf n)
 |0,l,hk=>Re n l
 |k+1,l,hk=>by
  have hl:l<n:=by omega
  have hg: ∀(g:List Int) (j:Nat),some g∈(Mq n).getD j []->False:= λg j hg=>by rw [Re] at hg;cases hg
  refine ⟨oU h1 h2 k (l+1) (by omega),⟨λo ho=>?_,?_,?_,λy t e0=>?_,λy t g _ Mf=>(hg _ _ Mf).elim,λy t g t' _ Mf=>(hg _ _ Mf).elim⟩,λg Mf=>(hg _ _ Mf).elim⟩
  ·have ho:o∈(Mq n).getD l []:=ho
   rw [Re] at ho;cases ho
  ·show ((Rf n).getD l []).length=n
   rw [gq hl];simp [Vw]
  ·show ((Rf n).getD l []).getD l none=_
   rw [gq hl,iX hl,if_pos rfl]
  ·replace e0:((Rf n).getD l []).getD y none=some t:=e0
   rw [gq hl,iX hl] at e0
   by_cases hy:l=y
   ·rw [if_pos hy] at e0
    have e1:=Option.some.inj e0
    subst e1 hy
    exact ⟨Pm.id h1 h2,λi hi=>ey (by omega),ey hl, .id⟩
   ·rw [if_neg hy] at e0;cases e0
theorem xW (n:Nat): ∀(k l:Nat),YY k l (Mq n,Rf n)
 |0,_=>trivial
 |k+1,l=>⟨xW n k (l+1),by show ((Mq n).getD l []).length<=_;rw [Re];exact Nat.zero_le _⟩
theorem mg {n:Nat} (h1:1<=n) (h2:n<=20):V n n 0 (Mq n,Rf n):=⟨by simp [Mq],by simp [Rf],oU h1 h2 n 0 (by omega),xW n n 0⟩
def UJ (n:Nat) (gens:List PO):Prop:= ∀o∈gens,∃g,o=some g/\Pm n g
theorem vI {n:Nat} {gens:List PO} {j:Nat} (hj:j<gens.length):Ni n (gens.take (j+1))=Dn n 0 (gens[j].getD []) (Ni n (gens.take j)):=by
 unfold Ni
 rw [List.take_add_one,List.getElem?_eq_getElem hj,Option.toList_some,List.foldl_append]
 rfl
theorem ji {n:Nat} (h1:1<=n) (h2:n<=20): ∀(gens:List PO) (s:Av×Av),UJ n gens->V n n 0 s->V n n 0 (gens.foldl (λs o=>Dn n 0 (o.getD []) s) s)/\
  Oq 0 s (gens.foldl (λs o=>Dn n 0 (o.getD []) s) s)/\(∀g,some g∈gens->Gn n ((gens.foldl (λs o=>Dn n 0 (o.getD []) s) s).1.getD 0 []) g)/\ ∀o∈(gens.foldl (λs o=>Dn n 0 (o.getD []) s) s).1.getD 0 [],o∈s.1.getD 0 []\/o∈gens
 | [],s,_,hv=>⟨hv,Oq.refl _ _,(λ_ hg=>by cases hg),λ_ ho=> .inl ho⟩
 |o::gens,s,hg,hv=>by
  obtain ⟨g,rfl,Mu⟩:=hg o (by simp)
  have ha:=sF h1 h2 n 0 g s (by omega) hv Mu (λi hi=>absurd hi (Nat.not_lt_zero _))
  obtain ⟨a1,a2,a3,a4⟩:=ji h1 h2 gens (Dn n 0 g s) (λo ho=>hg o (by simp [ho])) ha.v
  refine ⟨a1,ha.grow.trans a2 (Nat.le_refl _),λg' Mf=>?_,λo ho=>?_⟩
  ·rcases List.mem_cons.1 Mf with e|Mf
   ·cases e;exact ha.WZ.mono λg hg=>a2.ri _ _ hg
   ·exact a3 g' Mf
  ·rcases a4 o ho with h|h
   ·rcases ha.gens o h with h|h
    ·exact .inl h
    ·exact .inr (by simp [h])
   ·exact .inr (by simp [h])
theorem vH {n:Nat} (h1:1<=n) (h2:n<=20) {gens:List PO} (hg:UJ n gens):V n n 0 (Ni n gens):=(ji h1 h2 gens _ hg (mg h1 h2)).1
theorem fL {n:Nat} (h1:1<=n) (h2:n<=20) {gens:List PO} (hg:UJ n gens) {p:List Int} (hp:Pm n p):Dx (Ni n gens).2 n 0 p=true↔Gn n gens p:=by
 obtain ⟨a1,a2,a3,a4⟩:=ji h1 h2 gens _ hg (mg h1 h2)
 have hS:vE n λg=>some g∈gens:=⟨⟨h1,h2⟩,λg Mf=>by obtain ⟨g',e,h⟩:=hg _ Mf;cases e;exact h⟩
 have Ka: ∀g,some g∈(Ni n gens).1.getD 0 []->some g∈gens:= λg Mf=>by
  rcases a4 _ Mf with h|h
  ·have h:some g∈(Mq n).getD 0 []:=h
   rw [Re] at h;cases h
  ·exact h
 have VB:vE n λg=>some g∈(Ni n gens).1.getD 0 []:=⟨⟨h1,h2⟩,λg Mf=>hS.2 g (Ka g Mf)⟩
 refine (Nb h1 h2 n 0 (Ni n gens) (by omega) a1.2.2.1 p hp λi hi=>absurd hi (Nat.not_lt_zero _)).trans ⟨λh=>h.mono Ka,λh=>h.trans VB λg Mf=>a3 g Mf⟩
theorem xB (n:Int) (gens:List (Option (List Int))) (h:(1<=n/\n<=20)/\List.length gens<=4294967296/\ ∀o∈(gens:List PO),∃g,o=some g/\Pm n.toNat g):
  fnMW Wd (look [(105,Jw),(130,um)]) db Tryz.f98 (n,gens,()) (λ(z:(Int×List (List (Option (List Int)))×List (List (Option (List Int)))×Unit)×Unit)=>z=((n,(Ni n.toNat gens).1,(Ni n.toNat gens).2,()),())):=by
 obtain ⟨⟨h1,h2⟩,h3,hg⟩:=h
 obtain ⟨N,rfl⟩: ∃N:Nat,n=N:=⟨n.toNat,by omega⟩
 rw [Int.toNat_natCast] at hg⊢
 have h1:1<=N:=by omega
 have h2:N<=20:=by omega
 refine Eq.mp (yt (N:Int) gens _) ?_
 have hm:((0:Int)<=(N:Int)/\(N:Int)<(Bj:Int)+1):=⟨by omega,by show (N:Int)<(4294967296:Int)+1;omega⟩
 simp only [hm,and_self,eq_self,true_and,Int.toNat_natCast,Nat.zero_add,List.length_nil,List.length_set,List.length_replicate,List.length_cons,Nat.lt_add_one,List.length_append]
 refine Ai N (λv=>v.1) (λj v=>v=((j:Int),Mq N,(N:Int),(List.range j).map (Vw N),())) rfl rfl ?_
 rintro j v K hj hi rfl hK
 dsimp only
 refine Br.dec (λhl=>?_) λhl=>?_
 ·refine ⟨_,if_pos ⟨by show (1:Int)<=N;omega,by show (N:Int)<=20;omega⟩,⟨by omega,by omega⟩,by rw [Int.toNat_natCast];omega,?_,?_⟩
  ·show _<=4294967296
   simp only [List.length_map,List.length_range]
   omega
  ·rw [Ag (by omega)]
   refine hK (by omega) _ rfl ?_
   rw [List.range_succ,List.map_append]
   rfl
 ·have:j=N:=by omega
  subst this
  refine Ai gens.length (λv=>v.1) (λi v=>v=((i:Int),(Ni j (gens.take i)).1,(j:Int),(Ni j (gens.take i)).2,())) rfl rfl ?_
  rintro i v K' kN Afr rfl PV
  dsimp only
  refine Br.dec (λGm=>?_) λGm=>?_
  ·have Gm:i<gens.length:=by omega
   obtain ⟨g,jd,Mu⟩:=hg gens[i] (List.getElem_mem Gm)
   have hv:=vH h1 h2 (gens:=gens.take i) λo ho=>hg o (List.mem_of_mem_take ho)
   refine ⟨_,Ap Gm,_,if_pos ⟨j,0,g,jd,h1,h2,rfl,rfl,Nat.zero_le _,hv,Mu,λi hi=>absurd hi (Nat.not_lt_zero _)⟩,?_⟩
   rw [Ag (by omega)]
   refine PV Gm _ rfl ?_
   rw [vI Gm]
   simp only [Int.sub_zero,Int.toNat_natCast]
   rfl
  ·have:i=gens.length:=by omega
   subst this
   rw [List.take_length]
theorem lS:Bf Tryz.prog 98 db:=
 Bf.gD oZ (Ae lL (Ft BE Al)) mixed Tryz.func98 (by kernel_rfl) (by kernel_rfl) λx h=>xB x.1 x.2.1 h
end Go.Proofs.YtfolipnappekaaaGreat

namespace Go.Proofs.YtfolipnappekaaaGreat
open Go.RowKit
noncomputable abbrev wR:MSpec:= {Fc:= [none,none],ins:= [(false, .Ee tI),(false, .Ee dX)],Dh:=false,Ef:= [none,none,none],outs:= [.Ee tI, .Ah tO pw false, .Ah tO pw false],fn:= λ_=>none,rp:=some 141}
def Wh (n:Int) (g:List (List Int)):Av×Av:=Ni n.toNat (g.map some)
noncomputable abbrev Qx:MSpec:=gD wR (λx=>(1<=x.1/\x.1<=20)/\List.length x.2.1<=4294967296/\ ∀g∈(x.2.1:List (List Int)),Pm x.1.toNat g)
 (λx=>((x.1,(Wh x.1 x.2.1).1,(Wh x.1 x.2.1).2,()),()))
noncomputable def Ga (p:PP) (s:List Int):Bool:=(Bt p&&Cw p.1 s)&&Dx (Wh p.1 p.2.2.1).2 p.1.toNat 0 s
noncomputable abbrev Ig:Spec:=Co (.pair Dc (.pair tL .unit)) .bool false true (λx=>Cl x.1/\short x.2.1) (λx=>Ga x.1 x.2.1)
theorem Cells.told {w:World} {S:Nat->Prop} {e:Ty} {cs:List Value} {xs:List e.den} (h:Cells w S (.slice e) cs xs): ∃o:Option (List e.den),Cells w S (.oslice e) cs o/\o.getD []=xs:=by
 simp only [Cells] at h
 obtain ⟨a,len,cap,rfl,h1,h2,h3⟩:=h
 cases a with
 |none=>
  rcases h3 with rfl|⟨g,o,h,_⟩
  ·refine ⟨none,?_,rfl⟩
   simp only [Cells]
   exact .inl ⟨trivial,cap,by rw [h1];rfl⟩
  ·cases h
 |some ad=>
  refine ⟨some xs,?_,rfl⟩
  simp only [Cells]
  exact .inr ⟨xs,ad,len,cap,rfl,rfl,h1,h2,h3.imp id λ⟨g,o,h,h4⟩=>⟨g,o,Option.some.inj h,h4⟩⟩
theorem yM {α β:Type} (Q:Nat->α->β->Prop): ∀(xs:List α),(∀i x,xs[i]?=some x-> ∃y,Q i x y)-> ∃ys:List β,ys.length=xs.length/\ ∀i x y,xs[i]?=some x->ys[i]?=some y->Q i x y:=by
 intro xs h
 refine ⟨List.ofFn λi:Fin xs.length=>Classical.choose (h i xs[i] (List.getElem?_eq_getElem i.2)),by simp,λi x y h1 h2=>?_⟩
 obtain ⟨hi,rfl⟩:=List.getElem?_eq_some_iff.1 h1
 obtain ⟨kN,rfl⟩:=List.getElem?_eq_some_iff.1 h2
 rw [List.getElem_ofFn]
 exact Classical.choose_spec (h i xs[i] (List.getElem?_eq_getElem hi))
theorem Bb.UF {w:World} {S:Nat->Prop} {e:Ty} {v:Value} {xs:List (List e.den)} (h:Bb w S (.slice (.slice e)) v xs): ∃os:List (Option (List e.den)),Bb w S (.slice (.oslice e)) v os/\os.map (·.getD [])=xs:=by
 obtain ⟨cs,hc,rfl⟩:=h
 simp only [Cells] at hc
 obtain ⟨a,len,cap,rfl,h1,h2,h3⟩:=hc
 rcases h3 with rfl|⟨g,o,rfl,hg,hS,h4⟩
 ·refine ⟨[],⟨_,?_,rfl⟩,rfl⟩
  simp only [Cells]
  exact ⟨a,len,cap,rfl,h1,h2, .inl trivial⟩
 ·obtain ⟨os,e1,e2⟩:=yM (λi (x:List e.den) (y:Option (List e.den))=>y.getD []=x/\ ∃es:List Value,es.length=1/\(∀j u,es[j]?=some u->w.cell? ⟨g,o+i*1+j,none⟩=some u)/\Cells w S (.oslice e) es y) xs λi x hx=>by
   obtain ⟨es,k1,k2,k3⟩:=h4 i x hx
   obtain ⟨y,k4,k5⟩:=Cells.told (e:=e) (by simp only [Cells];exact k3)
   exact ⟨y,k5,es,k1,k2,k4⟩
  refine ⟨os,⟨_,?_,rfl⟩,?_⟩
  ·simp only [Cells]
   refine ⟨_,len,cap,rfl,by rw [h1,e1],h2, .inr ⟨g,o,rfl,hg,hS,λi y hy=>?_⟩⟩
   obtain ⟨hi,_⟩:=List.getElem?_eq_some_iff.1 hy
   obtain ⟨_,es,k1,k2,k3⟩:=e2 i _ y (List.getElem?_eq_getElem (by omega)) hy
   simp only [Cells] at k3
   exact ⟨es,k1,k2,k3⟩
  ·refine List.ext_getElem (by simp [e1]) λi g1 g2=>?_
   rw [List.getElem_map]
   exact (e2 i _ _ (List.getElem?_eq_getElem g2) (List.getElem?_eq_getElem (by omega))).1
theorem oK:Bf Tryz.prog 98 Qx:=by
 have h:=lS
 refine ⟨h.enter,λw S π us x r o g vs h1 hg h2 h3 hS h4 h5=>?_⟩
 obtain ⟨n,gens,⟨⟩⟩:=x
 match us,h2 with
 |u1::u2::us,h2=>
  obtain ⟨h6,⟨h7,h8⟩,h9⟩:=h2
  obtain ⟨os,jc,bF⟩:=Bb.UF (e:=tI) h8
  have bF:os.map (·.getD [])=(gens:List (List Int)):=bF
  have Xq:(1<=n/\n<=20)/\List.length gens<=4294967296/\ ∀g∈(gens:List (List Int)),Pm n.toNat g:=Classical.byContradiction λhn=>by
   have:Qx.fn (n,gens,())=none:=if_neg hn
   rw [this] at h5;cases h5
  have VY:os=gens.map some:=by
   rw [<-bF,List.map_map]
   refine (List.map_id os).symm.trans (List.map_congr_left λx hx=>?_)
   cases x with
   |some y=>rfl
   |none=>
    have:=Xq.2.2 [] (by rw [<-bF];exact List.mem_map.2 ⟨none,hx,rfl⟩)
    have h1:=this.n1
    have h2:=this.1
    simp at h2
    omega
  have hv:Qx.fn (n,gens,())=some ((n,(Wh n gens).1,(Wh n gens).2,()),()):=if_pos Xq
  rw [hv] at h5
  have h5:=Option.some.inj h5
  refine h.calls w S π (u1::u2::us) (n,os,()) r o g vs h1 hg ⟨h6,⟨h7,jc⟩,h9⟩ h3 hS h4 ?_
  refine (if_pos ⟨Xq.1,by rw [VY,List.length_map];exact Xq.2.1,λy hy=>?pp⟩).trans (congrArg some ?qq)
  case pp=>
   replace hy:y∈os:=hy
   rw [VY] at hy
   obtain ⟨g,hg,rfl⟩:=List.mem_map.1 hy
   exact ⟨g,rfl,Xq.2.2 g hg⟩
  case qq=>subst VY;exact h5
theorem Ye {p:PP} (hv:Valid p):(1<=p.1/\p.1<=20)/\List.length p.2.2.1<=4294967296/\ ∀g∈p.2.2.1,Pm p.1.toNat g:=
 ⟨hv.n,by have:=hv.sW;omega,λg hg=>⟨by have:=hv.len g hg;omega,az (hv.perm g hg)⟩⟩
theorem Zb {n:Nat} {g:List (List Int)} (h: ∀x∈g,Pm n x):UJ n (g.map some):= λo ho=>by
 obtain ⟨x,hx,rfl⟩:=List.mem_map.1 ho
 exact ⟨x,rfl,h x hx⟩
theorem PM {p:PP} (hv:Valid p):V p.1.toNat p.1.toNat 0 (Wh p.1 p.2.2.1):=by
 have:=hv.n
 exact vH (by omega) (by omega) (Zb (Ye hv).2.2)
end Go.Proofs.YtfolipnappekaaaGreat

namespace Go.Proofs.YtfolipnappekaaaGreat
open Go.RowKit
theorem xQ {g:List (List Int)} {x:List Int} :some x∈g.map some↔x∈g:=by simp
theorem Wu {n k:Nat} (hk:k<n):(k:Int)+1∈Ck n/\ -((k:Int)+1)∈Ck n:=by
 unfold Ck
 exact ⟨List.mem_flatMap.2 ⟨k,List.mem_range.2 hk,by simp⟩,List.mem_flatMap.2 ⟨k,List.mem_range.2 hk,by simp⟩⟩
theorem Dg.nodup {m:Nat} {L:List (List Int)} {Hy:List Int} (h:Dg m L Hy):L.Nodup:=
 List.pairwise_iff_getElem.2 λi j hi hj jC e=>by have:=h.inj hi hj e;omega
end Go.Proofs.YtfolipnappekaaaGreat

namespace Go.Proofs.YtfolipnappekaaaGreat
open Go.RowKit
theorem Fg {α:Type} {xs ys:List α} {i:Nat} {d:α} (h:i<xs.length):(xs++ys).getD i d=xs.getD i d:=by
 rw [List.getD_eq_getElem?_getD,List.getD_eq_getElem?_getD,List.getElem?_append_left h]
theorem dE {α:Type} {xs:List α} {x d:α} :(xs++ [x]).getD xs.length d=x:=by
 rw [List.getD_eq_getElem?_getD,List.getElem?_append_right (Nat.le_refl _),Nat.sub_self];rfl
theorem Tq {α:Type} {xs:List α} {i:Nat} {d:α} (h:i<xs.length):xs.getD i d=xs[i]:=by
 rw [List.getD_eq_getElem?_getD,List.getElem?_eq_getElem h];rfl
structure Lv (g:List (List Int)) (ls:List Int) (k:Nat) (L:List (List Int)) (D:List Int):Prop where
 len:D.length=L.length
 pos:0<L.length
 mono: ∀i j,i<=j->j<L.length->D.getD i 0<=D.getD j 0
 MC:k<L.length-> ∀j,j<L.length->D.getD j 0<=D.getD k 0+1
 par: ∀j,0<j->j<L.length-> ∃i l,i<j/\l∈ls/\L.getD j []=Aa (L.getD i []) (An g l)/\D.getD j 0=D.getD i 0+1
 zero:D.getD 0 0=0
theorem Lv.add {g:List (List Int)} {ls:List Int} {k:Nat} {L:List (List Int)} {D:List Int} (h:Lv g ls k L D) (hk:k<L.length) {l:Int} (hl:l∈ls):
  Lv g ls k (L++ [Aa (L.getD k []) (An g l)]) (D++ [D.getD k 0+1]):=by
 have hlen:=h.len
 have hD: ∀i,i<L.length->(D++ [D.getD k 0+1]).getD i 0=D.getD i 0:= λi hi=>Fg (by omega)
 have SI:(D++ [D.getD k 0+1]).getD L.length 0=D.getD k 0+1:=by rw [<-hlen];exact dE
 refine ⟨by simp [hlen],by simp,λi j jC hj=>?_,λ_ j hj=>?_,λj h0 hj=>?_,?_⟩
 ·rw [List.length_append,List.length_singleton] at hj
  by_cases e:j=L.length
  ·subst e
   rw [SI]
   by_cases e':i=L.length
   ·subst e';rw [SI];exact Int.le_refl _
   ·rw [hD i (by omega)]
    exact h.MC hk i (by omega)
  ·rw [hD i (by omega),hD j (by omega)]
   exact h.mono i j jC (by omega)
 ·rw [List.length_append,List.length_singleton] at hj
  rw [hD k hk]
  by_cases e:j=L.length
  ·subst e;rw [SI];exact Int.le_refl _
  ·rw [hD j (by omega)];exact h.MC hk j (by omega)
 ·rw [List.length_append,List.length_singleton] at hj
  by_cases e:j=L.length
  ·subst e
   exact ⟨k,l,hk,hl,by rw [dE,Fg hk],by rw [SI,hD k hk]⟩
  ·obtain ⟨i,l',h1,h2,h3,h4⟩:=h.par j h0 (by omega)
   exact ⟨i,l',h1,h2,by rw [Fg (by omega),Fg (by omega)];exact h3,by rw [hD j (by omega),hD i (by omega)];exact h4⟩
 ·rw [hD 0 h.pos];exact h.zero
theorem mH {g:List (List Int)} {ls:List Int} {k:Nat} : ∀(DW:List Int) (L:List (List Int)) (D:List Int),(∀l∈DW,l∈ls)->Lv g ls k L D->k<L.length-> ∀ {x:List Int} {d:Int},x=L.getD k []->d=D.getD k 0->
  Lv g ls k (Hj g x d DW L D).1 (Hj g x d DW L D).2.1/\(∃A,(Hj g x d DW L D).1=L++A)/\(∃A,(Hj g x d DW L D).2.1=D++A)/\
  ((Hj g x d DW L D).2.2=true-> ∀l∈DW,∃j,j<(Hj g x d DW L D).1.length/\(Hj g x d DW L D).1.getD j []=Aa x (An g l)/\(Hj g x d DW L D).2.1.getD j 0<=d+1)
 | [],L,D,_,h,_,x,d,_,_=>⟨h,⟨[],by simp [Hj]⟩,⟨[],by simp [Hj]⟩,λ_ l hl=>by cases hl⟩
 |l::DW,L,D,hs,h,hk,x,d,hx,hd=>by
  have wJ: ∀l∈DW,l∈ls:= λl' h'=>hs l' (List.mem_cons_of_mem _ h')
  have hlen:=h.len
  simp only [Hj]
  split
  ·rename_i hm
   obtain ⟨a1,⟨A,a2⟩,⟨A',a3⟩,a4⟩:=mH DW L D wJ h hk hx hd
   refine ⟨a1,⟨A,a2⟩,⟨A',a3⟩,λe l' Gm=>?_⟩
   rcases List.mem_cons.1 Gm with rfl|Gm
   ·obtain ⟨j,hj,hjx⟩:=List.mem_iff_getElem.1 hm
    refine ⟨j,by rw [a2,List.length_append];omega,by rw [a2,Fg hj,Tq hj];exact hjx,?_⟩
    rw [a3,Fg (by omega),hd]
    exact h.MC hk j hj
   ·exact a4 e l' Gm
  ·split
   ·exact ⟨h,⟨[],by simp⟩,⟨[],by simp⟩,λe=>by cases e⟩
   ·have JY:=h.add hk (hs l (by simp))
    rw [<-hx,<-hd] at JY
    obtain ⟨a1,⟨A,a2⟩,⟨A',a3⟩,a4⟩:=mH DW (L++ [Aa x (An g l)]) (D++ [d+1]) wJ JY (by rw [List.length_append];omega) (x:=x) (d:=d) (by rw [Fg hk];exact hx) (by rw [Fg (by omega)];exact hd)
    refine ⟨a1,⟨_::A,by rw [a2,List.append_assoc];rfl⟩,⟨_::A',by rw [a3,List.append_assoc];rfl⟩,λe l' Gm=>?_⟩
    rcases List.mem_cons.1 Gm with rfl|Gm
    ·refine ⟨L.length,by rw [a2,List.length_append,List.length_append];simp only [List.length_singleton];omega,?_,?_⟩
     ·rw [a2,Fg (by simp),dE]
     ·rw [a3,Fg (by simp [hlen]),<-hlen,dE]
      exact Int.le_refl _
    ·exact a4 e l' Gm
structure yJ (g:List (List Int)) (ls:List Int) (L:List (List Int)) (D:List Int):Prop where
 len:D.length=L.length
 pos:0<L.length
 zero:D.getD 0 0=0
 par: ∀j,0<j->j<L.length-> ∃i l,i<j/\l∈ls/\L.getD j []=Aa (L.getD i []) (An g l)/\D.getD j 0=D.getD i 0+1
 step: ∀i,i<L.length-> ∀l∈ls,∃j,j<L.length/\L.getD j []=Aa (L.getD i []) (An g l)/\D.getD j 0<=D.getD i 0+1
theorem vS {g:List (List Int)} {ls:List Int} : ∀(f k:Nat) (L:List (List Int)) (D:List Int),3001<=f+k->Lv g ls k L D->k<=L.length->
  (∀i,i<k-> ∀l∈ls,∃j,j<L.length/\L.getD j []=Aa (L.getD i []) (An g l)/\D.getD j 0<=D.getD i 0+1)->
  (Lc g ls f k L D).2.2=true->(Lc g ls f k L D).1.length<=3000->yJ g ls (Lc g ls f k L D).1 (Lc g ls f k L D).2.1
 |0,k,L,D,hf,h,VP,hc,hw,h3=>by
  simp only [Lc] at h3⊢
  omega
 |f+1,k,L,D,hf,h,VP,hc,hw,h3=>by
  simp only [Lc] at hw h3⊢
  split
  ·rename_i hk
   rw [if_pos hk] at hw h3
   obtain ⟨a1,⟨A,a2⟩,⟨A',a3⟩,a4⟩:=mH (x:=L.getD k []) (d:=D.getD k 0) ls L D (λ_ h=>h) h hk rfl rfl
   have hlen:=h.len
   split
   ·rename_i L' D' he
    rw [he] at a1 a2 a3 a4
    simp only [he] at hw h3
    have a2:L'=L++A:=a2
    have a3:D'=D++A':=a3
    have a4:=a4 rfl
    dsimp only at a4
    have hLl:L.length<=L'.length:=by rw [a2,List.length_append];omega
    refine vS f (k+1) L' D' (by omega) ⟨a1.len,a1.pos,a1.mono,λhk1 j hj=>?_,a1.par,a1.zero⟩ (by omega) (λi hi l hl=>?_) hw h3
    ·have h1:D'.getD j 0<=D'.getD k 0+1:=a1.MC (show k<L'.length by omega) j hj
     have h2:D'.getD k 0<=D'.getD (k+1) 0:=a1.mono k (k+1) (by omega) hk1
     omega
    ·by_cases e:i=k
     ·subst e
      obtain ⟨j,b1,b2,b3⟩:=a4 l hl
      refine ⟨j,b1,?_,?_⟩
      ·rw [b2,a2,Fg (by omega)]
      ·rw [show D'.getD i 0=D.getD i 0 by rw [a3,Fg (by omega)]];exact b3
     ·obtain ⟨j,b1,b2,b3⟩:=hc i (by omega) l hl
      refine ⟨j,by omega,?_,?_⟩
      ·rw [a2,Fg (by omega),Fg (by omega)];exact b2
      ·rw [a3,Fg (by omega),Fg (by omega)];exact b3
   ·rename_i L' D' he
    simp only [he] at hw
    cases hw
  ·rename_i hk
   exact ⟨h.len,h.pos,h.zero,h.par,λi hi=>hc i (by have hi:i<L.length:=hi;omega)⟩
theorem yR {p:PP} {s:List Int} (hv:Bt p=true) (hs:s.length<=20) (hr: ∀y∈s,0<=y/\y<p.1) (hw:(Gg p.2.2.1 s).2.2=true):
  yJ p.2.2.1 (Ck p.2.2.1.length) (Gg p.2.2.1 s).1 (Gg p.2.2.1 s).2.1:=by
 have hb:=(yS hv hs hr).1.ok.sW
 refine vS 3001 0 [s] [0] (by omega) ⟨rfl,by simp,λi j jC hj=>?_,λ_ j hj=>?_,λj h0 hj=>?_,rfl⟩ (Nat.zero_le _) (λi hi=>absurd hi (Nat.not_lt_zero _)) hw hb
 ·have:j=0:=by simpa using hj
  subst this
  have:i=0:=by omega
  subst this
  exact Int.le_refl _
 ·have:j=0:=by simpa using hj
  subst this
  simp
 ·have:j=0:=by simpa using hj
  omega
theorem x5 {p:PP} (hV:Valid p) {x:List Int} (hx: ∀y∈x,0<=y/\y<p.1) {l:Int} (hl:l∈Ck p.2.2.1.length):
  -l∈Ck p.2.2.1.length/\Aa (Aa x (An p.2.2.1 l)) (An p.2.2.1 (-l))=x:=by
 obtain ⟨k,hk,Ls⟩:=Ts (Wv hl)
 have hg:=az (hV.perm _ (List.getElem_mem hk))
 have hgl:=hV.len _ (List.getElem_mem hk)
 have hn:=hV.n
 have hp:Pm p.1.toNat (p.2.2.1[k]):=⟨by omega,hg⟩
 have key: ∀q r:List Int,Pm p.1.toNat q->Pm p.1.toNat r->Aa q r=upto p.1.toNat->Aa (Aa x q) r=x:= λq r hq hr he=>by
  refine List.ext_getElem (by rw [Jp,Jp]) λi h1 h2=>?_
  have hxi:=hx _ (List.getElem_mem h2)
  obtain ⟨xi,TP⟩:=Int.eq_ofNat_of_zero_le hxi.1
  have PB:xi<p.1.toNat:=by omega
  have e1:ap (Aa q r) xi=ap (upto p.1.toNat) xi:=congrArg (λz=>ap z xi) he
  rw [Gx hq hr PB,ey PB] at e1
  simp only [Aa,List.getElem_map,TP]
  have h3:=(hq.Tj PB).1
  have h4:=(hr.Tj (hq.lt PB)).1
  rw [h3,h4,e1]
 rcases Ls with rfl|rfl
 ·refine ⟨(Wu hk).2,?_⟩
  rw [Qm hk,Ql hk]
  exact key _ _ hp hp.inv (gN hp)
 ·refine ⟨by rw [Int.neg_neg];exact (Wu hk).1,?_⟩
  rw [Int.neg_neg,Qm hk,Ql hk]
  exact key _ _ hp.inv hp (Yu hp)
structure Oo (g:List (List Int)) (ls:List Int) (L:List (List Int)) (S:List Int->Prop) (d:List Int->Int):Prop where
 nn: ∀x∈L,0<=d x
 zero: ∀x∈L,d x=0↔S x
 step: ∀x∈L,∀l∈ls,d (Aa x (An g l))<=d x+1
 down: ∀x∈L,0<d x-> ∃l∈ls,d (Aa x (An g l))=d x-1
structure mi (g:List (List Int)) (ls:List Int) (L:List (List Int)):Prop where
 next: ∀x∈L,∀l∈ls,Aa x (An g l)∈L
 back: ∀x∈L,∀l∈ls,-l∈ls/\Aa (Aa x (An g l)) (An g (-l))=x
theorem Oo.le {g:List (List Int)} {ls:List Int} {L:List (List Int)} {S:List Int->Prop} {d d':List Int->Int} (hc:mi g ls L) (h:Oo g ls L S d) (h':Oo g ls L S d'):
  ∀(n:Nat) (x:List Int),x∈L->d' x=n->d x<=n
 |0,x,hx,e=>by
  have:=(h.zero x hx).2 ((h'.zero x hx).1 e)
  omega
 |n+1,x,hx,e=>by
  obtain ⟨l,hl,hd⟩:=h'.down x hx (by omega)
  obtain ⟨b1,b2⟩:=hc.back x hx l hl
  have h1:=Oo.le hc h h' n _ (hc.next x hx l hl) (by omega)
  have h2:=h.step _ (hc.next x hx l hl) _ b1
  rw [b2] at h2
  omega
theorem Oo.eq {g:List (List Int)} {ls:List Int} {L:List (List Int)} {S:List Int->Prop} {d d':List Int->Int} (hc:mi g ls L) (h:Oo g ls L S d) (h':Oo g ls L S d') {x:List Int} (hx:x∈L):d x=d' x:=by
 have n1:=h.nn x hx
 have n2:=h'.nn x hx
 have h1:=Oo.le hc h h' (d' x).toNat x hx (by omega)
 have h2:=Oo.le hc h' h (d x).toNat x hx (by omega)
 omega
theorem Oo.MC {g:List (List Int)} {ls:List Int} {L:List (List Int)} {S:List Int->Prop} {d:List Int->Int} (hc:mi g ls L) (h:Oo g ls L S d) {x:List Int} (hx:x∈L) {l:Int} (hl:l∈ls):
  d x-1<=d (Aa x (An g l)):=by
 obtain ⟨b1,b2⟩:=hc.back x hx l hl
 have h2:=h.step _ (hc.next x hx l hl) _ b1
 rw [b2] at h2
 omega
theorem zr {L:List (List Int)} (hn:L.Nodup) {j:Nat} (hj:j<L.length):L.idxOf (L.getD j [])=j:=by
 rw [Tq hj]
 exact hn.idxOf_getElem j hj
theorem JU {L:List (List Int)} {j:Nat} (hj:j<L.length):L.getD j []∈L:=by rw [Tq hj];exact List.getElem_mem hj
theorem pQ {p:PP} (hV:Valid p) {m:Nat} {L:List (List Int)} {D:List Int} (hb:Sz p m L D) (h:yJ p.2.2.1 (Ck p.2.2.1.length) L D):mi p.2.2.1 (Ck p.2.2.1.length) L where
 next x hx l hl:=by
  obtain ⟨i,hi,rfl⟩:=List.mem_iff_getElem.1 hx
  obtain ⟨j,h1,h2,_⟩:=h.step i hi l hl
  rw [Tq hi] at h2
  rw [<-h2]
  exact JU h1
 back x hx l hl:=x5 hV (hb.row x hx) hl
end Go.Proofs.YtfolipnappekaaaGreat

namespace Go.Proofs.YtfolipnappekaaaGreat
open Go.RowKit
noncomputable abbrev Ui:Spec:=Co (.pair tL (.pair tL .unit)) tL false true (λx=>short x.2.1/\Hq (List.length x.1) x.2.1) (λx=>Bx x.1 x.2.1)
theorem IJ (xs is:List Int) (P:List Int->Prop):(((0:Int)<=(↑is.length:Int)/\(↑is.length:Int)<(↑Bj:Int)+(1:Int))/\(↑is.length:Int)=(↑is.length:Int)/\0=0/\(List.replicate (↑is.length:Int).toNat (Int.ofNat (nat_lit 0))).length=(List.replicate (↑is.length:Int).toNat (Int.ofNat (nat_lit 0))).length/\Bm (λ(v3:Int×List Int×PUnit) (k4:Int×List Int×PUnit->Prop)=>Br (decide (v3.1<(↑is.length:Int))) (∃(y5:Int),idx is v3.1=some y5/\ ∃(y6:Int),idx xs y5=some y6/\((0:Int)<=v3.1/\v3.1<(↑v3.2.1.length:Int))/\0+v3.1.toNat<v3.2.1.length/\0=0/\v3.2.1.length=(v3.2.1.set (0+v3.1.toNat) y6).length/\k4 (IntKind.i64.wrap (v3.1+(1:Int)),v3.2.1.set (0+v3.1.toNat) y6,())) (P (List.take v3.2.1.length (List.drop 0 v3.2.1)))) ((0:Int),List.replicate (↑is.length:Int).toNat (Int.ofNat (nat_lit 0)),PUnit.unit))=fnW Cg (look []) Ui Tryz.f80 (xs,is,()) P:=by kernel_rfl
theorem FP {p:List Int} (h:Uq p):Ej p=true:=by
 refine Di.2 ⟨h.pos,h.len,λj h1 h2=>?_⟩
 have:=h.row _ (List.getElem_mem h2)
 exact ⟨by omega,by omega,λhm=>by
  obtain ⟨i,hi,e⟩:=List.mem_iff_getElem.1 hm
  have kN:i<j:=by rw [List.length_take] at hi;omega
  rw [List.getElem_take] at e
  exact (List.pairwise_iff_getElem.1 h.nodup i j (by omega) h2 kN) e⟩
theorem hZ {p:PP} (hV:Valid p):vE p.1.toNat λg=>some g∈p.2.2.1.map some:=
 ⟨by have:=hV.n;omega,λg Mf=>by obtain ⟨g',e,h⟩:=Zb (Ye hV).2.2 _ Mf;cases e;exact h⟩
theorem XY {p:PP} (hV:Valid p) {x:List Int} (h:Pm p.1.toNat x):Cw p.1 x=true:=by
 have:=hV.n
 have:=h.1
 exact Di.2 ⟨by omega,FP h.2⟩
theorem UU {p:PP} (_hV:Valid p) {x:List Int} (h:Cw p.1 x=true):Pm p.1.toNat x:=by
 obtain ⟨h1,h2⟩:=Di.1 h
 exact ⟨by omega,az h2⟩
theorem GL (xs is:List Int) (h:short is/\Hq xs.length is):fnW Cg (look []) Ui Tryz.f80 (xs,is,()) (λ(z:List Int)=>z=Bx xs is):=by
 obtain ⟨h,hr⟩:=h
 unfold short at h
 have Ly:(Bx xs is).length=is.length:=nZ xs is
 refine Eq.mp (IJ xs is _) ⟨⟨by omega,by show (is.length:Int)<(4294967296:Int)+1;omega⟩,rfl,rfl,rfl,?_⟩
 refine Ai is.length (λv=>v.1) (λj v=>v.2.1.length=(Bx xs is).length/\v.2.1.take j=(Bx xs is).take j) rfl ⟨by rw [Ly];simp,by simp⟩ ?_
 rintro j ⟨i,ys,⟨⟩⟩ K hj hi ⟨h1,h2⟩ hK
 dsimp only at hi h1 h2⊢
 subst hi
 refine Br.dec (λhl=>?_) λhl=>?_
 ·have hl:j<is.length:=by omega
  have hx:=hr _ (List.getElem_mem hl)
  obtain ⟨xn,TP⟩:=Int.eq_ofNat_of_zero_le hx.1
  have Gm:j<(Bx xs is).length:=by rw [Ly];exact hl
  have e:xs[xn]'(by omega)=(Bx xs is)[j]:=by
   simp only [Bx,List.getElem_map,Ii,TP,Int.toNat_natCast]
   rw [Tq]
  refine ⟨_,Ap hl,xs[xn]'(by omega),by rw [TP];exact Ap (by omega),⟨by omega,by omega⟩,by rw [Int.toNat_natCast,Nat.zero_add];omega,rfl,by rw [List.length_set],?_⟩
  rw [Ag (by omega),Int.toNat_natCast,Nat.zero_add,e]
  refine hK hl _ rfl ⟨by rw [List.length_set];exact h1,?_⟩
  rw [List.take_add_one,List.take_set_of_le (by omega),h2,List.getElem?_set_self (by omega),List.take_add_one,List.getElem?_eq_getElem Gm]
 ·have:j=is.length:=by omega
  subst this
  rw [Bi,<-List.take_length (l:=ys),h1,Ly,h2,<-Ly,List.take_length]
theorem qw:Sound Tryz.prog 80 Ui:=
 Sound.Co Bg Al mixed Tryz.func80 (by kernel_rfl) (by kernel_rfl) λx h=>GL x.1 x.2.1 h
end Go.Proofs.YtfolipnappekaaaGreat

namespace Go.Proofs.YtfolipnappekaaaGreat
open Go.RowKit
theorem map_take {α β:Type} (f:α->β) {xs:List α} {j:Nat} (h:j<xs.length):(xs.take (j+1)).map f=(xs.take j).map f++ [f xs[j]]:=by
 rw [List.take_add_one,List.getElem?_eq_getElem h,List.map_append];rfl
end Go.Proofs.YtfolipnappekaaaGreat

namespace Go.Proofs.YtfolipnappekaaaGreat
open Go.RowKit
theorem rF {α:Type} {P:α->Bool} : ∀(l:List α) (i:Nat),l.any P=true-> ∃k,∃h:k<l.length,Dt P l (i:Int)=((i+k:Nat):Int)/\P l[k]=true/\ ∀j (h:j<k),P (l[j]'(by omega))=false
 | [],i,h=>by simp at h
 |y::r,i,h=>by
  simp only [Dt]
  by_cases hy:P y=true
  ·rw [if_pos hy]
   exact ⟨0,by simp,rfl,hy,λj hj=>absurd hj (Nat.not_lt_zero _)⟩
  ·rw [if_neg hy]
   have hr:r.any P=true:=by
    rw [List.any_cons,Bool.or_eq_true] at h
    exact h.resolve_left hy
   obtain ⟨k,hk,h1,h2,h3⟩:=rF r (i+1) hr
   refine ⟨k+1,by simpa using hk,?_,h2,λj hj=>?_⟩
   ·rw [show ((i:Int)+1)=((i+1:Nat):Int) by push_cast;rfl,h1]
    congr 1
    omega
   ·cases j with
    |zero=>exact Bool.not_eq_true _|>.mp hy
    |succ j=>exact h3 j (by omega)
end Go.Proofs.YtfolipnappekaaaGreat

namespace Go.Proofs.YtfolipnappekaaaGreat
open Go.RowKit
theorem cK {s q t:List Int} (h:Hq s.length t):Bx (Aa s q) t=Aa (Bx s t) q:=by
 unfold Bx Aa
 rw [List.map_map]
 refine List.map_congr_left λy hy=>?_
 obtain ⟨h1,h2⟩:=h y hy
 have hy':y.toNat<s.length:=by omega
 show Ii (s.map (Ii q)) y=Ii q (Ii s y)
 unfold Ii
 rw [Tq (by rw [List.length_map];exact hy'),List.getElem_map,Tq hy']
 try rfl
theorem GR {n:Nat} {t:List Int} (h: ∀y∈t,0<=y/\y<(n:Int)):Bx (upto n) t=t:=by
 unfold Bx
 refine (List.map_congr_left λy hy=>?_).trans (List.map_id t)
 obtain ⟨h1,h2⟩:=h y hy
 obtain ⟨k,rfl⟩:=Int.eq_ofNat_of_zero_le h1
 have hk:k<n:=by omega
 show Ii (upto n) (k:Int)=(k:Int)
 unfold Ii
 rw [Int.toNat_natCast,List.getD_eq_getElem?_getD,pa hk]
 rfl
noncomputable def fV (p:PP) (t:List Int):List (List Int):=(Gg p.2.2.1 t).1
noncomputable def LW (p:PP) (t:List Int):List Int:=(Gg p.2.2.1 t).2.1
theorem yf {p:PP} {t:List Int} (ht:Ct p t=true): ∀y∈t,0<=y/\y<((p.1.toNat:Nat):Int):= λy hy=>by
 have h1:=(Eu ht).2 y hy
 have:=(valid (Lq.1 ht).1).n
 omega
theorem Oo.congr {g:List (List Int)} {ls:List Int} {L:List (List Int)} {S S':List Int->Prop} {d:List Int->Int} (h:Oo g ls L S d) (e: ∀x∈L,S x↔S' x):Oo g ls L S' d:=
 ⟨h.nn,λx hx=>(h.zero x hx).trans (e x hx),h.step,h.down⟩
theorem GQ {p:PP} {t:List Int} (ht:Ct p t=true):(fV p t).getD 0 []=t/\t∈fV p t:=by
 obtain ⟨_,A,h⟩:=yS (Lq.1 ht).1 (Eu ht).1 (Eu ht).2
 have h:fV p t=t::A:=h
 rw [h]
 exact ⟨rfl,by simp⟩
end Go.Proofs.YtfolipnappekaaaGreat

namespace Go.Proofs.YtfolipnappekaaaGreat
open Go.RowKit
def known (row:Row):List (List Int):=row.filterMap id
mutual
def ee (n:Nat):Nat->Nat->List Int->Av×Av->Av×Av
 |0,_,_,s=>s
 |f+1,k,p,s=>if Dx s.2 (n-k) k p=true then s else
   ((known (s.2.getD k [])).map λu=>Aa u p).foldl (λs q=>ba n f k q s) (s.1.set k (s.1.getD k []++ [some p]),s.2)
def ba (n:Nat):Nat->Nat->List Int->Av×Av->Av×Av
 |0,_,_,s=>s
 |f+1,k,p,s=>match (s.2.getD k []).getD (ap p k) none with
  |some t=>ee n f (k+1) (Aa p (Af t)) s
  |none=>((s.1.getD k []).map λo=>Aa p (o.getD [])).foldl (λs q=>ba n f k q s) (s.1,s.2.set k ((s.2.getD k []).set (ap p k) (some p)))
end
structure Part (n k:Nat) (s:Av×Av):Prop where
 l1:s.1.length=n
 l2:s.2.length=n
 pg:PG n k (s.1.getD k [])
 row:Nt n k (s.1.getD k []) (s.2.getD k [])
 comp:ec n (n-(k+1)) (k+1) s
 gb:YY (n-(k+1)) (k+1) s
 sub: ∀g,some g∈s.1.getD (k+1) []->Gn n (s.1.getD k []) g
def Hd (n k:Nat) (s:Av×Av) (q:List Int):Prop:= ∃t,(s.2.getD k []).getD (ap q k) none=some t/\Dx s.2 (n-(k+1)) (k+1) (Aa q (Af t))=true
structure We (n k:Nat) (s s':Av×Av):Prop where
 grow:Oq k s s'
 same:s'.1.getD k []=s.1.getD k []
 part:Part n k s'
 Cj: ∀q,Pm n q->Fx k q->Hd n k s q->Hd n k s' q
 new: ∀y t,(s'.2.getD k []).getD y none=some t->(s.2.getD k []).getD y none=some t\/ ∀g,some g∈s.1.getD k []->Hd n k s' (Aa t g)
theorem We.refl {n k:Nat} {s:Av×Av} (h:Part n k s):We n k s s:=⟨Oq.refl _ _,rfl,h,λ_ _ _ h=>h,λ_ _ h=> .inl h⟩
theorem Part.tg {n k:Nat} {s:Av×Av} (h:Part n k s) (hk:k<n) {y:Nat} {t g:List Int} (ht:(s.2.getD k []).getD y none=some t) (hg:some g∈s.1.getD k []):Pm n (Aa t g)/\Fx k (Aa t g)/\ap (Aa t g) k=ap g y:=by
 obtain ⟨t1,t2,t3,t4⟩:=h.row.rt _ _ ht
 obtain ⟨g',e,g1,g2⟩:=h.pg _ hg
 cases e
 exact ⟨t1.comp g1,Fx.comp t1 g1 t2 g2 (by omega),by rw [Gx t1 g1 hk,t3]⟩
theorem We.trans {n k:Nat} {a b c:Av×Av} (hk:k<n) (h:We n k a b) (h':We n k b c):We n k a c:=by
 refine ⟨h.grow.trans h'.grow (Nat.le_refl _),h'.same.trans h.same,h'.part,λq h1 h2 h3=>h'.Cj q h1 h2 (h.Cj q h1 h2 h3),λy t e=>?_⟩
 rcases h'.new y t e with e1|e1
 ·rcases h.new y t e1 with e2|e2
  ·exact .inl e2
  ·refine .inr λg hg=>?_
   obtain ⟨p1,p2,_⟩:=h.part.tg hk e1 (by rw [h.same];exact hg)
   exact h'.Cj _ p1 p2 (e2 g hg)
 ·exact .inr λg hg=>e1 g (by rw [h.same];exact hg)
theorem Part.pms {n k:Nat} {s:Av×Av} (h1:1<=n) (h2:n<=20) (h:Part n k s):vE n λg=>some g∈s.1.getD k []:=⟨⟨h1,h2⟩,λg hg=>by obtain ⟨g',e,h,_⟩:=h.pg _ hg;cases e;exact h⟩
theorem Part.v {n k:Nat} {s:Av×Av} (h:Part n k s):V n (n-(k+1)) (k+1) s:=⟨h.l1,h.l2,h.comp,h.gb⟩
theorem r8 (row:Row):pA row+Hb row=row.length:=by
 induction row with
 |nil=>rfl
 |cons o r ih=>
  unfold pA Hb at*
  cases o<;>simp [List.countP_cons]<;>omega
theorem zO {a b:Row} (hl:b.length=a.length) (h: ∀y t,a.getD y none=some t->b.getD y none=some t):Hb b<=Hb a:=by
 have h1:=(jn a b hl.symm h).1
 have h2:=r8 a
 have h3:=r8 b
 omega
def DY (n k:Nat):Nat:=(n-k)*(n+2)+(n+1)
def gE (n k:Nat) (s:Av×Av):Nat:=(n-k)*(n+2)+Hb (s.2.getD k [])
theorem We.mu {n k:Nat} {s s':Av×Av} (h:We n k s s'):gE n k s'<=gE n k s:=by
 have:=zO (h.grow.MW k) (h.grow.p8 k)
 unfold gE;omega
theorem dC {n k f:Nat} (hk:k<n) {gs:List PO}
  (IH: ∀q s,Part n k s->s.1.getD k []=gs->Pm n q->Fx k q->Gn n gs q->gE n k s<=f->(We n k s (ba n f k q s)/\Hd n k (ba n f k q s) q)/\ ∀f',f<=f'->ba n f' k q s=ba n f k q s):
  ∀(qs:List (List Int)) (s:Av×Av),Part n k s->s.1.getD k []=gs->(∀q∈qs,Pm n q/\Fx k q/\Gn n gs q)->gE n k s<=f->
   We n k s (qs.foldl (λs q=>ba n f k q s) s)/\(∀q∈qs,Hd n k (qs.foldl (λs q=>ba n f k q s) s) q)/\ ∀f',f<=f'->qs.foldl (λs q=>ba n f' k q s) s=qs.foldl (λs q=>ba n f k q s) s
 | [],s,hp,_,_,_=>⟨We.refl hp,λq hq=>(by cases hq),λ_ _=>rfl⟩
 |q::qs,s,hp,hg,hq,hm=>by
  obtain ⟨q1,q2,q3⟩:=hq q (by simp)
  obtain ⟨⟨a1,a2⟩,a3⟩:=IH q s hp hg q1 q2 q3 hm
  obtain ⟨b1,b2,b3⟩:=dC hk IH qs (ba n f k q s) a1.part (a1.same.trans hg) (λq' h=>hq q' (List.mem_cons_of_mem _ h)) (Nat.le_trans a1.mu hm)
  simp only [List.foldl_cons]
  refine ⟨a1.trans hk b1,λq' fO=>?_,λf' hf=>?_⟩
  ·rcases List.mem_cons.1 fO with rfl|fO
   ·exact b1.Cj _ q1 q2 a2
   ·exact b2 q' fO
  ·rw [a3 f' hf];exact b3 f' hf
theorem wz {n k:Nat} (h1:1<=n) (h2:n<=20) (hk:k<n) {s s':Av×Av} (hs:ec n (n-(k+1)) (k+1) s) (wJ:ec n (n-(k+1)) (k+1) s') (hg:Oq k s s') {x:List Int} (hx:Pm n x) (hf:Fx (k+1) x)
  (h:Dx s.2 (n-(k+1)) (k+1) x=true):Dx s'.2 (n-(k+1)) (k+1) x=true:=
 (Nb h1 h2 _ (k+1) s' (by omega) wJ x hx hf).2 (((Nb h1 h2 _ (k+1) s (by omega) hs x hx hf).1 h).mono λg vo=>hg.ri _ _ vo)
theorem dP {row:Row} {u:List Int} :u∈known row↔ ∃y,row.getD y none=some u:=by
 unfold known
 rw [List.mem_filterMap]
 constructor
 ·rintro ⟨o,ho,e⟩
  obtain ⟨y,hy,rfl⟩:=List.mem_iff_getElem.1 ho
  exact ⟨y,by rw [List.getD_eq_getElem?_getD,List.getElem?_eq_getElem hy];exact e⟩
 ·rintro ⟨y,hy⟩
  have hl:=ia hy
  rw [List.getD_eq_getElem?_getD,List.getElem?_eq_getElem hl] at hy
  exact ⟨row[y],List.getElem_mem hl,hy⟩
theorem CS {n:Nat} (h1:1<=n) (h2:n<=20): ∀f:Nat,
  (∀k p s,k<=n->V n (n-k) k s->Pm n p->Fx k p->DY n k<=f->IY n (n-k) k s p (ee n f k p s)/\ ∀f',f<=f'->ee n f' k p s=ee n f k p s)/\
  (∀k q s,k<n->Part n k s->Pm n q->Fx k q->Gn n (s.1.getD k []) q->gE n k s<=f->(We n k s (ba n f k q s)/\Hd n k (ba n f k q s) q)/\ ∀f',f<=f'->ba n f' k q s=ba n f k q s)
 |0=>⟨λk p s _ _ _ _ h=>by unfold DY at h;omega,λk q s hk _ _ _ _ h=>by
   unfold gE at h
   have:1*(n+2)<=(n-k)*(n+2):=Nat.mul_le_mul_right _ (by omega)
   omega⟩
 |f+1=>by
  obtain ⟨ihG,ihP⟩:=CS h1 h2 f
  refine ⟨λk p s hk hv hp hf OZ=>?_,λk q s hk Wb hq hf yF OZ=>?_⟩
  ·
   have wN: ∀f',f+1<=f'-> ∃yC,f'=yC+1/\f<=yC:= λf' h=>⟨f'-1,by omega,by omega⟩
   by_cases hh:Dx s.2 (n-k) k p=true
   ·have e: ∀f',ee n (f'+1) k p s=s:= λf'=>by simp only [ee];rw [if_pos hh]
    rw [e f]
    refine ⟨⟨hv,Oq.refl _ _,(Nb h1 h2 _ k s (by omega) hv.2.2.1 p hp hf).1 hh,λo ho=> .inl ho⟩,λf' yE=>?_⟩
    obtain ⟨yC,rfl,_⟩:=wN f' yE
    exact e yC
   have KL:k<n:=by
    refine Nat.lt_of_le_of_ne hk λe=>hh ?_
    subst e
    rw [Nat.sub_self];rfl
   obtain ⟨v1,v2,hc,rv⟩:=hv
   have eI:=hc
   have Ak8:=rv
   obtain ⟨m,hm⟩: ∃m,n-k=m+1:=⟨n-k-1,by omega⟩
   have wG:n-(k+1)=m:=by omega
   rw [hm] at hc rv
   obtain ⟨c1,c2,c3⟩:=hc
   generalize ig:s.1.getD k []++ [some p]=gs
   have Sr:some p∈gs:=by rw [<-ig];simp
   have Ka: ∀o∈s.1.getD k [],o∈gs:= λo ho=>by rw [<-ig];exact List.mem_append_left _ ho
   have hg:PG n k gs:= λo ho=>by
    rw [<-ig] at ho
    rcases List.mem_append.1 ho with ho|ho
    ·exact c2.pg o ho
    ·rw [List.mem_singleton] at ho;exact ⟨p,ho,hp,hf⟩
   have hS:vE n λg=>some g∈gs:=⟨⟨h1,h2⟩,λg Mf=>by obtain ⟨g',e,h,_⟩:=hg _ Mf;cases e;exact h⟩
   have og: ∀i,(s.1.set k gs).getD i []=if i=k then gs else s.1.getD i []:= λi=>by
    rw [Gl]
    by_cases e:k=i
    ·subst e;rw [if_pos ⟨rfl,by omega⟩,if_pos rfl]
    ·rw [if_neg (λhh=>e hh.1),if_neg (Ne.symm e)]
   have rD: ∀i,k+1<=i->(s.1.set k gs).getD i []=s.1.getD i []/\s.2.getD i []=s.2.getD i []:= λi hi=>⟨by rw [og i,if_neg (by omega)],rfl⟩
   have wH:Part n k (s.1.set k gs,s.2):=by
    refine ⟨by simpa using v1,v2,?_,?_,?_,?_,λg Mf=>?_⟩
    ·show PG n k ((s.1.set k gs).getD k []);rw [og k,if_pos rfl];exact hg
    ·show Nt n k ((s.1.set k gs).getD k []) _
     rw [og k,if_pos rfl]
     exact ⟨c2.rl,c2.r0,λy t e=>⟨(c2.rt y t e).1,(c2.rt y t e).2.1,(c2.rt y t e).2.2.1,(c2.rt y t e).2.2.2.mono λg hg=>Ka _ hg⟩⟩
    ·rw [wG];exact Nk m (k+1) rD c1
    ·rw [wG];exact Vb m (k+1) rD rv.1
    ·have Mf:some g∈(s.1.set k gs).getD (k+1) []:=Mf
     rw [(rD (k+1) (Nat.le_refl _)).1] at Mf
     show Gn n ((s.1.set k gs).getD k []) g
     rw [og k,if_pos rfl]
     exact (c3 g Mf).mono λg hg=>Ka _ hg
   have dI:((s.1.set k gs,s.2):Av×Av).1.getD k []=gs:=by show (s.1.set k gs).getD k []=gs;rw [og k,if_pos rfl]
   have fN:Oq k s (s.1.set k gs,s.2):=by
    refine ⟨by simp,rfl,λi hi=>⟨?_,rfl⟩,λi o ho=>?_,λi y t e=>e,λi=>rfl⟩
    ·show (s.1.set k gs).getD i []=_;rw [og i,if_neg (by omega)]
    ·show o∈(s.1.set k gs).getD i []
     rw [og i]
     split
     ·rename_i hi;subst hi;exact Ka o ho
     ·exact ho
   have hmP:gE n k (s.1.set k gs,s.2)<=f:=by
    have hn:=cI (s.2.getD k [])
    have hr:=c2.rl
    unfold gE
    unfold DY at OZ
    show (n-k)*(n+2)+Hb (s.2.getD k [])<=f
    omega
   have FK: ∀q∈(known (s.2.getD k [])).map (λu=>Aa u p),Pm n q/\Fx k q/\Gn n gs q:= λq hq=>by
    obtain ⟨u,hu,rfl⟩:=List.mem_map.1 hq
    obtain ⟨y,hy⟩:=dP.1 hu
    obtain ⟨t1,t2,t3,t4⟩:=c2.rt _ _ hy
    exact ⟨t1.comp hp,Fx.comp t1 hp t2 hf hk, .mul (t4.mono λg hg=>Ka _ hg) Sr⟩
   obtain ⟨r1,r2,r3⟩:=dC KL (gs:=gs) (λq s ij Mf a b c d=>ihP k q s KL ij a b (by rw [Mf];exact c) d) ((known (s.2.getD k [])).map λu=>Aa u p) (s.1.set k gs,s.2) wH dI FK hmP
   have e: ∀f',ee n (f'+1) k p s=((known (s.2.getD k [])).map λu=>Aa u p).foldl (λs q=>ba n f' k q s) (s.1.set k gs,s.2):= λf'=>by simp only [ee];rw [if_neg hh,ig]
   refine ⟨?_,λf' yE=>by obtain ⟨yC,rfl,KE⟩:=wN f' yE;rw [e yC,e f];exact r3 yC KE⟩
   rw [e f]
   generalize ((known (s.2.getD k [])).map λu=>Aa u p).foldl (λs q=>ba n f k q s) (s.1.set k gs,s.2)=s' at r1 r2
   have ij:=r1.part
   have zi:s'.1.getD k []=gs:=r1.same.trans dI
   have hHd: ∀y t g,(s'.2.getD k []).getD y none=some t->some g∈gs->Hd n k s' (Aa t g):= λy t g ht vo=>by
    rcases r1.new y t ht with e1|e1
    ·have e1:(s.2.getD k []).getD y none=some t:=e1
     by_cases Mu:g=p
     ·subst Mu
      exact r2 _ (List.mem_map.2 ⟨t,dP.2 ⟨y,e1⟩,rfl⟩)
     ·have hg0:some g∈s.1.getD k []:=by
       rw [<-ig] at vo
       rcases List.mem_append.1 vo with h|h
       ·exact h
       ·rw [List.mem_singleton] at h;cases h;exact absurd rfl Mu
      obtain ⟨x1,x2,x3⟩:=wH.tg KL e1 (by rw [dI];exact vo)
      refine r1.Cj _ x1 x2 ?_
      obtain ⟨t',rC⟩:=Option.ne_none_iff_exists'.1 (c2.cl y t g e1 hg0)
      refine ⟨t',by show (s.2.getD k []).getD _ none=_;rw [x3];exact rC,?_⟩
      show Dx s.2 (n-(k+1)) (k+1) _=true
      rw [wG]
      exact c2.sg y t g t' e1 hg0 rC
    ·exact e1 g (by rw [dI];exact vo)
   have VV:PE n k gs (s'.2.getD k []) (λq=>Dx s'.2 m (k+1) q=true):=by
    have hr:=ij.row
    rw [zi] at hr
    refine ⟨hg,hr.rl,hr.r0,hr.rt,λy t g ht vo=>?_,λy t g t' ht vo rC=>?_⟩
    ·obtain ⟨t',rC,_⟩:=hHd y t g ht vo
     obtain ⟨_,_,x3⟩:=ij.tg KL ht (by rw [zi];exact vo)
     rw [<-x3,rC];simp
    ·obtain ⟨t'',Abf,hx⟩:=hHd y t g ht vo
     obtain ⟨_,_,x3⟩:=ij.tg KL ht (by rw [zi];exact vo)
     rw [x3,rC] at Abf
     cases Abf
     rw [<-wG];exact hx
   have wB:ec n (m+1) k s':=⟨by rw [<-wG];exact ij.comp,by rw [zi];exact VV,λg vo=>ij.sub g vo⟩
   have cv:Gn n (s'.1.getD k []) p:=by rw [zi];exact Wa.one hS Sr
   have nh:=fN.trans r1.grow (Nat.le_refl _)
   rw [hm]
   refine ⟨⟨ij.l1,ij.l2,wB,by rw [<-wG];exact ij.gb,?_⟩,nh,cv,λo ho=>?_⟩
   ·have hold:=rv.2
    obtain ⟨p1,p2⟩:=o1 nh.MW nh.p8 (m+1) k
    have Ey:cL s.2 (m+1) k≠cL s'.2 (m+1) k:= λe=>by
     have:=Wo (m+1) k p (p2 e)
     rw [(Nb h1 h2 (m+1) k s' (by omega) wB p hp hf).2 cv] at this
     rw [hm] at hh
     exact hh this.symm
    rw [zi,<-ig,List.length_append,List.length_singleton]
    omega
   ·rw [zi,<-ig] at ho
    rcases List.mem_append.1 ho with ho|ho
    ·exact .inl ho
    ·rw [List.mem_singleton] at ho;exact .inr ho
  ·
   have wN: ∀f',f+1<=f'-> ∃yC,f'=yC+1/\f<=yC:= λf' h=>⟨f'-1,by omega,by omega⟩
   have hS:=Wb.pms h1 h2
   have hmul:(n-k)*(n+2)=(n-(k+1))*(n+2)+(n+2):=by
    rw [show n-k=n-(k+1)+1 by omega,Nat.add_mul,Nat.one_mul]
   cases Gf:(s.2.getD k []).getD (ap q k) none with
   |some t=>
    have e: ∀f',ba n (f'+1) k q s=ee n f' (k+1) (Aa q (Af t)) s:= λf'=>by simp only [ba];rw [Gf]
    obtain ⟨t1,t2,t3,t4⟩:=Wb.row.rt _ _ Gf
    have hx:=hq.comp t1.inv
    have hfx:=Fx.div hq t1 hf t2 hk t3
    have hxg:Gn n (s.1.getD k []) (Aa q (Af t)):=Wa.comp hS yF (Wa.im hS t4)
    obtain ⟨a1,a2⟩:=ihG (k+1) _ s (by omega) Wb.v hx hfx (by unfold DY;unfold gE at OZ;omega)
    refine ⟨?_,λf' yE=>by obtain ⟨yC,rfl,KE⟩:=wN f' yE;rw [e yC,e f];exact a2 yC KE⟩
    rw [e f]
    generalize ee n f (k+1) (Aa q (Af t)) s=s' at a1
    obtain ⟨av,ag,ai,ags⟩:=a1
    obtain ⟨w1,w2,w3,w4⟩:=av
    obtain ⟨lo1,lo2⟩:=ag.low k (by omega)
    have Age:Part n k s':=⟨w1,w2,by rw [lo1];exact Wb.pg,by rw [lo1,lo2];exact Wb.row,w3,w4,λg vo=>by
     rw [lo1]
     rcases ags _ vo with h|h
     ·exact Wb.sub g h
     ·cases h;exact hxg⟩
    refine ⟨⟨ag.El (by omega),lo1,Age,λq' q1 q2 ⟨t',e1,e2⟩=>?_,λy t e=> .inl (by rw [lo2] at e;exact e)⟩,t,by rw [lo2];exact Gf,?_⟩
    ·obtain ⟨u1,u2,u3,_⟩:=Wb.row.rt _ _ e1
     exact ⟨t',by rw [lo2];exact e1,wz h1 h2 hk Wb.comp w3 (ag.El (by omega)) (q1.comp u1.inv) (Fx.div q1 u1 q2 u2 hk u3) e2⟩
    ·exact (Nb h1 h2 _ (k+1) s' (by omega) w3 _ hx hfx).2 ai
   |none=>
    have e: ∀f',ba n (f'+1) k q s=((s.1.getD k []).map λo=>Aa q (o.getD [])).foldl (λs q=>ba n f' k q s) (s.1,s.2.set k ((s.2.getD k []).set (ap q k) (some q))):= λf'=>by simp only [ba];rw [Gf]
    have hy:ap q k<n:=hq.lt hk
    have TN:=Wb.row.rl
    have hyk:ap q k≠k:= λh=>by rw [h,Wb.row.r0] at Gf;cases Gf
    have po:=Wb.l2
    generalize kO:(s.2.getD k []).set (ap q k) (some q)=Pr
    have Zp: ∀y,Pr.getD y none=if ap q k=y then some q else (s.2.getD k []).getD y none:= λy=>by
     rw [<-kO,Gl]
     by_cases h:ap q k=y
     ·rw [if_pos ⟨h,by omega⟩,if_pos h]
     ·rw [if_neg λhh=>h hh.1,if_neg h]
    have UA: ∀i,(s.2.set k Pr).getD i []=if i=k then Pr else s.2.getD i []:= λi=>by
     rw [Gl]
     by_cases e:k=i
     ·subst e;rw [if_pos ⟨rfl,by omega⟩,if_pos rfl]
     ·rw [if_neg (λhh=>e hh.1),if_neg (Ne.symm e)]
    have rD: ∀i,k+1<=i->s.1.getD i []=s.1.getD i []/\(s.2.set k Pr).getD i []=s.2.getD i []:= λi hi=>⟨rfl,by rw [UA i,if_neg (by omega)]⟩
    have KI:((s.1,s.2.set k Pr):Av×Av).2.getD k []=Pr:=by show (s.2.set k Pr).getD k []=Pr;rw [UA k,if_pos rfl]
    have wH:Part n k (s.1,s.2.set k Pr):=by
     refine ⟨Wb.l1,by simpa using po,Wb.pg,?_,Nk _ (k+1) rD Wb.comp,Vb _ (k+1) rD Wb.gb,Wb.sub⟩
     rw [KI]
     refine ⟨by rw [<-kO,List.length_set];exact TN,by rw [Zp k,if_neg hyk];exact Wb.row.r0,λy t e=>?_⟩
     rw [Zp y] at e
     split at e
     ·rename_i h
      cases e
      exact ⟨hq,hf,h,yF⟩
     ·exact Wb.row.rt y t e
    have fN:Oq k s (s.1,s.2.set k Pr):=by
     refine ⟨rfl,by simp,λi hi=>⟨rfl,?_⟩,λi o ho=>ho,λi y t et=>?_,λi=>?_⟩
     ·show (s.2.set k Pr).getD i []=_;rw [UA i,if_neg (by omega)]
     ·show ((s.2.set k Pr).getD i []).getD y none=some t
      rw [UA i]
      split
      ·rename_i hi
       subst hi
       rw [Zp y]
       split
       ·rename_i h;rw [<-h,Gf] at et;cases et
       ·exact et
      ·exact et
     ·show ((s.2.set k Pr).getD i []).length=_
      rw [UA i]
      split
      ·rename_i hi;subst hi;rw [<-kO,List.length_set]
      ·rfl
    have hnn:Hb Pr+1=Hb (s.2.getD k []):=by rw [<-kO];exact jM Gf (by omega)
    have hmP:gE n k (s.1,s.2.set k Pr)<=f:=by
     unfold gE
     rw [KI]
     unfold gE at OZ
     omega
    have FK: ∀x∈(s.1.getD k []).map (λo=>Aa q (o.getD [])),Pm n x/\Fx k x/\Gn n (s.1.getD k []) x:= λx hx=>by
     obtain ⟨o,ho,rfl⟩:=List.mem_map.1 hx
     obtain ⟨g,rfl,g1,g2⟩:=Wb.pg o ho
     exact ⟨hq.comp g1,Fx.comp hq g1 hf g2 (by omega), .mul yF ho⟩
    obtain ⟨r1,r2,r3⟩:=dC hk (gs:=s.1.getD k []) (λq s ij Mf a b c d=>ihP k q s hk ij a b (by rw [Mf];exact c) d) ((s.1.getD k []).map λo=>Aa q (o.getD [])) (s.1,s.2.set k Pr) wH rfl FK hmP
    have e': ∀f',ba n (f'+1) k q s=((s.1.getD k []).map λo=>Aa q (o.getD [])).foldl (λs q=>ba n f' k q s) (s.1,s.2.set k Pr):= λf'=>by rw [e f',kO]
    refine ⟨?_,λf' yE=>by obtain ⟨yC,rfl,KE⟩:=wN f' yE;rw [e' yC,e' f];exact r3 yC KE⟩
    rw [e' f]
    generalize ((s.1.getD k []).map λo=>Aa q (o.getD [])).foldl (λs q=>ba n f k q s) (s.1,s.2.set k Pr)=s' at r1 r2
    have wL:s'.1.getD k []=s.1.getD k []:=r1.same
    have VQ: ∀x,Pm n x->Fx k x->Hd n k s x->Hd n k (s.1,s.2.set k Pr) x:= λx x1 x2 ⟨t',e1,e2⟩=>by
     obtain ⟨u1,u2,u3,_⟩:=Wb.row.rt _ _ e1
     exact ⟨t',fN.p8 k _ _ e1,wz h1 h2 hk Wb.comp wH.comp fN (x1.comp u1.inv) (Fx.div x1 u1 x2 u2 hk u3) e2⟩
    have hqq:(s'.2.getD k []).getD (ap q k) none=some q:=r1.grow.p8 k _ _ (by rw [KI,Zp,if_pos rfl])
    refine ⟨⟨fN.trans r1.grow (Nat.le_refl _),wL,r1.part,λx x1 x2 x3=>r1.Cj x x1 x2 (VQ x x1 x2 x3),λy t ht=>?_⟩,q,hqq,?_⟩
    ·rcases r1.new y t ht with e1|e1
     ·rw [KI,Zp y] at e1
      split at e1
      ·cases e1
       refine .inr λg hg=>r2 _ (List.mem_map.2 ⟨some g,hg,rfl⟩)
      ·exact .inl e1
     ·exact .inr e1
    ·rw [gN hq]
     exact (Nb h1 h2 _ (k+1) s' (by omega) r1.part.comp _ (Pm.id h1 h2) (λi hi=>ey (by omega))).2 .id
end Go.Proofs.YtfolipnappekaaaGreat

namespace Go.Proofs.YtfolipnappekaaaGreat
open Go.RowKit
theorem CQ {n f k:Nat} {p:List Int} {s:Av×Av} :ee n (f+1) k p s=if Dx s.2 (n-k) k p=true then s else
  ((known (s.2.getD k [])).map λu=>Aa u p).foldl (λs q=>ba n f k q s) (s.1.set k (s.1.getD k []++ [some p]),s.2):=by simp only [ee]
theorem CR {n f k:Nat} {p:List Int} {s:Av×Av} :ba n (f+1) k p s=match (s.2.getD k []).getD (ap p k) none with
  |some t=>ee n f (k+1) (Aa p (Af t)) s
  |none=>((s.1.getD k []).map λo=>Aa p (o.getD [])).foldl (λs q=>ba n f k q s) (s.1,s.2.set k ((s.2.getD k []).set (ap p k) (some p))):=by simp only [ba]<;>rfl
theorem TV {n k:Nat} (h2:n<=20):(n-k)*(n+2)<=440:=Nat.le_trans (Nat.mul_le_mul (show n-k<=20 by omega) (show n+2<=22 by omega)) (by omega)
theorem MA {n k f:Nat} (h2:n<=20) (hf:500<=f):DY n k<=f:=by have:=TV (k:=k) h2;unfold DY;omega
theorem XD {n k f:Nat} {s:Av×Av} (h2:n<=20) (hp:Part n k s) (hf:500<=f):gE n k s<=f:=by
 have:=TV (k:=k) h2
 have h:=cI (s.2.getD k [])
 have hr:=hp.row.rl
 unfold gE;omega
theorem UK {n k:Nat} (h1:1<=n) (h2:n<=20) {p:List Int} {s:Av×Av} (hk:k<=n) (hv:V n (n-k) k s) (hp:Pm n p) (hf:Fx k p):IY n (n-k) k s p (ee n 1000 k p s):=
 ((CS h1 h2 1000).1 k p s hk hv hp hf (MA h2 (by omega))).1
def cm (n k:Nat) (qs:List (List Int)) (s:Av×Av):Av×Av:=qs.foldl (λs q=>ba n 1000 k q s) s
theorem mV {n k:Nat} (h1:1<=n) (h2:n<=20) (hk:k<n) {qs:List (List Int)} {s:Av×Av} (hp:Part n k s) (hq: ∀q∈qs,Pm n q/\Fx k q/\Gn n (s.1.getD k []) q):
  We n k s (cm n k qs s)/\qs.foldl (λs q=>ba n 999 k q s) s=cm n k qs s:=by
 have h:=dC hk (f:=999) (gs:=s.1.getD k []) (λq s' ij Mf a b c d=>(CS h1 h2 999).2 k q s' hk ij a b (by rw [Mf];exact c) d) qs s hp rfl hq (XD h2 hp (by omega))
 have e:=h.2.2 1000 (by omega)
 refine ⟨?_,e.symm⟩
 unfold cm
 rw [e];exact h.1
theorem mW {n k:Nat} {qs:List (List Int)} {s:Av×Av} {j:Nat} (hj:j<qs.length):cm n k (qs.take (j+1)) s=ba n 1000 k qs[j] (cm n k (qs.take j) s):=by
 unfold cm
 rw [List.take_add_one,List.getElem?_eq_getElem hj,Option.toList_some,List.foldl_append]
 rfl
theorem vF {n k:Nat} (h1:1<=n) (h2:n<=20) {p:List Int} {s:Av×Av} (KL:k<n) (hv:V n (n-k) k s) (hp:Pm n p) (hf:Fx k p):
  Part n k (s.1.set k (s.1.getD k []++ [some p]),s.2)/\ ∀q∈(known (s.2.getD k [])).map (λu=>Aa u p),Pm n q/\Fx k q/\Gn n ((s.1.set k (s.1.getD k []++ [some p])).getD k []) q:=by
 obtain ⟨v1,v2,hc,rv⟩:=hv
 obtain ⟨m,hm⟩: ∃m,n-k=m+1:=⟨n-k-1,by omega⟩
 have wG:n-(k+1)=m:=by omega
 rw [hm] at hc rv
 obtain ⟨c1,c2,c3⟩:=hc
 generalize ig:s.1.getD k []++ [some p]=gs
 have Sr:some p∈gs:=by rw [<-ig];simp
 have Ka: ∀o∈s.1.getD k [],o∈gs:= λo ho=>by rw [<-ig];exact List.mem_append_left _ ho
 have hg:PG n k gs:= λo ho=>by
  rw [<-ig] at ho
  rcases List.mem_append.1 ho with ho|ho
  ·exact c2.pg o ho
  ·rw [List.mem_singleton] at ho;exact ⟨p,ho,hp,hf⟩
 have og: ∀i,(s.1.set k gs).getD i []=if i=k then gs else s.1.getD i []:= λi=>by
  rw [Gl]
  by_cases e:k=i
  ·subst e;rw [if_pos ⟨rfl,by omega⟩,if_pos rfl]
  ·rw [if_neg (λhh=>e hh.1),if_neg (Ne.symm e)]
 have rD: ∀i,k+1<=i->(s.1.set k gs).getD i []=s.1.getD i []/\s.2.getD i []=s.2.getD i []:= λi hi=>⟨by rw [og i,if_neg (by omega)],rfl⟩
 refine ⟨⟨by simpa using v1,v2,?_,?_,?_,?_,λg Mf=>?_⟩,λq hq=>?_⟩
 ·show PG n k ((s.1.set k gs).getD k []);rw [og k,if_pos rfl];exact hg
 ·show Nt n k ((s.1.set k gs).getD k []) _
  rw [og k,if_pos rfl]
  exact ⟨c2.rl,c2.r0,λy t e=>⟨(c2.rt y t e).1,(c2.rt y t e).2.1,(c2.rt y t e).2.2.1,(c2.rt y t e).2.2.2.mono λg hg=>Ka _ hg⟩⟩
 ·rw [wG];exact Nk m (k+1) rD c1
 ·rw [wG];exact Vb m (k+1) rD rv.1
 ·have Mf:some g∈(s.1.set k gs).getD (k+1) []:=Mf
  rw [(rD (k+1) (Nat.le_refl _)).1] at Mf
  show Gn n ((s.1.set k gs).getD k []) g
  rw [og k,if_pos rfl]
  exact (c3 g Mf).mono λg hg=>Ka _ hg
 ·rw [og k,if_pos rfl]
  obtain ⟨u,hu,rfl⟩:=List.mem_map.1 hq
  obtain ⟨y,hy⟩:=dP.1 hu
  obtain ⟨t1,t2,t3,t4⟩:=c2.rt _ _ hy
  exact ⟨t1.comp hp,Fx.comp t1 hp t2 hf (by omega), .mul (t4.mono λg hg=>Ka _ hg) Sr⟩
theorem JH {n k:Nat} (h1:1<=n) (h2:n<=20) {p:List Int} {s:Av×Av} (KL:k<n) (hv:V n (n-k) k s) (hp:Pm n p) (hf:Fx k p) (hh: ¬Dx s.2 (n-k) k p=true):
  ee n 1000 k p s=cm n k ((known (s.2.getD k [])).map λu=>Aa u p) (s.1.set k (s.1.getD k []++ [some p]),s.2):=by
 obtain ⟨a1,a2⟩:=vF h1 h2 KL hv hp hf
 rw [<-(mV h1 h2 KL a1 a2).2]
 exact (CQ (f:=999)).trans (if_neg hh)
theorem CP {n k:Nat} {p:List Int} {s:Av×Av} (hh:Dx s.2 (n-k) k p=true):ee n 1000 k p s=s:=by
 exact (CQ (f:=999)).trans (if_pos hh)
theorem JJ {n k:Nat} (h1:1<=n) (h2:n<=20) {q t:List Int} {s:Av×Av} (hk:k<n) (Wb:Part n k s) (hq:Pm n q) (hf:Fx k q) (Gf:(s.2.getD k []).getD (ap q k) none=some t):
  ba n 1000 k q s=ee n 1000 (k+1) (Aa q (Af t)) s:=by
 obtain ⟨t1,t2,t3,t4⟩:=Wb.row.rt _ _ Gf
 rw [((CS h1 h2 999).1 (k+1) _ s (by omega) Wb.v (hq.comp t1.inv) (Fx.div hq t1 hf t2 hk t3) (MA h2 (by omega))).2 1000 (by omega)]
 refine (CR (f:=999)).trans ?_
 rw [Gf]
theorem vG {n k:Nat} {q:List Int} {s:Av×Av} (hk:k<n) (Wb:Part n k s) (hq:Pm n q) (hf:Fx k q) (yF:Gn n (s.1.getD k []) q) (Gf:(s.2.getD k []).getD (ap q k) none=none):
  Part n k (s.1,s.2.set k ((s.2.getD k []).set (ap q k) (some q)))/\ ∀x∈(s.1.getD k []).map (λo=>Aa q (o.getD [])),Pm n x/\Fx k x/\Gn n (s.1.getD k []) x:=by
 have TN:=Wb.row.rl
 have hy:ap q k<n:=hq.lt hk
 have hyk:ap q k≠k:= λh=>by rw [h,Wb.row.r0] at Gf;cases Gf
 have po:=Wb.l2
 generalize kO:(s.2.getD k []).set (ap q k) (some q)=Pr
 have Zp: ∀y,Pr.getD y none=if ap q k=y then some q else (s.2.getD k []).getD y none:= λy=>by
  rw [<-kO,Gl]
  by_cases h:ap q k=y
  ·rw [if_pos ⟨h,by omega⟩,if_pos h]
  ·rw [if_neg λhh=>h hh.1,if_neg h]
 have UA: ∀i,(s.2.set k Pr).getD i []=if i=k then Pr else s.2.getD i []:= λi=>by
  rw [Gl]
  by_cases e:k=i
  ·subst e;rw [if_pos ⟨rfl,by omega⟩,if_pos rfl]
  ·rw [if_neg (λhh=>e hh.1),if_neg (Ne.symm e)]
 have rD: ∀i,k+1<=i->s.1.getD i []=s.1.getD i []/\(s.2.set k Pr).getD i []=s.2.getD i []:= λi hi=>⟨rfl,by rw [UA i,if_neg (by omega)]⟩
 have KI:((s.1,s.2.set k Pr):Av×Av).2.getD k []=Pr:=by show (s.2.set k Pr).getD k []=Pr;rw [UA k,if_pos rfl]
 refine ⟨⟨Wb.l1,by simpa using po,Wb.pg,?_,Nk _ (k+1) rD Wb.comp,Vb _ (k+1) rD Wb.gb,Wb.sub⟩,λx hx=>?_⟩
 ·rw [KI]
  refine ⟨by rw [<-kO,List.length_set];exact TN,by rw [Zp k,if_neg hyk];exact Wb.row.r0,λy t e=>?_⟩
  rw [Zp y] at e
  split at e
  ·rename_i h
   cases e
   exact ⟨hq,hf,h,yF⟩
  ·exact Wb.row.rt y t e
 ·obtain ⟨o,ho,rfl⟩:=List.mem_map.1 hx
  obtain ⟨g,rfl,g1,g2⟩:=Wb.pg o ho
  exact ⟨hq.comp g1,Fx.comp hq g1 hf g2 (by omega), .mul yF ho⟩
theorem JI {n k:Nat} (h1:1<=n) (h2:n<=20) {q:List Int} {s:Av×Av} (hk:k<n) (Wb:Part n k s) (hq:Pm n q) (hf:Fx k q) (yF:Gn n (s.1.getD k []) q) (Gf:(s.2.getD k []).getD (ap q k) none=none):
  ba n 1000 k q s=cm n k ((s.1.getD k []).map λo=>Aa q (o.getD [])) (s.1,s.2.set k ((s.2.getD k []).set (ap q k) (some q))):=by
 obtain ⟨a1,a2⟩:=vG hk Wb hq hf yF Gf
 rw [<-(mV h1 h2 hk a1 a2).2]
 refine (CR (f:=999)).trans ?_
 rw [Gf]
def Jx (n:Nat) (gens:List PO):Av×Av:=gens.foldl (λs o=>ee n 1000 0 (o.getD []) s) (Mq n,Rf n)
theorem sE {n:Nat} {gens:List PO} {j:Nat} (hj:j<gens.length):Jx n (gens.take (j+1))=ee n 1000 0 (gens[j].getD []) (Jx n (gens.take j)):=by
 unfold Jx
 rw [List.take_add_one,List.getElem?_eq_getElem hj,Option.toList_some,List.foldl_append]
 rfl
theorem fv {n:Nat} (h1:1<=n) (h2:n<=20): ∀(gens:List PO) (s:Av×Av),UJ n gens->V n n 0 s->V n n 0 (gens.foldl (λs o=>ee n 1000 0 (o.getD []) s) s)/\
  Oq 0 s (gens.foldl (λs o=>ee n 1000 0 (o.getD []) s) s)/\(∀g,some g∈gens->Gn n ((gens.foldl (λs o=>ee n 1000 0 (o.getD []) s) s).1.getD 0 []) g)/\ ∀o∈(gens.foldl (λs o=>ee n 1000 0 (o.getD []) s) s).1.getD 0 [],o∈s.1.getD 0 []\/o∈gens
 | [],s,_,hv=>⟨hv,Oq.refl _ _,(λ_ hg=>by cases hg),λ_ ho=> .inl ho⟩
 |o::gens,s,hg,hv=>by
  obtain ⟨g,rfl,Mu⟩:=hg o (by simp)
  have ha:=UK h1 h2 (k:=0) (Nat.zero_le _) (by rw [Nat.sub_zero];exact hv) Mu (λi hi=>absurd hi (Nat.not_lt_zero _))
  have DH:=ha.v
  rw [Nat.sub_zero] at DH
  obtain ⟨a1,a2,a3,a4⟩:=fv h1 h2 gens (ee n 1000 0 g s) (λo ho=>hg o (by simp [ho])) DH
  refine ⟨a1,ha.grow.trans a2 (Nat.le_refl _),λg' Mf=>?_,λo ho=>?_⟩
  ·rcases List.mem_cons.1 Mf with e|Mf
   ·cases e;exact ha.WZ.mono λg hg=>a2.ri _ _ hg
   ·exact a3 g' Mf
  ·rcases a4 o ho with h|h
   ·rcases ha.gens o h with h|h
    ·exact .inl h
    ·exact .inr (by simp [h])
   ·exact .inr (by simp [h])
theorem qT {n:Nat} (h1:1<=n) (h2:n<=20) {gens:List PO} (hg:UJ n gens):V n n 0 (Jx n gens):=(fv h1 h2 gens _ hg (mg h1 h2)).1
theorem wy {n:Nat} (h1:1<=n) (h2:n<=20) {gens:List PO} (hg:UJ n gens) {p:List Int} (hp:Pm n p):Dx (Jx n gens).2 n 0 p=true↔Gn n gens p:=by
 obtain ⟨a1,a2,a3,a4⟩:=fv h1 h2 gens _ hg (mg h1 h2)
 have hS:vE n λg=>some g∈gens:=⟨⟨h1,h2⟩,λg Mf=>by obtain ⟨g',e,h⟩:=hg _ Mf;cases e;exact h⟩
 have Ka: ∀g,some g∈(Jx n gens).1.getD 0 []->some g∈gens:= λg Mf=>by
  rcases a4 _ Mf with h|h
  ·have h:some g∈(Mq n).getD 0 []:=h
   rw [Re] at h;cases h
  ·exact h
 have VB:vE n λg=>some g∈(Jx n gens).1.getD 0 []:=⟨⟨h1,h2⟩,λg Mf=>hS.2 g (Ka g Mf)⟩
 refine (Nb h1 h2 n 0 (Jx n gens) (by omega) a1.2.2.1 p hp λi hi=>absurd hi (Nat.not_lt_zero _)).trans ⟨λh=>h.mono Ka,λh=>h.trans VB λg Mf=>a3 g Mf⟩
end Go.Proofs.YtfolipnappekaaaGreat

namespace Go.Proofs.YtfolipnappekaaaGreat
open Go.RowKit
def Iu (T:Av):Nat->Nat->List Int->List Int×Int×Unit
 |0,l,p=>(p,(l:Int),())
 |k+1,l,p=>match (T.getD l []).getD (Ii p (l:Int)).toNat none with
  |none=>(p,(l:Int),())
  |some t=>Iu T k (l+1) (Aa p (Af t))
theorem ou {T:Av} : ∀(k l:Nat) (p:List Int),(Iu T k l p).2.1=((l+k:Nat):Int)↔Dx T k l p=true
 |0,l,p=>by simp [Iu,Dx]
 |k+1,l,p=>by
  unfold Iu Dx
  cases (T.getD l []).getD (Ii p (l:Int)).toNat none with
  |none=>
   constructor
   ·intro h
    have h:(l:Int)=((l+(k+1):Nat):Int):=h
    omega
   ·intro h;cases h
  |some t=>
   have h:=ou (T:=T) k (l+1) (Aa p (Af t))
   rw [show l+1+k=l+(k+1) by omega] at h
   exact h
theorem zE {row:Row} {y:Nat} (h:y<row.length):known (row.take (y+1))=known (row.take y)++(row[y]).toList:=by
 unfold known
 rw [List.take_succ_eq_append_getElem h,List.filterMap_append]
 cases row[y]<;>rfl
theorem rM (row:Row):(known row).length<=row.length:=List.length_filterMap_le _ _
theorem rh {n k:Nat} (h1:1<=n) (h2:n<=20) (hk:k<n) {qs:List (List Int)} {s:Av×Av} (hp:Part n k s) (hq: ∀q∈qs,Pm n q/\Fx k q/\Gn n (s.1.getD k []) q) (j:Nat):We n k s (cm n k (qs.take j) s):=
 (mV h1 h2 hk hp λq h=>hq q (List.mem_of_mem_take h)).1
theorem zM {n k:Nat} {s:Av×Av} (hp:Part n k s):gE n k s<DY n k:=by
 have h:=cI (s.2.getD k [])
 have hr:=hp.row.rl
 unfold gE DY
 omega
theorem MB {n k:Nat} {s:Av×Av} (hk:k<n):DY n (k+1)<gE n k s:=by
 obtain ⟨m,hm⟩: ∃m,n-k=m+1:=⟨n-k-1,by omega⟩
 have wG:n-(k+1)=m:=by omega
 unfold DY gE
 rw [hm,wG,Nat.succ_mul]
 omega
theorem QT {n k y:Nat} {s:Av×Av} {q:List Int} (hk:k<s.2.length) (hy:y<(s.2.getD k []).length) (h:(s.2.getD k []).getD y none=none):
  gE n k (s.1,s.2.set k ((s.2.getD k []).set y (some q)))+1=gE n k s:=by
 have h1:=jM (t:=q) h hy
 have h2:(s.2.set k ((s.2.getD k []).set y (some q))).getD k []=(s.2.getD k []).set y (some q):=by
  rw [Gl,if_pos ⟨rfl,hk⟩]
 unfold gE
 show _+Hb ((s.2.set k ((s.2.getD k []).set y (some q))).getD k [])+1=_
 rw [h2]
 omega
def jm (n:Int) (g:List (List Int)):Av×Av:=Jx n.toNat (g.map some)
end Go.Proofs.YtfolipnappekaaaGreat

namespace Go.Proofs.YtfolipnappekaaaGreat
open Go.RowKit
abbrev BB:Type:=List TT×List (ByteArray->Option Int)×Unit
def HW:List (List Int)->List Int->(ByteArray->Option Int)->ByteArray->Option Int
 |x::xs,d::ds,m=>HW xs ds (dp m (Pv x) d)
 |_,_,m=>m
def Pc (t:TT):ByteArray->Option Int:=HW t.2.1 t.2.2.1 λ_=>none
def Vj (ts:List TT):BB:=(ts,ts.map Pc,())
structure JB (t:TT):Prop where
 sW:t.2.1.length<=3000
 len:t.2.2.1.length=t.2.1.length
 nodup:t.2.1.Nodup
 byte: ∀x∈t.2.1,bd x
 Aje: ∀d∈t.2.2.1,0<=d/\d<=3000
 tl:t.1.length<=20
 pl: ∀x∈t.2.1,x.length<=20
def Zt (ts:List TT):Prop:=ts.length<=4/\ ∀t∈ts,JB t
def mc (t:TT) (s:List Int):Int:=t.2.2.1.getD (t.2.1.idxOf (Bx s t.1)) 0
def Pa (ts:List TT) (s:List Int):List Int:=ts.map λt=>mc t s
def rQ (ts:List TT) (s:List Int):Int:=(Pa ts s).foldl max 0
def bR (ts:List TT) (s:List Int):Prop:=s.length<=20/\ ∀t∈ts,Hq s.length t.1/\Bx s t.1∈t.2.1
noncomputable abbrev Oe:Spec:=Co (.pair ya .unit) (.optr aR) false false (λx=>Zt x.1) (λx=>some (Vj x.1))
def PD (b:Option BB) (s:List Int):Prop:= ∃ts,Zt ts/\b=some (Vj ts)/\bR ts s
def LV (b:Option BB) (s:List Int):List Int:=match b with|some b=>Pa b.1 s|none=> []
def zH (b:Option BB) (s:List Int):Int:=match b with|some b=>rQ b.1 s|none=>0
noncomputable abbrev sf:Spec:=Co (.pair (.optr aR) (.pair tL .unit)) tL false true (λx=>PD x.1 x.2.1) (λx=>LV x.1 x.2.1)
noncomputable abbrev aK:Spec:=Co (.pair (.optr aR) (.pair tL .unit)) tI false true (λx=>PD x.1 x.2.1) (λx=>zH x.1 x.2.1)
noncomputable abbrev Zg:Spec:=Co (.pair ya (.pair tL .unit)) tL false true (λx=>Zt x.1/\bR x.1 x.2.1) (λx=>Pa x.1 x.2.1)
noncomputable abbrev aJ:Spec:=Co (.pair ya (.pair tL .unit)) tI false true (λx=>Zt x.1/\bR x.1 x.2.1) (λx=>rQ x.1 x.2.1)
abbrev iZ:Type:=Int×List Int×List (List Int)×List Int×List (List Int×List (List Int)×List Int×PUnit)×(ByteArray->Option Int)×List (ByteArray->Option Int)×PUnit
abbrev j4:Type:=Int×List (List Int×List (List Int)×List Int×PUnit)×List (ByteArray->Option Int)×PUnit
theorem yr (ts:List (List Int×List (List Int)×List Int×Unit)) (P:Option (List (List Int×List (List Int)×List Int×Unit)×List (ByteArray->Option Int)×Unit)->Prop):(0=0/\0=([]:List Int).length/\Bm (λ(v2:j4) (k3:j4->Prop)=>Br (decide (v2.1<(↑ts.length:Int))) (∃(y4:List Int×List (List Int)×List Int×PUnit),idx ts v2.1=some y4/\0=0/\v2.2.2.1.length=v2.2.2.1.length/\Bm (λ(v5:iZ) (k6:iZ->Prop)=>Br (decide (v5.1<(↑y4.2.1.length:Int))) (∃(y7:List Int),idx y4.2.1 v5.1=some y7/\ ∃(y8:ByteArray),Fy.fn (y7,())=some y8/\ ∃(y9:Int),idx v5.2.2.2.1 v5.1=some y9/\0=0/\v5.2.2.2.2.2.2.1.length=v5.2.2.2.2.2.2.1.length/\k6 (IntKind.i64.wrap (v5.1+(1:Int)),v5.2.1,v5.2.2.1,v5.2.2.2.1,v5.2.2.2.2.1,dp v5.2.2.2.2.2.1 y8 y9,v5.2.2.2.2.2.2.1,())) (0=0/\v5.2.2.2.2.2.2.1.length=v5.2.2.2.2.2.2.1.length/\v5.2.2.2.2.2.2.1.length+(List.take 1 (List.drop 0 [v5.2.2.2.2.2.1])).length<=Bj/\0=0/\(v5.2.2.2.2.2.2.1++List.take 1 (List.drop 0 [v5.2.2.2.2.2.1])).length=(v5.2.2.2.2.2.2.1++List.take 1 (List.drop 0 [v5.2.2.2.2.2.1])).length/\k3 (IntKind.i64.wrap (v2.1+(1:Int)),v5.2.2.2.2.1,v5.2.2.2.2.2.2.1++List.take 1 (List.drop 0 [v5.2.2.2.2.2.1]),()))) ((0:Int),y4.1,y4.2.1,y4.2.2.1,v2.2.1,λ(_:ByteArray)=>none,v2.2.2.1,PUnit.unit)) (P (some (v2.2.1,List.take v2.2.2.1.length (List.drop 0 v2.2.2.1),())))) ((0:Int),ts,[],PUnit.unit))=fnW (NO [Sm+101101]) (look [(79,Fy)]) Oe Tryz.f64 (ts,()) P:=by kernel_rfl
abbrev NJ:Type:=List (List Int×List (List Int)×List Int×PUnit)×List (ByteArray->Option Int)×PUnit
theorem Acp (b:Option (List (List Int×List (List Int)×List Int×Unit)×List (ByteArray->Option Int)×Unit)) (s:List Int) (P:List Int->Prop):(∃(y3:NJ),b=some y3/\0=0/\0=([]:List Int).length/\Bm (λ(v4:Int×List Int×PUnit) (k5:Int×List Int×PUnit->Prop)=>Br (decide (v4.1<(↑y3.1.length:Int))) (∃(y6:List Int×List (List Int)×List Int×PUnit),idx y3.1 v4.1=some y6/\ ∃(y7:NJ),b=some y7/\ ∃(y8:ByteArray->Option Int),idx y7.2.1 v4.1=some y8/\ ∃(y9:List Int),Ui.fn (s,y6.1,())=some y9/\ ∃(Ya:ByteArray),Fy.fn (y9,())=some Ya/\0=0/\v4.2.1.length=v4.2.1.length/\v4.2.1.length+(List.take 1 (List.drop 0 [(y8 Ya).getD (Int.ofNat (nat_lit 0))])).length<=Bj/\0=0/\(v4.2.1++List.take 1 (List.drop 0 [(y8 Ya).getD (Int.ofNat (nat_lit 0))])).length=(v4.2.1++List.take 1 (List.drop 0 [(y8 Ya).getD (Int.ofNat (nat_lit 0))])).length/\k5 (IntKind.i64.wrap (v4.1+(1:Int)),v4.2.1++List.take 1 (List.drop 0 [(y8 Ya).getD (Int.ofNat (nat_lit 0))]),())) (P (List.take v4.2.1.length (List.drop 0 v4.2.1)))) ((0:Int),[],PUnit.unit))=fnW Cg (look [(79,Fy),(80,Ui)]) sf Tryz.f59 (b,s,()) P:=by kernel_rfl
theorem RT (b:Option (List (List Int×List (List Int)×List Int×Unit)×List (ByteArray->Option Int)×Unit)) (s:List Int) (P:Int->Prop):(∃(y3:List Int),sf.fn (b,s,())=some y3/\Bm (λ(v4:Int×Int×PUnit) (k5:Int×Int×PUnit->Prop)=>Br (decide (v4.2.1<(↑y3.length:Int))) (∃(y6:Int),idx y3 v4.2.1=some y6/\k5 (if true=true then if y6>v4.1 then y6 else v4.1 else if y6<v4.1 then y6 else v4.1,IntKind.i64.wrap (v4.2.1+(1:Int)),())) (P v4.1)) ((0:Int),(0:Int),PUnit.unit))=fnW Cg (look [(59,sf)]) aK Tryz.f52 (b,s,()) P:=by kernel_rfl
abbrev kv:Type:=List Int×List (List Int)×List Int×PUnit
theorem OG (ts:List (List Int×List (List Int)×List Int×Unit)) (s:List Int) (P:List Int->Prop):(0=0/\0=([]:List Int).length/\Bm (λ(v3:Int×List Int×PUnit) (k4:Int×List Int×PUnit->Prop)=>Br (decide (v3.1<(↑ts.length:Int))) (∃(y5:kv),idx ts v3.1=some y5/\ ∃(y6:kv),idx ts v3.1=some y6/\ ∃(y7:kv),idx ts v3.1=some y7/\ ∃(y8:List Int),Uj.fn (y7.1,s,())=some y8/\ ∃(y9:Int),Nq.fn (y6,y8,())=some y9/\ ∃(Ya:Int),idx y5.2.2.1 y9=some Ya/\0=0/\v3.2.1.length=v3.2.1.length/\v3.2.1.length+(List.take 1 (List.drop 0 [Ya])).length<=Bj/\0=0/\(v3.2.1++List.take 1 (List.drop 0 [Ya])).length=(v3.2.1++List.take 1 (List.drop 0 [Ya])).length/\k4 (IntKind.i64.wrap (v3.1+(1:Int)),v3.2.1++List.take 1 (List.drop 0 [Ya]),())) (P (List.take v3.2.1.length (List.drop 0 v3.2.1)))) ((0:Int),[],PUnit.unit))=fnW Cg (look [(78,Uj),(77,Nq)]) Zg Tryz.f57 (ts,s,()) P:=by kernel_rfl
theorem RS (ts:List (List Int×List (List Int)×List Int×Unit)) (s:List Int) (P:Int->Prop):(∃(y3:List Int),Zg.fn (ts,s,())=some y3/\Bm (λ(v4:Int×Int×PUnit) (k5:Int×Int×PUnit->Prop)=>Br (decide (v4.2.1<(↑y3.length:Int))) (∃(y6:Int),idx y3 v4.2.1=some y6/\k5 (if true=true then if y6>v4.1 then y6 else v4.1 else if y6<v4.1 then y6 else v4.1,IntKind.i64.wrap (v4.2.1+(1:Int)),())) (P v4.1)) ((0:Int),(0:Int),PUnit.unit))=fnW Cg (look [(57,Zg)]) aJ Tryz.f48 (ts,s,()) P:=by kernel_rfl
theorem JB.short {t:TT} (h:JB t):Kg t:=by
 have h1:=h.sW;have h2:=h.len;have h3:=h.tl
 exact ⟨by unfold _root_.Go.Proofs.YtfolipnappekaaaGreat.short;omega,⟨by omega,λr hr=>by have:=h.pl r hr;unfold _root_.Go.Proofs.YtfolipnappekaaaGreat.short;omega⟩,by unfold _root_.Go.Proofs.YtfolipnappekaaaGreat.short;omega⟩
theorem sw {p:PP} {t:TT} (h:Dd p t=true):JB t/\Ct p t.1=true/\(Gg p.2.2.1 t.1).2.2=true/\t.2.1=fV p t.1/\t.2.2.1=LW p t.1:=by
 obtain ⟨h1,h2⟩:=Bool.and_eq_true_iff.1 h
 obtain ⟨h3,h4⟩:=Za.1 h1
 have h5:=jG.1 h2
 unfold Ds at h5
 rw [if_pos h1] at h5
 have e1:t.2.1=fV p t.1:=(congrArg (λz:TT=>z.2.1) h5).symm
 have e2:t.2.2.1=LW p t.1:=(congrArg (λz:TT=>z.2.2.1) h5).symm
 have hv:=(Lq.1 h3).1
 have hn:=(valid hv).n
 have ei:=u9 h3
 have pG:=ei.ok.sW
 have hlen:=ei.len
 have yH:=ei.ok.short
 refine ⟨⟨by rw [e1];exact pG,by rw [e1,e2];exact hlen,by rw [e1];exact ei.ok.nodup,λx hx=>?_,λd hd=>?_,(Eu h3).1,λx hx=>?_⟩,h3,h4,e1,e2⟩
 ·rw [e1] at hx
  intro y hy
  have:=ei.row x hx y hy
  omega
 ·rw [e2] at hd
  obtain ⟨j,hj,rfl⟩:=List.mem_iff_getElem.1 hd
  have h6:=ei.dep j hj
  have tf:j<(Gg p.2.2.1 t.1).2.1.length:=hj
  exact ⟨h6.1,by have:=h6.2;show (Gg p.2.2.1 t.1).2.1[j]<=3000;omega⟩
 ·rw [e1] at hx
  have:=ei.ok.len x hx
  omega
theorem dk {p:PP} {ts:List TT} (h:Cy p ts=true):Bt p=true/\Zt ts/\ ∀t∈ts,Dd p t=true:=by
 unfold Cy at h
 rw [Bool.and_eq_true,Bool.and_eq_true,List.all_eq_true,decide_eq_true_iff] at h
 exact ⟨h.1.1,⟨h.1.2,λt ht=>(sw (h.2 t ht)).1⟩,h.2⟩
theorem yd: ∀(xs:List (List Int)) (ds:List Int) (m:ByteArray->Option Int) (x:List Int),xs.length=ds.length->xs.Nodup->(∀y∈xs,bd y)->bd x->HW xs ds m (Pv x)=if x∈xs then some (ds.getD (xs.idxOf x) 0) else m (Pv x)
 | [],ds,m,x,_,_,_,_=>by cases ds<;>simp [HW]
 |y::xs,[],m,x,hl,_,_,_=>by simp at hl
 |y::xs,d::ds,m,x,hl,hn,hb,hx=>by
  obtain ⟨hy,hn⟩:=List.nodup_cons.1 hn
  simp only [HW]
  rw [yd xs ds _ x (by simpa using hl) hn (λz hz=>hb z (List.mem_cons_of_mem _ hz)) hx]
  by_cases hm:x∈xs
  ·have Ey:y≠x:= λe=>hy (e▸hm)
   have hi:(y::xs).idxOf x=xs.idxOf x+1:=by rw [List.idxOf_cons,show (y==x)=false by simpa using Ey];rfl
   rw [if_pos hm,if_pos (List.mem_cons_of_mem _ hm),hi]
   rfl
  ·rw [if_neg hm]
   unfold dp
   by_cases e:Pv x=Pv y
   ·have:=key_inj hx (hb y (by simp)) e
    subst this
    rw [if_pos e,if_pos (by simp),List.idxOf_cons_self]
    rfl
   ·have Ey:x≠y:= λh=>e (by rw [h])
    rw [if_neg e,if_neg (by simp [Ey,hm])]
theorem NZ {t:TT} (h:JB t) {x:List Int} (hx:x∈t.2.1):Pc t (Pv x)=some (t.2.2.1.getD (t.2.1.idxOf x) 0):=by
 unfold Pc
 rw [yd _ _ _ _ h.len.symm h.nodup h.byte (h.byte x hx),if_pos hx]
theorem xA (ts:List TT) (h:Zt ts):fnW (NO [Sm+101101]) (look [(79,Fy)]) Oe Tryz.f64 (ts,()) (λ(z:Option BB)=>z=some (Vj ts)):=by
 obtain ⟨h4,hd⟩:=h
 refine Eq.mp (yr ts _) ⟨rfl,rfl,?_⟩
 refine Ai ts.length (λv=>v.1) (λi v=>v=((i:Int),ts,(ts.take i).map Pc,())) rfl rfl ?_
 rintro i v K hi SZ rfl hK
 dsimp only
 refine Br.dec (λhl=>?_) λhl=>?_
 ·have hl:i<ts.length:=by omega
  have FA:=hd _ (List.getElem_mem hl)
  have pG:=FA.sW
  have hlen:=FA.len
  have WM:=FA.short
  refine ⟨_,Ap hl,rfl,rfl,?_⟩
  refine Ai (ts[i]).2.1.length (λv=>v.1) (λj v=> ∃m,v=((j:Int),(ts[i]).1,(ts[i]).2.1,(ts[i]).2.2.1,ts,m,(ts.take i).map Pc,())/\HW ((ts[i]).2.1.drop j) ((ts[i]).2.2.1.drop j) m=Pc ts[i]) rfl ⟨_,rfl,by rw [List.drop_zero,List.drop_zero];rfl⟩ ?_
  rintro j v K1 hj hjj ⟨m,rfl,hm⟩ hK1
  dsimp only
  refine Br.dec (λdJ=>?_) λdJ=>?_
  ·have dJ:j<(ts[i]).2.1.length:=by omega
   have po:j<(ts[i]).2.2.1.length:=by omega
   rw [List.drop_eq_getElem_cons dJ,List.drop_eq_getElem_cons po] at hm
   refine ⟨_,Ap dJ,_,if_pos (WM.2.1.2 _ (List.getElem_mem dJ)),_,Ap po,rfl,rfl,?_⟩
   rw [Ag (by omega)]
   exact hK1 dJ _ rfl ⟨_,rfl,hm⟩
  ·have:j=(ts[i]).2.1.length:=by omega
   subst this
   rw [List.drop_length] at hm
   have hm:m=Pc ts[i]:=by
    rw [<-hm]
    cases List.drop (ts[i]).2.1.length (ts[i]).2.2.1<;>rfl
   subst hm
   refine ⟨rfl,rfl,by show ((ts.take i).map Pc).length+1<=4294967296;rw [List.length_map,List.length_take];omega,rfl,rfl,?_⟩
   rw [Ag (by omega)]
   have hmm:(ts.take (i+1)).map Pc=(ts.take i).map Pc++ [Pc ts[i]]:=by
    rw [List.take_add_one,List.getElem?_eq_getElem hl,Option.toList_some,List.map_append]
    rfl
   refine hK hl _ rfl ?_
   rw [hmm]
   rfl
 ·have:i=ts.length:=by omega
  subst this
  rw [Bi,List.take_length]
  rfl
theorem lR:Sound Tryz.prog 64 Oe:=
 Sound.Co (NP [Sm+101101]) (Ae Vv Al) mixed Tryz.func64 (by kernel_rfl) (by kernel_rfl) λx h=>xA x.1 h
theorem gL (ts:List TT) (s:List Int):(Pa ts s).length=ts.length:=by unfold Pa;rw [List.length_map]
theorem qX {ts:List TT} {s:List Int} {i:Nat} (hl:i<ts.length):(Pa (ts.take (i+1)) s)=Pa (ts.take i) s++ [mc ts[i] s]:=by
 unfold Pa
 rw [List.take_add_one,List.getElem?_eq_getElem hl,Option.toList_some,List.map_append]
 rfl
theorem Ac0 (b:Option BB) (s:List Int) (h:PD b s):fnW Cg (look [(79,Fy),(80,Ui)]) sf Tryz.f59 (b,s,()) (λ(z:List Int)=>z=LV b s):=by
 obtain ⟨ts,⟨h4,hd⟩,rfl,hs⟩:=h
 refine Eq.mp (Acp _ s _) ⟨Vj ts,rfl,rfl,rfl,?_⟩
 show Bm _ _
 refine Ai ts.length (λv=>v.1) (λi v=>v=((i:Int),Pa (ts.take i) s,())) rfl rfl ?_
 rintro i v K hi SZ rfl hK
 dsimp only
 refine Br.dec (λhl=>?_) λhl=>?_
 ·have hl:i<ts.length:=by have hl:(i:Int)<(ts.length:Int):=hl;omega
  have FA:=hd _ (List.getElem_mem hl)
  obtain ⟨gB,pt⟩:=hs.2 _ (List.getElem_mem hl)
  have htl:=FA.tl
  have dK:=FA.pl _ pt
  refine ⟨ts[i],Ap hl,Vj ts,rfl,Pc ts[i],?_,_,if_pos ⟨by show (ts[i]).1.length<=4294967296;omega,gB⟩,_,if_pos (by show (Bx s (ts[i]).1).length<=4294967296;omega),rfl,rfl,?_,rfl,rfl,?_⟩
  ·show idx (ts.map Pc) (i:Int)=_
   rw [Ap (by rw [List.length_map];exact hl),List.getElem_map]
  ·show (Pa (ts.take i) s).length+1<=4294967296
   rw [gL,List.length_take];omega
  ·rw [Ag (by omega)]
   refine hK hl _ rfl ?_
   rw [qX hl,show Pc ts[i] (Pv (Bx s (ts[i]).1))=some (mc ts[i] s) from NZ FA pt]
   rfl
 ·have:i=ts.length:=by have hl: ¬(i:Int)<(ts.length:Int):=hl;omega
  subst this
  rw [Bi,List.take_length]
  rfl
theorem HI:Sound Tryz.prog 59 sf:=
 Sound.Co Bg (Ae Vv (Ae qw Al)) mixed Tryz.func59 (by kernel_rfl) (by kernel_rfl) λx h=>Ac0 x.1 x.2.1 h
theorem tR (a b:Int):(if true=true then if b>a then b else a else if b<a then b else a)=max a b:=by
 rw [if_pos rfl]
 by_cases h:b>a
 ·rw [if_pos h,Int.max_eq_right (by omega)]
 ·rw [if_neg h,Int.max_eq_left (by omega)]
theorem QZ (b:Option BB) (s:List Int) (h:PD b s):fnW Cg (look [(59,sf)]) aK Tryz.f52 (b,s,()) (λ(z:Int)=>z=zH b s):=by
 obtain ⟨ts,ht,hb,hs⟩:=id h
 have hl4:=ht.1
 have hlen:=gL ts s
 obtain ⟨xs,WU⟩: ∃xs,LV b s=xs:=⟨_,rfl⟩
 have TP:zH b s=xs.foldl max 0:=by rw [<-WU,hb];rfl
 have QO:xs.length=ts.length:=by rw [<-WU,hb];exact hlen
 refine Eq.mp (RT b s _) ⟨xs,(if_pos h).trans (congrArg some WU),?_⟩
 rw [TP]
 refine Ai xs.length (λv=>v.2.1) (λi v=>v=((xs.take i).foldl max 0,(i:Int),())) rfl rfl ?_
 rintro i v K hi SZ rfl hK
 dsimp only
 refine Br.dec (λhl=>?_) λhl=>?_
 ·have hl:i<xs.length:=by omega
  refine ⟨_,Ap hl,?_⟩
  rw [Ag (by omega)]
  refine hK hl _ rfl ?_
  rw [List.take_add_one,List.getElem?_eq_getElem hl,Option.toList_some,List.foldl_append,tR]
  rfl
 ·have:i=xs.length:=by omega
  subst this
  rw [List.take_length]
theorem xT:Sound Tryz.prog 52 aK:=
 Sound.Co Bg (Ae HI Al) mixed Tryz.func52 (by kernel_rfl) (by kernel_rfl) λx h=>QZ x.1 x.2.1 h
theorem zu {L:List (List Int)} {x:List Int} (hn:L.Nodup) (hx:x∈L):Dt (λq=>decide (q=x)) L 0=((L.idxOf x:Nat):Int):=by
 obtain ⟨k,hk,h1,h2,_⟩:=rF (P:= λq=>decide (q=x)) L 0 (List.any_eq_true.2 ⟨x,hx,decide_eq_true rfl⟩)
 have h3:L[k]=x:=of_decide_eq_true h2
 have h4:=zr hn hk
 rw [Tq hk,h3] at h4
 rw [h4,<-Nat.zero_add k]
 exact h1
theorem MJ (ts:List TT) (s:List Int) (h:Zt ts/\bR ts s):fnW Cg (look [(78,Uj),(77,Nq)]) Zg Tryz.f57 (ts,s,()) (λ(z:List Int)=>z=Pa ts s):=by
 obtain ⟨⟨h4,hd⟩,hs⟩:=h
 refine Eq.mp (OG ts s _) ⟨rfl,rfl,?_⟩
 refine Ai ts.length (λv=>v.1) (λi v=>v=((i:Int),Pa (ts.take i) s,())) rfl rfl ?_
 rintro i v K hi SZ rfl hK
 dsimp only
 refine Br.dec (λhl=>?_) λhl=>?_
 ·have hl:i<ts.length:=by omega
  have FA:=hd _ (List.getElem_mem hl)
  obtain ⟨gB,pt⟩:=hs.2 _ (List.getElem_mem hl)
  have htl:=FA.tl
  have dK:=FA.pl _ pt
  have hix:=List.idxOf_lt_length_of_mem pt
  have hle:=FA.len
  have he:Nq.fn (((ts[i]).1,(ts[i]).2.1,(ts[i]).2.2.1,()),Bx s (ts[i]).1,())=some (((ts[i]).2.1.idxOf (Bx s (ts[i]).1):Nat):Int):=
   (if_pos ⟨FA.short,by show (Bx s (ts[i]).1).length<=4294967296;omega⟩).trans (congrArg some (zu FA.nodup pt))
  refine ⟨_,Ap hl,_,Ap hl,_,Ap hl,_,if_pos ⟨by show (ts[i]).1.length<=4294967296;omega,gB⟩,_,he,_,Ap (by omega),rfl,rfl,?_,rfl,rfl,?_⟩
  ·show (Pa (ts.take i) s).length+1<=4294967296
   rw [gL,List.length_take];omega
  ·rw [Ag (by omega)]
   refine hK hl _ rfl ?_
   rw [qX hl]
   unfold mc
   rw [Tq (by omega)]
   rfl
 ·have:i=ts.length:=by omega
  subst this
  rw [Bi,List.take_length]
theorem uy:Sound Tryz.prog 57 Zg:=
 Sound.Co Bg (Ae qx (Ae oR Al)) mixed Tryz.func57 (by kernel_rfl) (by kernel_rfl) λx h=>MJ x.1 x.2.1 h
theorem QY (ts:List TT) (s:List Int) (h:Zt ts/\bR ts s):fnW Cg (look [(57,Zg)]) aJ Tryz.f48 (ts,s,()) (λ(z:Int)=>z=rQ ts s):=by
 have hl4:=h.1.1
 have hlen:=gL ts s
 obtain ⟨xs,WU⟩: ∃xs,Pa ts s=xs:=⟨_,rfl⟩
 have TP:rQ ts s=xs.foldl max 0:=by rw [<-WU];rfl
 have QO:xs.length=ts.length:=by rw [<-WU];exact hlen
 refine Eq.mp (RS ts s _) ⟨xs,(if_pos h).trans (congrArg some WU),?_⟩
 rw [TP]
 refine Ai xs.length (λv=>v.2.1) (λi v=>v=((xs.take i).foldl max 0,(i:Int),())) rfl rfl ?_
 rintro i v K hi SZ rfl hK
 dsimp only
 refine Br.dec (λhl=>?_) λhl=>?_
 ·have hl:i<xs.length:=by omega
  refine ⟨_,Ap hl,?_⟩
  rw [Ag (by omega)]
  refine hK hl _ rfl ?_
  rw [List.take_add_one,List.getElem?_eq_getElem hl,Option.toList_some,List.foldl_append,tR]
  rfl
 ·have:i=xs.length:=by omega
  subst this
  rw [List.take_length]
theorem xS:Sound Tryz.prog 48 aJ:=
 Sound.Co Bg (Ae uy Al) mixed Tryz.func48 (by kernel_rfl) (by kernel_rfl) λx h=>QY x.1 x.2.1 h
end Go.Proofs.YtfolipnappekaaaGreat

namespace Go.Proofs.YtfolipnappekaaaGreat
open Go.RowKit
theorem o5 {p:PP} {s:List Int} (h:Ga p s=true):Bt p=true/\Pm p.1.toNat s/\Gn p.1.toNat (p.2.2.1.map some) s:=by
 unfold Ga at h
 rw [Bool.and_eq_true,Bool.and_eq_true] at h
 obtain ⟨⟨hv,hg⟩,hh⟩:=h
 have hV:=valid hv
 have hn:=hV.n
 have hp:=UU hV hg
 exact ⟨hv,hp,(fL (by omega) (by omega) (Zb (Ye hV).2.2) hp).1 hh⟩
theorem JV {p:PP} {s:List Int} (hv:Bt p=true) (h:Gn p.1.toNat (p.2.2.1.map some) s):Ga p s=true:=by
 have hV:=valid hv
 have hn:=hV.n
 have hp:=Wa.pm (hZ hV) h
 unfold Ga
 rw [hv,XY hV hp,show Dx (Wh p.1 p.2.2.1).2 p.1.toNat 0 s=true from (fL (by omega) (by omega) (Zb (Ye hV).2.2) hp).2 h]
 rfl
theorem zf {p:PP} {t s:List Int} (hv:Bt p=true) (hs:Pm p.1.toNat s) (ht:Ct p t=true):Hq s.length t:=by
 have h1:=hs.1
 have hn:=(valid hv).n
 intro y hy
 have:=(Eu ht).2 y hy
 omega
theorem UW {p:PP} {t:List Int} (hv:Bt p=true) (ht:Ct p t=true) (hw:(Gg p.2.2.1 t).2.2=true) {s:List Int} (hs:Gn p.1.toNat (p.2.2.1.map some) s):Bx s t∈fV p t:=by
 have hV:=valid hv
 have hc:mi p.2.2.1 (Ck p.2.2.1.length) (fV p t):=pQ hV (u9 ht) (yR hv (Eu ht).1 (Eu ht).2 hw)
 induction hs with
 |id=>rw [GR (yf ht)];exact (GQ ht).2
 |mul h hg ih=>
  have hp:Pm p.1.toNat _:=Wa.pm (hZ hV) h
  obtain ⟨k,hk,rfl⟩:=List.mem_iff_getElem.1 (xQ.1 hg)
  have:=hc.next _ ih _ (Wu hk).1
  rw [Qm hk] at this
  rw [cK (zf hv hp ht)]
  exact this
 |inv h hg ih=>
  have hp:Pm p.1.toNat _:=Wa.pm (hZ hV) h
  obtain ⟨k,hk,rfl⟩:=List.mem_iff_getElem.1 (xQ.1 hg)
  have:=hc.next _ ih _ (Wu hk).2
  rw [Ql hk] at this
  rw [cK (zf hv hp ht)]
  exact this
theorem o6 {p:PP} {ts:List TT} {s:List Int} (hr:Ga p s=true) (ht:Cy p ts=true):bR ts s:=by
 obtain ⟨hv,hp,hg⟩:=o5 hr
 obtain ⟨_,_,Gy⟩:=dk ht
 have hn:=(valid hv).n
 refine ⟨by rw [hp.1];omega,λt nt=>?_⟩
 obtain ⟨_,h3,hw,e1,_⟩:=sw (Gy t nt)
 exact ⟨zf hv hp h3,by rw [e1];exact UW hv h3 hw hg⟩
theorem GY {p:PP} {s:List Int} (hr:Ga p s=true):Ga p (Af s)=true:=by
 obtain ⟨hv,_,hg⟩:=o5 hr
 exact JV hv (Wa.im (hZ (valid hv)) hg)
theorem AN {p:PP} {s:List Int} (hr:Ga p s=true):Ej s=true:=by
 unfold Ga at hr
 rw [Bool.and_eq_true,Bool.and_eq_true] at hr
 exact (Di.1 hr.1.2).2
end Go.Proofs.YtfolipnappekaaaGreat
