/-
  Part 42 of the proof that the statement FnExactSolveByMethod holds.
-/
import Derived.Test.YtjbdmibbbpdnnaaCSolveByMethod40
namespace Go.Proofs.Ytjbdmibbbpdnnaa
open Go.RowKit
def ap (p:List Int) (i:Nat):Nat:=(Ce p (i:Int)).toNat
def Pm (n:Nat) (p:List Int):Prop:=p.length=n/\Ut p
theorem Pm.n1 {n:Nat} {p:List Int} (h:Pm n p):1<=n:=h.1▸h.2.pos
theorem Pm.n2 {n:Nat} {p:List Int} (h:Pm n p):n<=20:=h.1▸h.2.len
theorem Pm.Ss {n:Nat} {p:List Int} (h:Pm n p) {i:Nat} (hi:i<n):Ce p (i:Int)=(ap p i:Int)/\ap p i<n:=by
 have gf:i<p.length:=by rw [h.1];exact hi
 have:=h.2.row _ (List.getElem_mem gf)
 unfold ap
 rw [Ij gf]
 have h1:=h.1
 omega
theorem Pm.lt {n:Nat} {p:List Int} (h:Pm n p) {i:Nat} (hi:i<n):ap p i<n:=(h.Ss hi).2
theorem Pm.ext {n:Nat} {p q:List Int} (h:Pm n p) (k:Pm n q) (e: ∀i,i<n->ap p i=ap q i):p=q:=by
 refine List.ext_getElem (by rw [h.1,k.1]) λi h1 h2=>?_
 have hi:i<n:=by rw [<-h.1];exact h1
 have a:=(h.Ss hi).1
 have b:=(k.Ss hi).1
 rw [Ij h1] at a
 rw [Ij h2] at b
 rw [a,b,e i hi]
theorem Pm.inj {n:Nat} {p:List Int} (h:Pm n p) {i j:Nat} (hi:i<n) (hj:j<n) (e:ap p i=ap p j):i=j:=
 h.2.inj i j (by rw [h.1];exact hi) (by rw [h.1];exact hj) e
theorem Pm.LX {n:Nat} {p:List Int} (h:Pm n p) {k:Nat} (hk:k<n): ∃i,i<n/\ap p i=k:=by
 obtain ⟨i,h1,h2⟩:=h.2.LX k (by rw [h.1];exact hk)
 exact ⟨i,by rw [<-h.1];exact h1,h2⟩
theorem Pm.of {n:Nat} {p:List Int} (hl:p.length=n) (h1:1<=n) (h2:n<=20) (f:Nat->Nat) (hf: ∀i,i<n->p[i]?=some (f i:Int)/\f i<n) (hi: ∀i j,i<n->j<n->f i=f j->i=j):Pm n p:=by
 refine ⟨hl,by omega,by omega,λy hy=>?_,?_⟩
 ·obtain ⟨i,hi,rfl⟩:=List.mem_iff_getElem.1 hy
  obtain ⟨h3,h4⟩:=hf i (by omega)
  rw [List.getElem?_eq_getElem hi] at h3
  rw [Option.some.inj h3]
  omega
 ·refine List.pairwise_iff_getElem.2 λi j h3 h4 h5 h6=>?_
  have a:=(hf i (by omega)).1
  have b:=(hf j (by omega)).1
  rw [List.getElem?_eq_getElem h3] at a
  rw [List.getElem?_eq_getElem h4] at b
  rw [Option.some.inj a,Option.some.inj b] at h6
  have:=hi i j (by omega) (by omega) (by omega)
  omega
theorem vM {n:Nat} {p q:List Int} (hp:Pm n p) (hq:Pm n q) {i:Nat} (hi:i<n):(Aa p q)[i]?=some (ap q (ap p i):Int):=by
 have h1:i<p.length:=by rw [hp.1];exact hi
 unfold Aa
 rw [List.getElem?_map,List.getElem?_eq_getElem h1]
 have a:=(hp.Ss hi).1
 rw [Ij h1] at a
 simp only [Option.map_some,a]
 rw [(hq.Ss (hp.Ss hi).2).1]
theorem Pm.comp {n:Nat} {p q:List Int} (hp:Pm n p) (hq:Pm n q):Pm n (Aa p q):=
 Pm.of (by rw [Ob,hp.1]) hp.n1 hp.n2 (λi=>ap q (ap p i)) (λi hi=>⟨vM hp hq hi,hq.lt (hp.lt hi)⟩) λi j hi hj e=>hp.inj hi hj (hq.inj (hp.lt hi) (hp.lt hj) e)
theorem JF {p:List Int} {i k:Nat} (h:p[i]?=some (k:Int)):ap p i=k:=by
 unfold ap Ce
 rw [Int.toNat_natCast,List.getD_eq_getElem?_getD,h]
 simp
theorem Ga {n:Nat} {p q:List Int} (hp:Pm n p) (hq:Pm n q) {i:Nat} (hi:i<n):ap (Aa p q) i=ap q (ap p i):=JF (vM hp hq hi)
theorem oX {n i:Nat} (hi:i<n):(upto n)[i]?=some (i:Int):=by simp [upto,hi]
theorem eK {n i:Nat} (hi:i<n):ap (upto n) i=i:=JF (oX hi)
theorem Pm.id {n:Nat} (h1:1<=n) (h2:n<=20):Pm n (upto n):=Pm.of (by simp [upto]) h1 h2 (λi=>i) (λi hi=>⟨oX hi,hi⟩) λ_ _ _ _ e=>e
theorem CY {n:Nat} {p:List Int} (hp:Pm n p) {i:Nat} (hi:i<n):(An p)[ap p i]?=some (i:Int):=LC hp.2 (by rw [hp.1];exact hi)
theorem dQ {n:Nat} {p:List Int} (hp:Pm n p) {i:Nat} (hi:i<n):ap (An p) (ap p i)=i:=JF (CY hp hi)
theorem so {n:Nat} {p:List Int} (hp:Pm n p) {k:Nat} (hk:k<n):ap p (ap (An p) k)=k:=by
 obtain ⟨i,hi,rfl⟩:=hp.LX hk
 rw [dQ hp hi]
theorem Pm.inv {n:Nat} {p:List Int} (hp:Pm n p):Pm n (An p):=by
 refine Pm.of (by rw [mc,hp.1]) hp.n1 hp.n2 (λk=>ap (An p) k) (λk hk=>?_) λi j hi hj e=>?_
 ·obtain ⟨i,hi,rfl⟩:=hp.LX hk
  rw [dQ hp hi]
  exact ⟨CY hp hi,hi⟩
 ·rw [<-so hp hi,<-so hp hj,e]
theorem Ee {n:Nat} {p q r:List Int} (hp:Pm n p) (hq:Pm n q) (hr:Pm n r):Aa (Aa p q) r=Aa p (Aa q r):=
 ((hp.comp hq).comp hr).ext (hp.comp (hq.comp hr)) λi hi=>by rw [Ga (hp.comp hq) hr hi,Ga hp hq hi,Ga hp (hq.comp hr) hi,Ga hq hr (hp.lt hi)]
theorem comp_id {n:Nat} {p:List Int} (hp:Pm n p):Aa p (upto n)=p:=
 (hp.comp (Pm.id hp.n1 hp.n2)).ext hp λi hi=>by rw [Ga hp (Pm.id hp.n1 hp.n2) hi,eK (hp.lt hi)]
theorem id_comp {n:Nat} {p:List Int} (hp:Pm n p):Aa (upto n) p=p:=
 ((Pm.id hp.n1 hp.n2).comp hp).ext hp λi hi=>by rw [Ga (Pm.id hp.n1 hp.n2) hp hi,eK hi]
theorem cm {n:Nat} {p:List Int} (hp:Pm n p):Aa p (An p)=upto n:=
 (hp.comp hp.inv).ext (Pm.id hp.n1 hp.n2) λi hi=>by rw [Ga hp hp.inv hi,dQ hp hi,eK hi]
theorem Vk {n:Nat} {p:List Int} (hp:Pm n p):Aa (An p) p=upto n:=
 (hp.inv.comp hp).ext (Pm.id hp.n1 hp.n2) λi hi=>by rw [Ga hp.inv hp hi,so hp hi,eK hi]
theorem nv {n:Nat} {p q:List Int} (hp:Pm n p) (hq:Pm n q) (h:Aa p q=upto n):An p=q:=by
 rw [<-comp_id hp.inv,<-h,<-Ee hp.inv hp hq,Vk hp,id_comp hq]
theorem inv_mul {n:Nat} {p q:List Int} (hp:Pm n p) (hq:Pm n q):An (Aa p q)=Aa (An q) (An p):=
 nv (hp.comp hq) (hq.inv.comp hp.inv) (by
  rw [Ee hp hq (hq.inv.comp hp.inv),<-Ee hq hq.inv hp.inv,cm hq,id_comp hp.inv,cm hp])
theorem inv_inv {n:Nat} {p:List Int} (hp:Pm n p):An (An p)=p:=nv hp.inv hp (Vk hp)
theorem LD {n:Nat} (h1:1<=n) (h2:n<=20):An (upto n)=upto n:=nv (Pm.id h1 h2) (Pm.id h1 h2) (comp_id (Pm.id h1 h2))
inductive Yh (n:Nat) (S:List Int->Prop):List Int->Prop where
 |id:Yh n S (upto n)
 |mul {p g:List Int} :Yh n S p->S g->Yh n S (Aa p g)
 |inv {p g:List Int} :Yh n S p->S g->Yh n S (Aa p (An g))
def BK (n:Nat) (S:List Int->Prop):Prop:=(1<=n/\n<=20)/\ ∀g,S g->Pm n g
theorem Yh.pm {n:Nat} {S:List Int->Prop} (hS:BK n S) {p:List Int} (h:Yh n S p):Pm n p:=by
 induction h with
 |id=>exact Pm.id hS.1.1 hS.1.2
 |mul _ hg ih=>exact ih.comp (hS.2 _ hg)
 |inv _ hg ih=>exact ih.comp (hS.2 _ hg).inv
theorem Yh.comp {n:Nat} {S:List Int->Prop} (hS:BK n S) {p q:List Int} (hp:Yh n S p) (hq:Yh n S q):Yh n S (Aa p q):=by
 induction hq with
 |id=>rw [comp_id (hp.pm hS)];exact hp
 |mul hq hg ih=>rw [<-Ee (hp.pm hS) (hq.pm hS) (hS.2 _ hg)];exact .mul ih hg
 |inv hq hg ih=>rw [<-Ee (hp.pm hS) (hq.pm hS) (hS.2 _ hg).inv];exact .inv ih hg
theorem Yh.one {n:Nat} {S:List Int->Prop} (hS:BK n S) {g:List Int} (hg:S g):Yh n S g:=by
 have:=Yh.mul (n:=n) (S:=S) .id hg
 rwa [id_comp (hS.2 g hg)] at this
theorem Yh.XW {n:Nat} {S:List Int->Prop} (hS:BK n S) {g:List Int} (hg:S g):Yh n S (An g):=by
 have:=Yh.inv (n:=n) (S:=S) .id hg
 rwa [id_comp (hS.2 g hg).inv] at this
theorem Yh.ta {n:Nat} {S:List Int->Prop} (hS:BK n S) {p:List Int} (hp:Yh n S p):Yh n S (An p):=by
 induction hp with
 |id=>rw [LD hS.1.1 hS.1.2];exact .id
 |mul hq hg ih=>rw [inv_mul (hq.pm hS) (hS.2 _ hg)];exact (Yh.XW hS hg).comp hS ih
 |inv hq hg ih=>rw [inv_mul (hq.pm hS) (hS.2 _ hg).inv,inv_inv (hS.2 _ hg)];exact (Yh.one hS hg).comp hS ih
theorem Yh.trans {n:Nat} {S S':List Int->Prop} (hS':BK n S') (h: ∀g,S g->Yh n S' g) {p:List Int} (hp:Yh n S p):Yh n S' p:=by
 induction hp with
 |id=>exact .id
 |mul _ hg ih=>exact ih.comp hS' (h _ hg)
 |inv _ hg ih=>exact ih.comp hS' ((h _ hg).ta hS')
abbrev PO:=Option (List Int)
abbrev Row:=List PO
abbrev Dd:=List Row
def Hz (row:Row):List Int:=(upto row.length).filter λy=>(row.getD y.toNat none).isSome
def Jh (T:Dd):Nat->Nat->List Int->Bool
 |0,_,_=>true
 |k+1,i,p=>match (T.getD i []).getD (Ce p (i:Int)).toNat none with
  |none=>false
  |some t=>Jh T k (i+1) (Aa p (An t))
def Lr (row:Row):Nat:=row.countP (·.isNone)
def Tp (x:Int) (s:Row×List Int) (o:PO):Row×List Int:=
 match s.1.getD (Ce (o.getD []) x).toNat none with
 |some _=>s
 |none=>(s.1.set (Ce (o.getD []) x).toNat (some (Aa ((s.1.getD x.toNat none).getD []) (o.getD []))),s.2++ [Ce (o.getD []) x])
def Tf (x:Int) (gs:List PO) (s:Row×List Int):Row×List Int:=gs.foldl (Tp x) s
def Sw (gs:List PO):Nat->List Int->Row->Row
 |0,_,row=>row
 |_+1,[],row=>row
 |f+1,x::q,row=>Sw gs f (Tf x gs (row,q)).2 (Tf x gs (row,q)).1
def Ru (gs:List PO) (row:Row):Row:=Sw gs 100 (Hz row) row
def Nf (row:Row) (y:Int) (g:PO):List Int:=
 Aa (Aa ((row.getD y.toNat none).getD []) (g.getD [])) (An ((row.getD (Ce (g.getD []) y).toNat none).getD []))
def bA (row:Row) (gs:List PO):List (List Int):=(Hz row).flatMap λy=>gs.map λg=>Nf row y g
def Dx:Nat->Nat->List Int->Dd×Dd->Dd×Dd
 |0,_,_,s=>s
 |k+1,l,p,s=>
  if Jh s.2 (k+1) l p=true then s else
   (bA (Ru (s.1.getD l []++ [some p]) (s.2.getD l [])) (s.1.getD l []++ [some p])).foldl (λs q=>Dx k (l+1) q s)
    (s.1.set l (s.1.getD l []++ [some p]),s.2.set l (Ru (s.1.getD l []++ [some p]) (s.2.getD l [])))
def Fx (l:Nat) (p:List Int):Prop:= ∀i,i<l->ap p i=i
def Gn (n:Nat) (gs:List PO):List Int->Prop:=Yh n λg=>some g∈gs
structure OZ (n l:Nat) (gs:List PO) (row:Row) (H:List Int->Prop):Prop where
 pg: ∀o∈gs,∃g,o=some g/\Pm n g/\Fx l g
 rl:row.length=n
 r0:row.getD l none=some (upto n)
 rt: ∀y t,row.getD y none=some t->Pm n t/\Fx l t/\ap t l=y/\Gn n gs t
 cl: ∀y t g,row.getD y none=some t->some g∈gs->row.getD (ap g y) none≠none
 sg: ∀y t g t',row.getD y none=some t->some g∈gs->row.getD (ap g y) none=some t'->H (Aa (Aa t g) (An t'))
def fG (n:Nat):Nat->Nat->Dd×Dd->Prop
 |0,l,s=>s.1.getD l []= []
 |k+1,l,s=>fG n k (l+1) s/\OZ n l (s.1.getD l []) (s.2.getD l []) (λq=>Jh s.2 k (l+1) q=true)/\ ∀g,some g∈s.1.getD (l+1) []->Gn n (s.1.getD l []) g
theorem SG {l1 l2:List Nat} (hn:l1.Nodup) (hs: ∀x∈l1,x∈l2) (hl:l2.length<=l1.length): ∀x∈l2,x∈l1:=by
 induction l1 generalizing l2 with
 |nil=>
  intro x hx
  have:l2= []:=List.eq_nil_of_length_eq_zero (by simpa using hl)
  rw [this] at hx;cases hx
 |cons a l ih=>
  intro x hx
  obtain ⟨h1,h2⟩:=List.nodup_cons.1 hn
  have ha:=hs a (by simp)
  by_cases e:x=a
  ·subst e;simp
  ·refine List.mem_cons_of_mem _ (ih (l2:=l2.erase a) h2 (λy hy=>?_) ?_ x ((List.mem_erase_of_ne e).2 hx))
   ·have hya:y≠a:= λe'=>h1 (by rw [<-e'];exact hy)
    exact (List.mem_erase_of_ne hya).2 (hs y (by simp [hy]))
   ·rw [List.length_erase_of_mem ha]
    simp only [List.length_cons] at hl
    omega
theorem zE {n:Nat} {g:List Int} (hg:Pm n g) (D:Nat->Bool) (h: ∀y,y<n->D y=true->D (ap g y)=true) {y:Nat} (hy:y<n) (hD:D y=true): ∃x,x<n/\D x=true/\ap g x=y:=by
 have:=SG (l1:=((List.range n).filter D).map (ap g)) (l2:=(List.range n).filter D) ?_ ?_ (by simp) y (List.mem_filter.2 ⟨List.mem_range.2 hy,hD⟩)
 ·obtain ⟨x,hx,e⟩:=List.mem_map.1 this
  obtain ⟨h1,h2⟩:=List.mem_filter.1 hx
  exact ⟨x,List.mem_range.1 h1,h2,e⟩
 ·refine List.pairwise_map.2 (List.Pairwise.imp_of_mem ?_ (List.nodup_range.filter D))
  intro a b ha hb Ep e
  exact Ep (hg.inj (List.mem_range.1 (List.mem_filter.1 ha).1) (List.mem_range.1 (List.mem_filter.1 hb).1) e)
 ·intro x hx
  obtain ⟨z,hz,rfl⟩:=List.mem_map.1 hx
  obtain ⟨h1,h2⟩:=List.mem_filter.1 hz
  exact List.mem_filter.2 ⟨List.mem_range.2 (hg.lt (List.mem_range.1 h1)),h z (List.mem_range.1 h1) h2⟩
theorem m5 {row:Row} {y:Nat} {t:List Int} (h:row.getD y none=some t):y<row.length:=by
 rw [List.getD_eq_getElem?_getD] at h
 refine Classical.byContradiction λhn=>?_
 rw [List.getElem?_eq_none (by omega)] at h
 cases h
theorem OZ.pms {n l:Nat} {gs:List PO} {row:Row} {H:List Int->Prop} (h:OZ n l gs row H):BK n λg=>some g∈gs:=by
 refine ⟨?_,λg hg=>?_⟩
 ·have:=(h.rt l _ h.r0).1
  exact ⟨this.n1,this.n2⟩
 ·obtain ⟨g',e,h1,_⟩:=h.pg _ hg
  cases e;exact h1
theorem Fx.inv {n l:Nat} {p:List Int} (hp:Pm n p) (h:Fx l p) (hl:l<=n):Fx l (An p):= λi hi=>by
 have:=dQ hp (i:=i) (by omega)
 rwa [h i hi] at this
theorem Fx.comp {n l:Nat} {p q:List Int} (hp:Pm n p) (hq:Pm n q) (h1:Fx l p) (h2:Fx l q) (hl:l<=n):Fx l (Aa p q):= λi hi=>by
 rw [Ga hp hq (by omega),h1 i hi,h2 i hi]
theorem Fx.all {n:Nat} {p:List Int} (hp:Pm n p) (h:Fx n p):p=upto n:=hp.ext (Pm.id hp.n1 hp.n2) λi hi=>by rw [h i hi,eK hi]
theorem Fx.div {n l:Nat} {p t:List Int} (hp:Pm n p) (ht:Pm n t) (h1:Fx l p) (h2:Fx l t) (hl:l<n) (e:ap t l=ap p l):Fx (l+1) (Aa p (An t)):= λi hi=>by
 rw [Ga hp ht.inv (by omega)]
 by_cases OQ:i<l
 ·rw [h1 i OQ];exact h2.inv ht (by omega) i OQ
 ·have:i=l:=by omega
  subst this
  rw [<-e,dQ ht hl]
theorem iq {n:Nat} (h1:1<=n) (h2:n<=20): ∀(k l:Nat) (s:Dd×Dd),l+k=n->fG n k l s-> ∀p,Pm n p->Fx l p->(Jh s.2 k l p=true↔Gn n (s.1.getD l []) p)
 |0,l,s,hk,hc,p,hp,hf=>by
  have hl:l=n:=by omega
  subst hl
  rw [hf.all hp]
  exact ⟨λ_=> .id,λ_=>rfl⟩
 |k+1,l,s,hk,hc,p,hp,hf=>by
  obtain ⟨c1,c2,c3⟩:=hc
  have hS:=c2.pms
  have ih:=iq h1 h2 k (l+1) s (by omega) c1
  have hS1:BK n λg=>some g∈s.1.getD (l+1) []:=⟨⟨h1,h2⟩,λg hg=>(c3 g hg).pm hS⟩
  have bq:l<n:=by omega
  constructor
  ·intro h
   simp only [Jh] at h
   rw [show (Ce p (l:Int)).toNat=ap p l from rfl] at h
   split at h
   ·cases h
   ·rename_i t ht
    obtain ⟨t1,t2,t3,t4⟩:=c2.rt _ _ ht
    have TY:=Fx.div hp t1 hf t2 bq t3
    have hg:=((ih _ (hp.comp t1.inv) TY).1 h).trans hS c3
    have:=Yh.comp hS hg t4
    rwa [Ee hp t1.inv t1,Vk t1,comp_id hp] at this
  ·intro h
   have key: ∀q,Gn n (s.1.getD l []) q-> ∃t,(s.2.getD l []).getD (ap q l) none=some t/\Gn n (s.1.getD (l+1) []) (Aa q (An t)):=by
    intro q hq
    induction hq with
    |id=>
     refine ⟨upto n,by rw [eK bq];exact c2.r0,?_⟩
     rw [LD h1 h2,comp_id (Pm.id h1 h2)]
     exact .id
    | @mul q g hq hg ihq=>
     obtain ⟨t,e1,e2⟩:=ihq
     have UM:=Yh.pm hS hq
     have Qd:=hS.2 _ hg
     obtain ⟨t1,t2,t3,t4⟩:=c2.rt _ _ e1
     cases e3:(s.2.getD l []).getD (ap g (ap q l)) none with
     |none=>exact absurd e3 (c2.cl _ _ _ e1 hg)
     |some t'=>
      obtain ⟨u1,u2,u3,u4⟩:=c2.rt _ _ e3
      have hsg:=c2.sg _ _ _ _ e1 hg e3
      have hfg:Fx (l+1) (Aa (Aa t g) (An t')):=Fx.div (t1.comp Qd) u1 (Fx.comp t1 Qd t2 (by obtain ⟨g',e,_,h⟩:=c2.pg _ hg;cases e;exact h) (by omega)) u2 bq (by rw [u3,Ga t1 Qd bq,t3])
      have WD:=(ih _ ((t1.comp Qd).comp u1.inv) hfg).1 hsg
      refine ⟨t',by rw [Ga UM Qd bq];exact e3,?_⟩
      have:=Yh.comp hS1 e2 WD
      rwa [show Aa (Aa q (An t)) (Aa (Aa t g) (An t'))=Aa (Aa q g) (An t') by
       rw [Ee UM t1.inv ((t1.comp Qd).comp u1.inv),Ee t1 Qd u1.inv,<-Ee t1.inv t1 (Qd.comp u1.inv),Vk t1,id_comp (Qd.comp u1.inv),Ee UM Qd u1.inv]] at this
    | @inv q g hq hg ihq=>
     obtain ⟨t,e1,e2⟩:=ihq
     have UM:=Yh.pm hS hq
     have Qd:=hS.2 _ hg
     obtain ⟨t1,t2,t3,t4⟩:=c2.rt _ _ e1
     have hy:ap q l<n:=UM.lt bq
     obtain ⟨x,hx,hD,he⟩:=zE Qd (λy=>((s.2.getD l []).getD y none).isSome) (λy hy hd=>by
      obtain ⟨t0,QU⟩:=Option.isSome_iff_exists.1 hd
      exact Option.ne_none_iff_isSome.1 (c2.cl _ _ _ QU hg)) hy (by rw [e1];rfl)
     obtain ⟨t',e3⟩:=Option.isSome_iff_exists.1 hD
     obtain ⟨u1,u2,u3,u4⟩:=c2.rt _ _ e3
     have hsg:=c2.sg _ _ _ _ e3 hg (by rw [he];exact e1)
     have hfg:Fx (l+1) (Aa (Aa t' g) (An t)):=Fx.div (u1.comp Qd) t1 (Fx.comp u1 Qd u2 (by obtain ⟨g',e,_,h⟩:=c2.pg _ hg;cases e;exact h) (by omega)) t2 bq (by rw [t3,Ga u1 Qd bq,u3,he])
     have WD:=Yh.ta hS1 ((ih _ ((u1.comp Qd).comp t1.inv) hfg).1 hsg)
     have hax:ap (An g) (ap q l)=x:=by rw [<-he,dQ Qd hx]
     refine ⟨t',by rw [Ga UM Qd.inv bq,hax];exact e3,?_⟩
     have:=Yh.comp hS1 e2 WD
     rwa [show Aa (Aa q (An t)) (An (Aa (Aa t' g) (An t)))=Aa (Aa q (An g)) (An t') by
      rw [inv_mul (u1.comp Qd) t1.inv,inv_inv t1,inv_mul u1 Qd,Ee UM t1.inv (t1.comp (Qd.inv.comp u1.inv)),<-Ee t1.inv t1 (Qd.inv.comp u1.inv),Vk t1,id_comp (Qd.inv.comp u1.inv),Ee UM Qd.inv u1.inv]] at this
   obtain ⟨t,e1,e2⟩:=key p h
   obtain ⟨t1,t2,t3,t4⟩:=c2.rt _ _ e1
   simp only [Jh]
   rw [show (Ce p (l:Int)).toNat=ap p l from rfl,e1]
   exact (ih _ (hp.comp t1.inv) (Fx.div hp t1 hf t2 bq t3)).2 e2
end Go.Proofs.Ytjbdmibbbpdnnaa

namespace Go.Proofs.Ytjbdmibbbpdnnaa
open Go.RowKit
theorem Oe {α:Type} (xs:List α) (i j:Nat) (x d:α):(xs.set i x).getD j d=if i=j/\i<xs.length then x else xs.getD j d:=by
 rw [List.getD_eq_getElem?_getD,List.getElem?_set,List.getD_eq_getElem?_getD]
 by_cases e:i=j
 ·subst e
  by_cases h:i<xs.length
  ·rw [if_pos rfl,if_pos h,if_pos ⟨rfl,h⟩];rfl
  ·rw [if_pos rfl,if_neg h,if_neg (λhh=>h hh.2),List.getElem?_eq_none (by omega)]
 ·rw [if_neg e,if_neg (λhh=>e hh.1)]
theorem Yh.mono {n:Nat} {S S':List Int->Prop} (h: ∀g,S g->S' g) {p:List Int} (hp:Yh n S p):Yh n S' p:=by
 induction hp with
 |id=>exact .id
 |mul _ hg ih=>exact .mul ih (h _ hg)
 |inv _ hg ih=>exact .inv ih (h _ hg)
structure Ry (n l:Nat) (gs:List PO) (row:Row):Prop where
 rl:row.length=n
 r0:row.getD l none=some (upto n)
 rt: ∀y t,row.getD y none=some t->Pm n t/\Fx l t/\ap t l=y/\Gn n gs t
def PG (n l:Nat) (gs:List PO):Prop:= ∀o∈gs,∃g,o=some g/\Pm n g/\Fx l g
structure Ext (n l:Nat) (gs:List PO) (row:Row) (q:List Int) (s':Row×List Int):Prop where
 ok:Ry n l gs s'.1
 mono: ∀y t,row.getD y none=some t->s'.1.getD y none=some t
 phi:s'.2.length+Lr s'.1=q.length+Lr row
 pe: ∀y∈q,y∈s'.2
 new: ∀y∈s'.2,y∈q\/ ∃yn:Nat,y=yn/\s'.1.getD yn none≠none
 src: ∀y:Nat,s'.1.getD y none≠none->row.getD y none≠none\/(y:Int)∈s'.2
theorem Ext.refl {n l:Nat} {gs:List PO} {row:Row} {q:List Int} (h:Ry n l gs row):Ext n l gs row q (row,q):=⟨h,λ_ _ h=>h,rfl,λ_ h=>h,λ_ h=> .inl h,λ_ h=> .inl h⟩
theorem aB {a b:Row} (h: ∀y t,a.getD y none=some t->b.getD y none=some t) {y:Nat} (hy:a.getD y none≠none):b.getD y none≠none:=by
 cases e:a.getD y none with
 |none=>exact absurd e hy
 |some t=>rw [h y t e];simp
theorem Ext.trans {n l:Nat} {gs:List PO} {row:Row} {q:List Int} {s1 s2:Row×List Int} (h:Ext n l gs row q s1) (k:Ext n l gs s1.1 s1.2 s2):Ext n l gs row q s2:=by
 refine ⟨k.ok,λy t e=>k.mono y t (h.mono y t e),k.phi.trans h.phi,λy hy=>k.pe y (h.pe y hy),λy hy=>?_,λy hy=>?_⟩
 ·rcases k.new y hy with h1|h1
  ·rcases h.new y h1 with h2|⟨yn,h2,h3⟩
   ·exact .inl h2
   ·exact .inr ⟨yn,h2,aB k.mono h3⟩
  ·exact .inr h1
 ·rcases k.src y hy with h1|h1
  ·exact (h.src y h1).imp id λh2=>k.pe _ h2
  ·exact .inr h1
theorem FM {row:Row} {i:Nat} {t:List Int} (h:row.getD i none=none) (hi:i<row.length):Lr (row.set i (some t))+1=Lr row:=by
 unfold Lr
 have e:row[i]=none:=by
  rw [List.getD_eq_getElem?_getD,List.getElem?_eq_getElem hi] at h
  exact h
 have h1:=List.countP_set (p:= λo:PO=>o.isNone) (l:=row) (i:=i) (a:=some t) hi
 have nq:0<row.countP (·.isNone):=List.countP_pos_iff.2 ⟨row[i],List.getElem_mem hi,by rw [e];rfl⟩
 rw [h1,e]
 simp
 omega
theorem SF {n l:Nat} {gs:List PO} (bq:l<n) (hg:PG n l gs) {row:Row} {q:List Int} (h:Ry n l gs row) {x:Nat} {t:List Int} (hx:row.getD x none=some t) {g:List Int} (ho:some g∈gs):
  Ext n l gs row q (Tp (x:Int) (row,q) (some g))/\(Tp (x:Int) (row,q) (some g)).1.getD (ap g x) none≠none:=by
 obtain ⟨g',e,Qd,WC⟩:=hg _ ho
 cases e
 obtain ⟨t1,t2,t3,t4⟩:=h.rt _ _ hx
 have CW:x<n:=by rw [<-h.rl];exact m5 hx
 obtain ⟨a1,a2⟩:=Qd.Ss CW
 unfold Tp
 simp only [Option.getD_some,a1,Int.toNat_natCast]
 cases e:row.getD (ap g x) none with
 |some u=>exact ⟨Ext.refl h,by simp only;rw [e];simp⟩
 |none=>
  simp only [hx,Option.getD_some]
  have hl:ap g x<row.length:=by rw [h.rl];exact a2
  have hS:BK n λg=>some g∈gs:=⟨⟨t1.n1,t1.n2⟩,λg Zv=>by obtain ⟨g',e,h1,_⟩:=hg _ Zv;cases e;exact h1⟩
  have Ae: ∀y,(row.set (ap g x) (some (Aa t g))).getD y none=if ap g x=y/\ap g x<row.length then some (Aa t g) else row.getD y none:= λy=>Oe _ _ _ _ _
  have Ep: ∀y u,row.getD y none=some u->ap g x≠y:= λy u hu e'=>by rw [<-e',e] at hu;cases hu
  refine ⟨⟨⟨by simp [h.rl],?_,λy u hu=>?_⟩,λy u hu=>?_,?_,λy hy=>List.mem_append_left _ hy,λy hy=>?_,λy hy=>?_⟩,?_⟩
  ·rw [Ae,if_neg (λhh=>Ep l _ h.r0 hh.1)];exact h.r0
  ·rw [Ae] at hu
   split at hu
   ·rename_i hc
    cases hu
    exact ⟨t1.comp Qd,Fx.comp t1 Qd t2 WC (by omega),by rw [Ga t1 Qd bq,t3];exact hc.1, .mul t4 ho⟩
   ·exact h.rt y u hu
  ·show (row.set (ap g x) (some (Aa t g))).getD y none=some u
   rw [Ae,if_neg (λhh=>Ep y u hu hh.1)];exact hu
  ·have:=FM (t:=Aa t g) e hl
   simp only [List.length_append,List.length_cons,List.length_nil]
   omega
  ·rcases List.mem_append.1 hy with hy|hy
   ·exact .inl hy
   ·simp only [List.mem_singleton] at hy
    exact .inr ⟨ap g x,hy,by show (row.set (ap g x) (some (Aa t g))).getD (ap g x) none≠none;rw [Ae,if_pos ⟨rfl,hl⟩];simp⟩
  ·have hy:(row.set (ap g x) (some (Aa t g))).getD y none≠none:=hy
   rw [Ae] at hy
   split at hy
   ·rename_i hc
    exact .inr (by show (y:Int)∈q++ [(ap g x:Int)];rw [<-hc.1];simp)
   ·exact .inl hy
  ·show (row.set (ap g x) (some (Aa t g))).getD (ap g x) none≠none
   rw [Ae,if_pos ⟨rfl,hl⟩];simp
theorem MQ {n l:Nat} {gs:List PO} (bq:l<n) (hg:PG n l gs): ∀(TM:List PO) {row:Row} {q:List Int},(∀o∈TM,o∈gs)->Ry n l gs row-> ∀ {x:Nat} {t:List Int},row.getD x none=some t->
  Ext n l gs row q (Tf (x:Int) TM (row,q))/\ ∀g,some g∈TM->(Tf (x:Int) TM (row,q)).1.getD (ap g x) none≠none
 | [],row,q,_,h,x,t,hx=>⟨Ext.refl h,λg hg=>by cases hg⟩
 |o::TM,row,q,hs,h,x,t,hx=>by
  obtain ⟨g,rfl,_,_⟩:=hg o (hs o (by simp))
  obtain ⟨e1,e2⟩:=SF (q:=q) bq hg h hx (hs (some g) (by simp))
  obtain ⟨f1,f2⟩:=MQ bq hg TM (q:=(Tp (x:Int) (row,q) (some g)).2) (λo ho=>hs o (by simp [ho])) e1.ok (e1.mono x t hx)
  have hb:Tf (x:Int) (some g::TM) (row,q)=Tf (x:Int) TM ((Tp (x:Int) (row,q) (some g)).1,(Tp (x:Int) (row,q) (some g)).2):=rfl
  rw [hb]
  refine ⟨e1.trans f1,λg' Zv=>?_⟩
  rcases List.mem_cons.1 Zv with e|Zv
  ·cases e;exact aB f1.mono e2
  ·exact f2 g' Zv
def DU (gs:List PO) (q:List Int) (row:Row):Prop:=
 (∀y∈q,∃yn:Nat,y=yn/\row.getD yn none≠none)/\ ∀y:Nat,row.getD y none≠none->(y:Int)∈q\/ ∀g,some g∈gs->row.getD (ap g y) none≠none
theorem zQ {n l:Nat} {gs:List PO} (bq:l<n) (hg:PG n l gs) {x:Int} {q:List Int} {row:Row} (h:Ry n l gs row) (hq:DU gs (x::q) row):
  Ext n l gs row q (Tf x gs (row,q))/\DU gs (Tf x gs (row,q)).2 (Tf x gs (row,q)).1/\ ∃(xn:Nat) (t:List Int),x=xn/\row.getD xn none=some t:=by
 obtain ⟨xn,rfl,hx⟩:=hq.1 x (by simp)
 cases e:row.getD xn none with
 |none=>exact absurd e hx
 |some t=>
  obtain ⟨e1,e2⟩:=MQ bq hg gs (q:=q) (λo ho=>ho) h e
  refine ⟨e1,⟨λy hy=>?_,λy hy=>?_⟩,xn,t,rfl,e⟩
  ·rcases e1.new y hy with h1|h1
   ·obtain ⟨yn,h2,h3⟩:=hq.1 y (by simp [h1])
    exact ⟨yn,h2,aB e1.mono h3⟩
   ·exact h1
  ·rcases e1.src y hy with h1|h1
   ·rcases hq.2 y h1 with h2|h2
    ·rcases List.mem_cons.1 h2 with h2|h2
     ·have:y=xn:=by omega
      subst this
      exact .inr λg Zv=>e2 g Zv
     ·exact .inl (e1.pe _ h2)
    ·exact .inr λg Zv=>aB e1.mono (h2 g Zv)
   ·exact .inl h1
theorem MV {n l:Nat} {gs:List PO} (bq:l<n) (hg:PG n l gs): ∀(f:Nat) (q:List Int) (row:Row),q.length+Lr row<=f->Ry n l gs row->DU gs q row->
  Ry n l gs (Sw gs f q row)/\(∀y t,row.getD y none=some t->(Sw gs f q row).getD y none=some t)/\ ∀y t g,(Sw gs f q row).getD y none=some t->some g∈gs->(Sw gs f q row).getD (ap g y) none≠none
 |0,q,row,hf,h,hq=>by
  have:q= []:=List.eq_nil_of_length_eq_zero (by omega)
  subst this
  exact ⟨h,λ_ _ h=>h,λy t g e Zv=>by
   rcases hq.2 y (by rw [show row.getD y none=some t from e];simp) with h1|h1
   ·cases h1
   ·exact h1 g Zv⟩
 |f+1,[],row,hf,h,hq=>⟨h,λ_ _ h=>h,λy t g e Zv=>by
   rcases hq.2 y (by rw [show row.getD y none=some t from e];simp) with h1|h1
   ·cases h1
   ·exact h1 g Zv⟩
 |f+1,x::q,row,hf,h,hq=>by
  obtain ⟨e1,e2,_⟩:=zQ bq hg h hq
  obtain ⟨r1,r2,r3⟩:=MV bq hg f _ _ (by have:=e1.phi;simp only [List.length_cons] at hf;omega) e1.ok e2
  exact ⟨r1,λy t e=>r2 y t (e1.mono y t e),r3⟩
theorem Nk {row:Row} {y:Int} :y∈Hz row↔ ∃yn:Nat,y=yn/\row.getD yn none≠none:=by
 unfold Hz
 rw [List.mem_filter,Ir]
 constructor
 ·rintro ⟨h1,h2⟩
  exact ⟨y.toNat,by omega,Option.ne_none_iff_isSome.2 h2⟩
 ·rintro ⟨yn,rfl,h⟩
  obtain ⟨t,ht⟩:=Option.ne_none_iff_exists'.1 h
  exact ⟨by have:=m5 ht;omega,by simpa using Option.ne_none_iff_isSome.1 h⟩
theorem tF (row:Row):(Hz row).length<=row.length:=by
 unfold Hz
 refine Nat.le_trans (List.length_filter_le _ _) (by simp [upto])
theorem x7 (row:Row):Lr row<=row.length:=List.countP_le_length
theorem xb {n l:Nat} {gs:List PO} (bq:l<n) (h2:n<=20) (hg:PG n l gs) {row:Row} (h:Ry n l gs row):
  Ry n l gs (Ru gs row)/\(∀y t,row.getD y none=some t->(Ru gs row).getD y none=some t)/\ ∀y t g,(Ru gs row).getD y none=some t->some g∈gs->(Ru gs row).getD (ap g y) none≠none:=
 MV bq hg 100 _ _ (by have:=tF row;have:=x7 row;have:=h.rl;omega) h ⟨λy hy=>Nk.1 hy,λy hy=> .inl (Nk.2 ⟨y,rfl,hy⟩)⟩
theorem vF {n l:Nat} {gs:List PO} (bq:l<n) (hg:PG n l gs): ∀(f:Nat) (q:List Int) (row:Row),q.length+Lr row<=f->Ry n l gs row->DU gs q row->Sw gs f q row=Sw gs (q.length+Lr row) q row
 |0,q,row,hf,_,_=>by
  have:q.length+Lr row=0:=by omega
  rw [this]
 |f+1,[],row,hf,_,_=>by
  cases h:([]:List Int).length+Lr row with
  |zero=>rfl
  |succ m=>rfl
 |f+1,x::q,row,hf,h,hq=>by
  obtain ⟨e1,e2,_⟩:=zQ bq hg h hq
  have QP:=e1.phi
  have:(x::q).length+Lr row=(q.length+Lr row)+1:=by simp only [List.length_cons];omega
  rw [this]
  simp only [Sw]
  rw [vF bq hg f _ _ (by simp only [List.length_cons] at hf;omega) e1.ok e2,QP]
def vL (row:Row):Nat:=row.countP (·.isSome)
theorem qI: ∀(a b:Row),a.length=b.length->(∀y t,a.getD y none=some t->b.getD y none=some t)->vL a<=vL b/\(vL a=vL b->a=b)
 | [],[],_,_=>⟨Nat.le_refl _,λ_=>rfl⟩
 | [],_::_,h,_=>by simp at h
 |_::_,[],h,_=>by simp at h
 |x::a,y::b,h,hm=>by
  obtain ⟨h1,h2⟩:=qI a b (by simpa using h) λi t e=>by simpa using hm (i+1) t (by simpa using e)
  unfold vL at h1 h2⊢
  cases x with
  |none=>
   cases y with
   |none=>simp only [List.countP_cons];exact ⟨by simpa using h1,λe=>by rw [h2 (by simpa using e)]⟩
   |some u=>
    simp only [List.countP_cons,Option.isSome_none,Option.isSome_some]
    simp only [if_true,Bool.false_eq_true,if_false]
    exact ⟨by omega,λe=>by omega⟩
  |some t=>
   have:=hm 0 t (by simp)
   simp only [List.getD_cons_zero] at this
   subst this
   simp only [List.countP_cons]
   exact ⟨by simpa using h1,λe=>by rw [h2 (by simpa using e)]⟩
def gw (T:Dd):Nat->Nat->Nat
 |0,_=>0
 |k+1,l=>vL (T.getD l [])+gw T k (l+1)
def GBf:Nat->Nat->Dd×Dd->Prop
 |0,_,_=>True
 |k+1,l,s=>GBf k (l+1) s/\(s.1.getD l []).length<=gw s.2 (k+1) l
structure Xn (l0:Nat) (s s':Dd×Dd):Prop where
 Acp:s'.1.length=s.1.length
 nB:s'.2.length=s.2.length
 low: ∀i,i<l0->s'.1.getD i []=s.1.getD i []/\s'.2.getD i []=s.2.getD i []
 CD: ∀i o,o∈s.1.getD i []->o∈s'.1.getD i []
 NQ: ∀i y t,(s.2.getD i []).getD y none=some t->(s'.2.getD i []).getD y none=some t
 YN: ∀i,(s'.2.getD i []).length=(s.2.getD i []).length
theorem Xn.refl (l0:Nat) (s:Dd×Dd):Xn l0 s s:=⟨rfl,rfl,λ_ _=>⟨rfl,rfl⟩,λ_ _ h=>h,λ_ _ _ h=>h,λ_=>rfl⟩
theorem Xn.trans {l0 l1:Nat} {a b c:Dd×Dd} (h:Xn l0 a b) (k:Xn l1 b c) (hl:l0<=l1):Xn l0 a c:=
 ⟨k.Acp.trans h.Acp,k.nB.trans h.nB,λi hi=>⟨(k.low i (by omega)).1.trans (h.low i hi).1,(k.low i (by omega)).2.trans (h.low i hi).2⟩,λi o ho=>k.CD i o (h.CD i o ho),λi y t e=>k.NQ i y t (h.NQ i y t e),λi=>(k.YN i).trans (h.YN i)⟩
theorem Xn.Fa {l0 l1:Nat} {a b:Dd×Dd} (h:Xn l1 a b) (hl:l0<=l1):Xn l0 a b:=(Xn.refl l0 a).trans h hl
theorem cI {T T':Dd} : ∀(k l:Nat) (p:List Int),(∀i,l<=i->i<l+k->T'.getD i []=T.getD i [])->Jh T' k l p=Jh T k l p
 |0,_,_,_=>rfl
 |k+1,l,p,h=>by
  simp only [Jh]
  rw [h l (Nat.le_refl _) (by omega)]
  split
  ·rfl
  ·exact cI k (l+1) _ λi h1 h2=>h i (by omega) (by omega)
theorem fR {n:Nat} {s s':Dd×Dd} : ∀(k l:Nat),(∀i,l<=i->s'.1.getD i []=s.1.getD i []/\s'.2.getD i []=s.2.getD i [])->fG n k l s->fG n k l s'
 |0,l,h,hc=>by simp only [fG] at hc⊢;rw [(h l (Nat.le_refl _)).1];exact hc
 |k+1,l,h,hc=>by
  simp only [fG] at hc⊢
  obtain ⟨c1,c2,c3⟩:=hc
  refine ⟨fR k (l+1) (λi hi=>h i (by omega)) c1,?_,?_⟩
  ·rw [(h l (Nat.le_refl _)).1,(h l (Nat.le_refl _)).2]
   have e:(λq=>Jh s'.2 k (l+1) q=true)= λq=>Jh s.2 k (l+1) q=true:=funext λq=>by rw [cI k (l+1) q λi h1 h2=>(h i (by omega)).2]
   rw [e];exact c2
  ·rw [(h (l+1) (by omega)).1,(h l (Nat.le_refl _)).1];exact c3
theorem rE {T T':Dd} : ∀(k l:Nat),(∀i,l<=i->T'.getD i []=T.getD i [])->gw T' k l=gw T k l
 |0,_,_=>rfl
 |k+1,l,h=>by simp only [gw];rw [h l (Nat.le_refl _),rE k (l+1) λi hi=>h i (by omega)]
theorem mX {s s':Dd×Dd} : ∀(k l:Nat),(∀i,l<=i->s'.1.getD i []=s.1.getD i []/\s'.2.getD i []=s.2.getD i [])->GBf k l s->GBf k l s'
 |0,_,_,_=>trivial
 |k+1,l,h,hg=>⟨mX k (l+1) (λi hi=>h i (by omega)) hg.1,by
  rw [(h l (Nat.le_refl _)).1,rE (k+1) l λi hi=>(h i hi).2];exact hg.2⟩
theorem xq {T T':Dd} (hl: ∀i,(T'.getD i []).length=(T.getD i []).length) (hm: ∀i y t,(T.getD i []).getD y none=some t->(T'.getD i []).getD y none=some t):
  ∀(k l:Nat),gw T k l<=gw T' k l/\(gw T k l=gw T' k l-> ∀i,l<=i->i<l+k->T'.getD i []=T.getD i [])
 |0,l=>⟨Nat.le_refl _,λ_ i h1 h2=>by omega⟩
 |k+1,l=>by
  obtain ⟨h1,h2⟩:=xq hl hm k (l+1)
  obtain ⟨h3,h4⟩:=qI (T.getD l []) (T'.getD l []) (hl l).symm (hm l)
  simp only [gw]
  refine ⟨by omega,λe i g1 g2=>?_⟩
  by_cases hi:i=l
  ·subst hi;exact (h4 (by omega)).symm
  ·exact h2 (by omega) i (by omega) (by omega)
def V (n k l:Nat) (s:Dd×Dd):Prop:=s.1.length=n/\s.2.length=n/\fG n k l s/\GBf k l s
structure Aae (n k l:Nat) (s:Dd×Dd) (p:List Int) (s':Dd×Dd):Prop where
 v:V n k l s'
 grow:Xn l s s'
 Acm:Gn n (s'.1.getD l []) p
 gens: ∀o∈s'.1.getD l [],o∈s.1.getD l []\/o=some p
theorem OZ.row {n l:Nat} {gs:List PO} {row:Row} {H:List Int->Prop} (h:OZ n l gs row H):Ry n l gs row:=⟨h.rl,h.r0,h.rt⟩
theorem dw {row:Row} {y:Nat} {t g t':List Int} (h1:row.getD y none=some t) (h2:row.getD (ap g y) none=some t'):Nf row (y:Int) (some g)=Aa (Aa t g) (An t'):=by
 unfold Nf
 rw [Int.toNat_natCast,h1,Option.getD_some,Option.getD_some,show (Ce g (y:Int)).toNat=ap g y from rfl,h2,Option.getD_some]
theorem jQ {n l:Nat} {gs:List PO} {row:Row} (hg:PG n l gs) (_h:Ry n l gs row) (hc: ∀y t g,row.getD y none=some t->some g∈gs->row.getD (ap g y) none≠none) {q:List Int} :
  q∈bA row gs↔ ∃(y:Nat) (t g t':List Int),row.getD y none=some t/\some g∈gs/\row.getD (ap g y) none=some t'/\q=Aa (Aa t g) (An t'):=by
 unfold bA
 rw [List.mem_flatMap]
 constructor
 ·rintro ⟨y,hy,hq⟩
  obtain ⟨o,ho,rfl⟩:=List.mem_map.1 hq
  obtain ⟨yn,rfl,UR⟩:=Nk.1 hy
  obtain ⟨t,ht⟩:=Option.ne_none_iff_exists'.1 UR
  obtain ⟨g,rfl,Qd,_⟩:=hg o ho
  obtain ⟨t',mb⟩:=Option.ne_none_iff_exists'.1 (hc yn t g ht ho)
  exact ⟨yn,t,g,t',ht,ho,mb,dw ht mb⟩
 ·rintro ⟨y,t,g,t',h1,h2,h3,rfl⟩
  obtain ⟨g',e,Qd,_⟩:=hg _ h2
  cases e
  exact ⟨(y:Int),Nk.2 ⟨y,rfl,by rw [h1];simp⟩,List.mem_map.2 ⟨some g,h2,dw h1 h3⟩⟩
theorem sm {n:Nat} (h1:1<=n) (h2:n<=20): ∀(k l:Nat) (p:List Int) (s:Dd×Dd),l+k=n->V n k l s->Pm n p->Fx l p->Aae n k l s p (Dx k l p s)
 |0,l,p,s,hk,hv,hp,hf=>by
  have hl:l=n:=by omega
  subst hl
  exact ⟨hv,Xn.refl _ _,by rw [hf.all hp];exact .id,λo ho=> .inl ho⟩
 |k+1,l,p,s,hk,hv,hp,hf=>by
  have bq:l<n:=by omega
  obtain ⟨v1,v2,hc,IM⟩:=hv
  have fZ:=hc
  obtain ⟨c1,c2,c3⟩:=hc
  unfold Dx
  by_cases hh:Jh s.2 (k+1) l p=true
  ·rw [if_pos hh]
   exact ⟨⟨v1,v2,fZ,IM⟩,Xn.refl _ _,(iq h1 h2 (k+1) l s hk fZ p hp hf).1 hh,λo ho=> .inl ho⟩
  rw [if_neg hh]
  generalize CJ:s.1.getD l []++ [some p]=gs
  have Zb:some p∈gs:=by rw [<-CJ];simp
  have Qq: ∀o∈s.1.getD l [],o∈gs:= λo ho=>by rw [<-CJ];exact List.mem_append_left _ ho
  have hg:PG n l gs:= λo ho=>by
   rw [<-CJ] at ho
   rcases List.mem_append.1 ho with ho|ho
   ·exact c2.pg o ho
   ·rw [List.mem_singleton] at ho;exact ⟨p,ho,hp,hf⟩
  have Aby:Ry n l gs (s.2.getD l []):=⟨c2.rl,c2.r0,λy t e=>⟨(c2.rt y t e).1,(c2.rt y t e).2.1,(c2.rt y t e).2.2.1,(c2.rt y t e).2.2.2.mono λg hg=>Qq _ hg⟩⟩
  obtain ⟨r1,r2,r3⟩:=xb bq h2 hg Aby
  generalize hR:Ru gs (s.2.getD l [])=R at r1 r2 r3
  have hS:BK n λg=>some g∈gs:=⟨⟨h1,h2⟩,λg Zv=>by obtain ⟨g',e,h,_⟩:=hg _ Zv;cases e;exact h⟩
  have RZ: ∀i,((s.1.set l gs).getD i []=if i=l then gs else s.1.getD i [])/\(s.2.set l R).getD i []=if i=l then R else s.2.getD i []:= λi=>by
   rw [Oe,Oe]
   by_cases e:l=i
   ·subst e;rw [if_pos ⟨rfl,by omega⟩,if_pos rfl,if_pos ⟨rfl,by omega⟩,if_pos rfl];exact ⟨rfl,rfl⟩
   ·rw [if_neg (λhh=>e hh.1),if_neg (Ne.symm e),if_neg (λhh=>e hh.1),if_neg (Ne.symm e)];exact ⟨rfl,rfl⟩
  have UQ: ∀i,l+1<=i->(s.1.set l gs).getD i []=s.1.getD i []/\(s.2.set l R).getD i []=s.2.getD i []:= λi hi=>by
   rw [(RZ i).1,(RZ i).2,if_neg (by omega),if_neg (by omega)];exact ⟨rfl,rfl⟩
  have ma:V n k (l+1) (s.1.set l gs,s.2.set l R):=⟨by simpa using v1,by simpa using v2,fR k (l+1) UQ c1,mX k (l+1) UQ IM.1⟩
  have WE:Xn l s (s.1.set l gs,s.2.set l R):=by
   refine ⟨by simp,by simp,λi hi=>?_,λi o ho=>?_,λi y t e=>?_,λi=>?_⟩
   ·rw [(RZ i).1,(RZ i).2,if_neg (by omega),if_neg (by omega)];exact ⟨rfl,rfl⟩
   ·rw [(RZ i).1]
    split
    ·rename_i hi;subst hi;exact Qq o ho
    ·exact ho
   ·rw [(RZ i).2]
    split
    ·rename_i hi;subst hi;exact r2 y t e
    ·exact e
   ·rw [(RZ i).2]
    split
    ·rename_i hi;subst hi;rw [r1.rl,c2.rl]
    ·rfl
  have hq: ∀q∈bA R gs,Pm n q/\Fx (l+1) q/\Gn n gs q:= λq hq=>by
   obtain ⟨y,t,g,t',e1,e2,e3,rfl⟩:=(jQ hg r1 r3).1 hq
   obtain ⟨t1,t2,t3,t4⟩:=r1.rt _ _ e1
   obtain ⟨u1,u2,u3,u4⟩:=r1.rt _ _ e3
   obtain ⟨g',e,Qd,WC⟩:=hg _ e2
   cases e
   exact ⟨(t1.comp Qd).comp u1.inv,Fx.div (t1.comp Qd) u1 (Fx.comp t1 Qd t2 WC (by omega)) u2 bq (by rw [u3,Ga t1 Qd bq,t3]),Yh.comp hS (.mul t4 e2) (Yh.ta hS u4)⟩
  have fold: ∀(qs:List (List Int)) (s1:Dd×Dd),(∀q∈qs,Pm n q/\Fx (l+1) q)->V n k (l+1) s1->
    V n k (l+1) (qs.foldl (λs q=>Dx k (l+1) q s) s1)/\Xn (l+1) s1 (qs.foldl (λs q=>Dx k (l+1) q s) s1)/\
     (∀q∈qs,Gn n ((qs.foldl (λs q=>Dx k (l+1) q s) s1).1.getD (l+1) []) q)/\ ∀o∈(qs.foldl (λs q=>Dx k (l+1) q s) s1).1.getD (l+1) [],o∈s1.1.getD (l+1) []\/ ∃q∈qs,o=some q:=by
   intro qs
   induction qs with
   |nil=>exact λs1 _ hv=>⟨hv,Xn.refl _ _,(λq hq=>by cases hq),λo ho=>Or.inl ho⟩
   |cons q qs ih=>
    intro s1 QR hv
    have ha:=sm h1 h2 k (l+1) q s1 (by omega) hv (QR q (by simp)).1 (QR q (by simp)).2
    obtain ⟨g1,g2,g3,g4⟩:=ih (Dx k (l+1) q s1) (λq' eX=>QR q' (by simp [eX])) ha.v
    simp only [List.foldl_cons]
    refine ⟨g1,ha.grow.trans g2 (Nat.le_refl _),λq' eX=>?_,λo ho=>?_⟩
    ·rcases List.mem_cons.1 eX with rfl|eX
     ·exact ha.Acm.mono λg hg=>g2.CD _ _ hg
     ·exact g3 q' eX
    ·rcases g4 o ho with h|⟨q',eX,h⟩
     ·rcases ha.gens o h with h|h
      ·exact .inl h
      ·exact .inr ⟨q,by simp,h⟩
     ·exact .inr ⟨q',by simp [eX],h⟩
  obtain ⟨f1,f2,f3,f4⟩:=fold (bA R gs) (s.1.set l gs,s.2.set l R) (λq h=>⟨(hq q h).1,(hq q h).2.1⟩) ma
  generalize (bA R gs).foldl (λs q=>Dx k (l+1) q s) (s.1.set l gs,s.2.set l R)=s' at f1 f2 f3 f4
  obtain ⟨w1,w2,w3,w4⟩:=f1
  have el1:s'.1.getD l []=gs:=by rw [(f2.low l (by omega)).1,(RZ l).1,if_pos rfl]
  have el2:s'.2.getD l []=R:=by rw [(f2.low l (by omega)).2,(RZ l).2,if_pos rfl]
  have KF:=WE.trans f2 (by omega)
  have Aha:OZ n l gs R (λq=>Jh s'.2 k (l+1) q=true):=⟨hg,r1.rl,r1.r0,r1.rt,r3,λy t g t' e1 e2 e3=>by
   have hm:=(jQ hg r1 r3).2 ⟨y,t,g,t',e1,e2,e3,rfl⟩
   exact (iq h1 h2 k (l+1) s' (by omega) w3 _ (hq _ hm).1 (hq _ hm).2.1).2 (f3 _ hm)⟩
  have TW:fG n (k+1) l s':=⟨w3,by rw [el1,el2];exact Aha,λg Zv=>by
   rw [el1]
   rcases f4 _ Zv with h|⟨q,eX,h⟩
   ·rw [(UQ (l+1) (Nat.le_refl _)).1] at h
    exact (c3 g h).mono λg hg=>Qq _ hg
   ·cases h;exact (hq _ eX).2.2⟩
  have Ns:Gn n (s'.1.getD l []) p:=by rw [el1];exact Yh.one hS Zb
  refine ⟨⟨w1,w2,TW,w4,?_⟩,KF,Ns,λo ho=>?_⟩
  ·have hold:=IM.2
   obtain ⟨p1,p2⟩:=xq KF.YN KF.NQ (k+1) l
   have Ep:gw s.2 (k+1) l≠gw s'.2 (k+1) l:= λe=>by
    have:=cI (k+1) l p (p2 e)
    rw [(iq h1 h2 (k+1) l s' hk TW p hp hf).2 Ns] at this
    exact hh this.symm
   rw [el1,<-CJ,List.length_append,List.length_singleton]
   omega
  ·rw [el1,<-CJ] at ho
   rcases List.mem_append.1 ho with ho|ho
   ·exact .inl ho
   ·rw [List.mem_singleton] at ho;exact .inr ho
end Go.Proofs.Ytjbdmibbbpdnnaa

namespace Go.Proofs.Ytjbdmibbbpdnnaa
open Go.RowKit
theorem ML {n l:Nat} {gs:List PO} {R:Row} (bq:l<n) (hg:PG n l gs) (r1:Ry n l gs R) (r3: ∀y t g,R.getD y none=some t->some g∈gs->R.getD (ap g y) none≠none): ∀q∈bA R gs,Pm n q/\Fx (l+1) q:=by
 intro q hq
 obtain ⟨y,t,g,t',e1,e2,e3,rfl⟩:=(jQ hg r1 r3).1 hq
 obtain ⟨t1,t2,t3,t4⟩:=r1.rt _ _ e1
 obtain ⟨u1,u2,u3,u4⟩:=r1.rt _ _ e3
 obtain ⟨g',e,Qd,WC⟩:=hg _ e2
 cases e
 exact ⟨(t1.comp Qd).comp u1.inv,Fx.div (t1.comp Qd) u1 (Fx.comp t1 Qd t2 WC (by omega)) u2 bq (by rw [u3,Ga t1 Qd bq,t3])⟩
theorem V.lower {n k l:Nat} {s:Dd×Dd} (h:V n (k+1) l s) (gs:List PO) (R:Row):V n k (l+1) (s.1.set l gs,s.2.set l R):=by
 obtain ⟨v1,v2,hc,IM⟩:=h
 have UQ: ∀i,l+1<=i->(s.1.set l gs).getD i []=s.1.getD i []/\(s.2.set l R).getD i []=s.2.getD i []:= λi hi=>by
  rw [Oe,Oe,if_neg (by omega),if_neg (by omega)];exact ⟨rfl,rfl⟩
 exact ⟨by simpa using v1,by simpa using v2,fR k (l+1) UQ hc.1,mX k (l+1) UQ IM.1⟩
theorem BZ {n k l:Nat} (h1:1<=n) (h2:n<=20) (hk:l+k=n): ∀(qs:List (List Int)) (s1:Dd×Dd),(∀q∈qs,Pm n q/\Fx l q)->V n k l s1->
  V n k l (qs.foldl (λs q=>Dx k l q s) s1)/\Xn l s1 (qs.foldl (λs q=>Dx k l q s) s1)
 | [],s1,_,hv=>⟨hv,Xn.refl _ _⟩
 |q::qs,s1,QR,hv=>by
  have ha:=sm h1 h2 k l q s1 hk hv (QR q (by simp)).1 (QR q (by simp)).2
  obtain ⟨g1,g2⟩:=BZ h1 h2 hk qs (Dx k l q s1) (λq' eX=>QR q' (by simp [eX])) ha.v
  exact ⟨g1,ha.grow.trans g2 (Nat.le_refl _)⟩
theorem MO {n:Nat} {s:Dd×Dd} : ∀(k l:Nat),fG n k l s->gw s.2 k l<=n*k
 |0,_,_=>by simp [gw]
 |k+1,l,hc=>by
  have h1:=MO k (l+1) hc.1
  have h2:vL (s.2.getD l [])<=n:=by
   have:=hc.2.1.rl
   have h3:vL (s.2.getD l [])<=(s.2.getD l []).length:=List.countP_le_length
   omega
  simp only [gw]
  rw [Nat.mul_succ]
  omega
theorem PT {n k l:Nat} {s:Dd×Dd} (h2:n<=20) (hk:l+(k+1)=n) (h:V n (k+1) l s):(s.1.getD l []).length<=400:=by
 have h3:=h.2.2.2.2
 have h4:=MO (k+1) l h.2.2.1
 have h5:n*(k+1)<=20*20:=Nat.mul_le_mul h2 (by omega)
 omega
theorem V.lvl {n k l:Nat} {s:Dd×Dd} (h:V n (k+1) l s):OZ n l (s.1.getD l []) (s.2.getD l []) (λq=>Jh s.2 k (l+1) q=true):=h.2.2.1.2.1
theorem V.pg {n k l:Nat} {s:Dd×Dd} (h:V n (k+1) l s) {p:List Int} (hp:Pm n p) (hf:Fx l p):PG n l (s.1.getD l []++ [some p]):= λo ho=>by
 rcases List.mem_append.1 ho with ho|ho
 ·exact h.lvl.pg o ho
 ·rw [List.mem_singleton] at ho;exact ⟨p,ho,hp,hf⟩
theorem V.Aii {n k l:Nat} {s:Dd×Dd} (h:V n (k+1) l s) (p:List Int):Ry n l (s.1.getD l []++ [some p]) (s.2.getD l []):=
 ⟨h.lvl.rl,h.lvl.r0,λy t e=>⟨(h.lvl.rt y t e).1,(h.lvl.rt y t e).2.1,(h.lvl.rt y t e).2.2.1,(h.lvl.rt y t e).2.2.2.mono λ_ hg=>List.mem_append_left _ hg⟩⟩
theorem q6 {α:Type} (xs:List (List α)) (i:Nat) (h:i<xs.length):xs.set i (xs.getD i [])=xs:=by
 refine List.ext_getElem (by simp) λj h1 h2=>?_
 rw [List.getElem_set]
 split
 ·rename_i e;subst e;rw [List.getD_eq_getElem?_getD,List.getElem?_eq_getElem h];rfl
 ·rfl
theorem eS {α:Type} (xs:List (List α)) (i:Nat) (h:i<xs.length) (r:List α):(xs.set i r).getD i []=r:=by
 rw [Oe,if_pos ⟨rfl,h⟩]
end Go.Proofs.Ytjbdmibbbpdnnaa

namespace Go.Proofs.Ytjbdmibbbpdnnaa
open Go.RowKit
noncomputable abbrev Kx:MSpec:=jR [none] [(false, .Ft tLO)] false [none] [.row tI 2] (λx=>List.length x.1<=20) (λx=>((Hz x.1,()),()))
noncomputable abbrev Qz:Spec:=Cz (.pair tL (.pair tL .unit)) tO false true (λx=>(0<x.1.length/\x.1.length<=20)/\Ha x.2.1.length x.1) (λx=>some (Aa x.1 x.2.1))
noncomputable abbrev aR:Spec:=Cz (.pair tL (.pair tL .unit)) tL false false (λx=>x.1.length<=20/\Ha x.2.1.length x.1) (λx=>Aa x.1 x.2.1)
noncomputable abbrev Om:Spec:=Cz (.pair tI .unit) tL false true (λx=>0<=x.1/\x.1<=20) (λx=>upto x.1.toNat)
noncomputable abbrev Xc:Spec:=Cz (.pair tI .unit) tO false true (λx=>1<=x.1/\x.1<=20) (λx=>some (upto x.1.toNat))
abbrev VC:TypeId:=22
structure mh (N L:Nat) (n:Int) (G T:Dd) (l:Int) (p:List Int):Prop where
 n1:1<=N
 n2:N<=20
 en:n=N
 el:l=L
 le:L<=N
 v:V N (N-L) L (G,T)
 pm:Pm N p
 fx:Fx L p
noncomputable abbrev rR:Spec:=Cz (.pair (.ptr uD) (.pair tI (.pair tL .unit))) .bool false true (λx=> ∃N L,mh N L x.1.1 x.1.2.1 x.1.2.2.1 x.2.1 x.2.2.1) (λx=>Jh x.1.2.2.1 (x.1.1-x.2.1).toNat x.2.1.toNat x.2.2.1)
noncomputable abbrev UW:MSpec:= {ptr:=some (179,3),He:= [none,none],ins:= [(false, .Ft tI),(false, .Am tO VC true),(false, .Am tO VC true),(false, .Ft tI),(false, .Ft tO)],Gh:=false,Gj:= [],outs:= [.Ft tI, .Am tO VC false, .Am tO VC false],fn:= λ_=>none,keeps:= [(1,1),(2,2)],Cv:= λx=>x.2.2.2.1.toNat}
noncomputable abbrev Ps (m:Nat):MSpec:=ym UW (λx=>(∃N L q,x.2.2.2.2.1=some q/\mh N L x.1 x.2.1 x.2.2.1 x.2.2.2.1 q)/\(x.1-x.2.2.2.1).toNat<m)
 (λx=>((x.1,(Dx (x.1-x.2.2.2.1).toNat x.2.2.2.1.toNat (x.2.2.2.2.1.getD []) (x.2.1,x.2.2.1)).1,(Dx (x.1-x.2.2.2.1).toNat x.2.2.2.1.toNat (x.2.2.2.2.1.getD []) (x.2.1,x.2.2.1)).2,()),()))
theorem xX (n:Int) (P:List Int->Prop):(((0:Int)<=n/\n<(↑Bp:Int)+(1:Int))/\n=n/\0=0/\(List.replicate n.toNat (Int.ofNat (nat_lit 0))).length=(List.replicate n.toNat (Int.ofNat (nat_lit 0))).length/\Bk (λ(v2:Int×List Int×PUnit) (k3:Int×List Int×PUnit->Prop)=>Br (decide (v2.1<(↑(List.replicate n.toNat (Int.ofNat (nat_lit 0))).length:Int))) (((0:Int)<=v2.1/\v2.1<(↑v2.2.1.length:Int))/\0+v2.1.toNat<v2.2.1.length/\0=0/\v2.2.1.length=(v2.2.1.set (0+v2.1.toNat) v2.1).length/\k3 (IntKind.i64.wrap (v2.1+(1:Int)),v2.2.1.set (0+v2.1.toNat) v2.1,())) (P (List.take v2.2.1.length (List.drop 0 v2.2.1)))) ((0:Int),List.replicate n.toNat (Int.ofNat (nat_lit 0)),PUnit.unit))=fnW Cr (look []) Om Try.f127 (n,()) P:=by kernel_rfl
theorem IC (row:List (Option (List Int))) (P:(List Int×Unit)×Unit->Prop):(0=0/\0=([]:List Int).length/\Bk (λ(v2:Int×List Int×PUnit) (k3:Int×List Int×PUnit->Prop)=>Br (decide (v2.1<(↑row.length:Int))) (∃(y4:Option (List Int)),idx row v2.1=some y4/\Br (!y4.isNone) (0=0/\v2.2.1.length=v2.2.1.length/\v2.2.1.length+(List.take 1 (List.drop 0 [v2.1])).length<=Bp/\0=0/\(v2.2.1++List.take 1 (List.drop 0 [v2.1])).length=(v2.2.1++List.take 1 (List.drop 0 [v2.1])).length/\k3 (IntKind.i64.wrap (v2.1+(1:Int)),v2.2.1++List.take 1 (List.drop 0 [v2.1]),())) (0=0/\v2.2.1.length=v2.2.1.length/\k3 (IntKind.i64.wrap (v2.1+(1:Int)),v2.2.1,()))) (P ((List.take v2.2.1.length (List.drop 0 v2.2.1),()),()))) ((0:Int),[],PUnit.unit))=fnMW Uc (look []) Kx Try.f174 (row,()) P:=by kernel_rfl
theorem Ads (c:Int×List (List (Option (List Int)))×List (List (Option (List Int)))×Unit) (l:Int) (p:List Int) (P:Bool->Prop):(Bk (λ(v4:List Int×Int×PUnit) (k5:List Int×Int×PUnit->Prop)=>Br (decide (v4.2.1<c.1)) (∃(y6:List (Option (List Int))),idx c.2.2.1 v4.2.1=some y6/\ ∃(y7:Int),idx v4.1 v4.2.1=some y7/\ ∃(y8:Option (List Int)),idx y6 y7=some y8/\Br y8.isNone (P false) (∃(y9:List Int),Er.fn (y8.getD [],())=some y9/\ ∃(bh:List Int),aR.fn (v4.1,y9,())=some bh/\k5 (bh,IntKind.i64.wrap (v4.2.1+(1:Int)),()))) (P true)) (p,l,PUnit.unit))=fnW Uc (look [(175,Er),(156,aR)]) rR Try.f183 (c,l,p,()) P:=by kernel_rfl
theorem Sound.loose {P:Program} {f:FuncId} {arg res:Ty} {pre:arg.den->Prop} {val:arg.den->res.den} (h:Sound P f (Go.Proofs.Ytjbdmibbbpdnnaa.Cz arg res false true pre val)):Sound P f (Go.Proofs.Ytjbdmibbbpdnnaa.Cz arg res false false pre val):=
 ⟨h.enter,λw S vs x y h1 h2 h3=>Calls.mono (h.calls w S vs x y h1 h2 h3) λe' w' hr=>by
  obtain ⟨v,g1,g2,g3⟩:=hr
  exact ⟨v,g1,g2,Bd.Fa (S:= λb=>S b\/(true=true/\b<w.heap.size)) g3 λk _ hk=>hk.elim .inl λhh=>absurd (show false=true from hh.1) (by simp)⟩⟩
theorem om:Sound Try.prog 156 aR:=Sound.loose Pv
theorem oo:Sound Try.prog 156 Qz:=Sound.toO Pv λx h=>⟨⟨h.1.2,h.2⟩,λe=>by
 have:=Ob x.1 x.2.1
 rw [e] at this
 have:=h.1.1
 simp only [List.length_nil] at*
 omega⟩
theorem xe (n:Int) (h:0<=n/\n<=20):fnW Cr (look []) Om Try.f127 (n,()) (λ(z:List Int)=>z=upto n.toNat):=by
 refine Eq.mp (xX n _) ⟨⟨by omega,by show n<(4294967296:Int)+1;omega⟩,rfl,rfl,rfl,?_⟩
 refine Aj n.toNat (λv=>v.1) (λj v=>v.2.1.length=n.toNat/\v.2.1.take j=upto j) rfl ⟨by simp,by simp [upto]⟩ ?_
 rintro j ⟨i,ys,⟨⟩⟩ K hj hi ⟨h1,h2⟩ hK
 dsimp only at hi h1 h2⊢
 subst hi
 rw [List.length_replicate]
 simp only [Int.toNat_natCast,Nat.zero_add]
 refine Br.dec (λhl=>⟨⟨by omega,by omega⟩,by omega,trivial,by rw [List.length_set],?_⟩) λhl=>?_
 ·rw [Al (by omega)]
  refine hK (by omega) _ rfl ⟨by rw [List.length_set];exact h1,?_⟩
  rw [List.take_add_one,List.take_set_of_le (by omega),h2,List.getElem?_set_self (by omega),Zs]
  rfl
 ·have:j=ys.length:=by omega
  subst this
  rw [List.take_length] at h2
  rw [List.drop_zero,List.take_length,h2,h1]
theorem bF:Sound Try.prog 127 Om:=
 Sound.Cz Bo Ap mixed Try.func127 (by kernel_rfl) (by kernel_rfl) λx h=>xe x.1 h
theorem SM {n:Int} (h:1<=n/\n<=20):(0<=n/\n<=20)/\upto n.toNat≠ []:=⟨by omega,λe=>by
 have:=congrArg List.length e
 simp [upto] at this
 omega⟩
theorem lP:Sound Try.prog 127 Xc:=Sound.toO bF λ_ h=>SM h
theorem xa {row:Row} {j:Nat} :(upto (j+1)).filter (λy=>(row.getD y.toNat none).isSome)=(upto j).filter (λy=>(row.getD y.toNat none).isSome)++if (row.getD j none).isSome=true then [(j:Int)] else []:=by
 rw [Zs,List.filter_append]
 congr 1
 simp only [List.filter_cons,List.filter_nil,Int.toNat_natCast]
theorem GC (row:List (Option (List Int))) (h:List.length row<=20):fnMW Uc (look []) Kx Try.f174 (row,()) (λ(z:(List Int×Unit)×Unit)=>z=((Hz row,()),())):=by
 refine Eq.mp (IC row _) ⟨rfl,rfl,?_⟩
 refine Aj row.length (λv=>v.1) (λj v=>v.2.1=(upto j).filter (λy=>(row.getD y.toNat none).isSome)) rfl rfl ?_
 rintro j ⟨i,ys,⟨⟩⟩ K hj hi h1 hK
 dsimp only at hi h1⊢
 subst hi
 refine Br.dec (λhl=>?_) λhl=>?_
 ·have hl:j<row.length:=by omega
  have hlen:ys.length<=j:=by rw [h1];refine Nat.le_trans (List.length_filter_le _ _) (by simp [upto])
  have hg:row.getD j none=row[j]:=by rw [List.getD_eq_getElem?_getD,List.getElem?_eq_getElem hl];rfl
  refine ⟨_,Aq hl,Br.of (λhb=>⟨rfl,rfl,?_,rfl,rfl,?_⟩) λhb=>⟨rfl,rfl,?_⟩⟩
  ·show ys.length+1<=4294967296
   omega
  ·rw [Al (by omega)]
   refine hK hl _ rfl ?_
   show ys++ [(j:Int)]=_
   rw [xa,hg,h1,if_pos (by cases e:row[j] with
    |none=>rw [e] at hb;simp at hb
    |some t=>rfl)]
  ·rw [Al (by omega)]
   refine hK hl _ rfl ?_
   show ys=_
   rw [xa,hg,h1,if_neg (by cases e:row[j] with
    |none=>simp
    |some t=>rw [e] at hb;simp at hb),List.append_nil]
 ·have:j=row.length:=by omega
  subst this
  rw [List.drop_zero,List.take_length,h1]
  rfl
theorem fi:Ck Try.prog 174 Kx:=
 Ck.jR kC Ap mixed Try.func174 (by kernel_rfl) (by kernel_rfl) λx h=>GC x.1 h
theorem gW {n:Nat} {s:Dd×Dd} : ∀(k l:Nat),fG n k l s-> ∀i,l<=i->i<l+k->OZ n i (s.1.getD i []) (s.2.getD i []) (λq=>Jh s.2 (l+k-i-1) (i+1) q=true)
 |0,_,_,i,h1,h2=>by omega
 |k+1,l,hc,i,h1,h2=>by
  obtain ⟨c1,c2,_⟩:=hc
  by_cases e:i=l
  ·subst e
   rw [show i+(k+1)-i-1=k by omega]
   exact c2
  ·have:=gW k (l+1) c1 i (by omega) (by omega)
   rwa [show l+1+k-i-1=l+(k+1)-i-1 by omega] at this
theorem wb {α:Type} {xs:List (List α)} {i:Nat} (h:i<xs.length):xs.getD i []=xs[i]:=by
 rw [List.getD_eq_getElem?_getD,List.getElem?_eq_getElem h];rfl
theorem JV {α:Type} {xs:List (Option α)} {i:Nat} (h:i<xs.length):xs.getD i none=xs[i]:=by
 rw [List.getD_eq_getElem?_getD,List.getElem?_eq_getElem h];rfl
theorem Pm.row {n:Nat} {p:List Int} (h:Pm n p):Ha n p:=by
 have:=h.2.row
 rwa [h.1] at this
theorem Ad2 (c:Int×List (List (Option (List Int)))×List (List (Option (List Int)))×Unit) (l:Int) (p:List Int) (h: ∃N L,mh N L c.1 c.2.1 c.2.2.1 l p):
  fnW Uc (look [(175,Er),(156,aR)]) rR Try.f183 (c,l,p,()) (λ(z:Bool)=>z=Jh c.2.2.1 (c.1-l).toNat l.toNat p):=by
 obtain ⟨n,G,T,⟨⟩⟩:=c
 obtain ⟨N,L,h⟩:=h
 obtain ⟨n1,n2,en,el,hle,v,pm,fx⟩:=h
 dsimp only at en el v⊢
 subst en el
 refine Eq.mp (Ads ((N:Int),G,T,()) (L:Int) p _) ?_
 obtain ⟨v1,v2,v3,v4⟩:=v
 dsimp only at v1 v2
 refine ⟨λv=> ∃i:Nat,L<=i/\i<=N/\v.2.1=i/\Pm N v.1/\Fx i v.1/\Jh T (N-i) i v.1=Jh T (N-L) L p,λv=>N-v.2.1.toNat,⟨L,Nat.le_refl _,hle,rfl,pm,fx,rfl⟩,?_⟩
 rintro ⟨p',i',⟨⟩⟩ ⟨i,h1,h2,h3,h4,h5,h6⟩
 dsimp only at h3 h4 h5 h6⊢
 subst h3
 rw [show (((N:Int)-(L:Int)).toNat)=N-L by omega,show ((L:Int)).toNat=L by omega,<-h6]
 refine Br.dec (λhl=>?_) λhl=>?_
 ·have hl:i<N:=by omega
  have Qp:=gW (N-L) L v3 i h1 (by omega)
  obtain ⟨a1,a2⟩:=h4.Ss hl
  have hT:i<T.length:=by omega
  have hlen:T[i].length=N:=by have:=Qp.rl;dsimp only at this;rwa [wb hT] at this
  refine ⟨_,Aq hT,_,Aq (by rw [h4.1];exact hl),?_⟩
  have e1:p'[i]'(by rw [h4.1];exact hl)=(ap p' i:Int):=by rw [<-a1,Ij]
  rw [e1]
  refine ⟨_,Aq (by omega),?_⟩
  have e2:N-i=(N-i-1)+1:=by omega
  have e3:(T.getD i []).getD (Ce p' (i:Int)).toNat none=T[i][ap p' i]'(by omega):=by
   rw [wb hT];exact JV (by show ap p' i<_;omega)
  rw [e2]
  simp only [Jh,e3]
  refine Br.of (λhb=>?_) λhb=>?_
  ·cases e:T[i][ap p' i]'(by omega) with
   |none=>rfl
   |some t=>rw [e] at hb;simp at hb
  ·cases e:T[i][ap p' i]'(by omega) with
   |none=>rw [e] at hb;simp at hb
   |some t=>
    have ht:(T.getD i []).getD (ap p' i) none=some t:=by rw [<-e];exact e3
    obtain ⟨t1,t2,t3,t4⟩:=Qp.rt _ _ ht
    simp only [Option.getD_some]
    refine ⟨_,if_pos ⟨by show t.length<=20;rw [t1.1];exact n2,t1.2.row⟩,_,if_pos ⟨by show p'.length<=20;rw [h4.1];exact n2,by show Ha (An t).length p';rw [mc,t1.1];exact h4.row⟩,⟨i+1,by omega,by omega,Al (by omega),h4.comp t1.inv,Fx.div h4 t1 h5 t2 hl t3,?_⟩,?_⟩
    ·rw [show N-(i+1)=N-i-1 by omega]
    ·show N-(IntKind.i64.wrap ((i:Int)+1)).toNat<N-((i:Int)).toNat
     rw [Al (by omega)]
     omega
 ·rw [show N-i=0 by omega]
  rfl
theorem HB:Sound Try.prog 183 rR:=
 Sound.Cz kC (Ah Pw (Ah om Ap)) mixed Try.func183 (by kernel_rfl) (by kernel_rfl) λx h=>Ad2 x.1 x.2.1 x.2.2.1 h
end Go.Proofs.Ytjbdmibbbpdnnaa

namespace Go.Proofs.Ytjbdmibbbpdnnaa
open Go.RowKit
abbrev uC:Type:=Nat×Nat×Int×List (List (Option (List Int)))×Nat×List (List (Option (List Int)))×Nat×List Int×Int×PUnit
abbrev NF:Type:=Nat×Int×List (List (Option (List Int)))×Nat×List (List (Option (List Int)))×Nat×List Int×Int×PUnit
abbrev NG:Type:=Nat×List (List (Option (List Int)))×Nat×List (List (Option (List Int)))×Nat×List Int×Int×PUnit
abbrev Gw (G:List (List (Option (List Int)))) (l:Int) (p:Option (List Int)) (T:List (List (Option (List Int)))) (y7:Bool) (n:Int):Prop:=0=0/\(G.getD (0+l.toNat) []).length=(G.getD (0+l.toNat) []).length/\(G.getD (0+l.toNat) []).length+(List.take 1 (List.drop 0 [p])).length<=Bp/\((0:Int)<=l/\l<(↑G.length:Int))/\0=0/\(G.getD (0+l.toNat) []++List.take 1 (List.drop 0 [p])).length=(G.getD (0+l.toNat) []++List.take 1 (List.drop 0 [p])).length/\0+l.toNat=0+l.toNat/\ [(0,G.length),(0,G.length),(0,G.length),(0,T.length)]= [(0,G.length),(0,G.length),(0,G.length),(0,T.length)]/\(l,p,l,p,y7,l,l,0+l.toNat,p,List.take 1 (List.drop 0 [p]),0+l.toNat,G.set (0+l.toNat) (G.getD (0+l.toNat) []++List.take 1 (List.drop 0 [p])),min G.length (0+l.toNat),T,T.length,n,())=(l,p,l,p,y7,l,l,0+l.toNat,p,List.take 1 (List.drop 0 [p]),0+l.toNat,G.set (0+l.toNat) (G.getD (0+l.toNat) []++List.take 1 (List.drop 0 [p])),min G.length (0+l.toNat),T,T.length,n,PUnit.unit)
theorem Adk {m:Nat} (n:Int) (G T:List (List (Option (List Int)))) (l:Int) (p:Option (List Int)) (P:(Int×List (List (Option (List Int)))×List (List (Option (List Int)))×Unit)×Unit->Prop):(∃(y7:Bool),rR.fn ((n,List.take G.length (List.drop 0 G),List.take T.length (List.drop 0 T),()),l,p.getD [],())=some y7/\Br y7 ((0=0/\G.length=G.length)/\(0=0/\T.length=T.length)/\(Ps (m+1)).Cv (n,G,T,l,p,())<=G.length/\(Ps (m+1)).Cv (n,G,T,l,p,())<=T.length/\P ((n,G,T,()),())) (((0:Int)<=l/\l<(↑G.length:Int))/\0=0/\(G.getD (0+l.toNat) []).length=(G.getD (0+l.toNat) []).length/\(G.getD (0+l.toNat) []).length+(List.take 1 (List.drop 0 [p])).length<=Bp/\((0:Int)<=l/\l<(↑G.length:Int))/\0=0/\(G.getD (0+l.toNat) []++List.take 1 (List.drop 0 [p])).length=(G.getD (0+l.toNat) []++List.take 1 (List.drop 0 [p])).length/\0+l.toNat=0+l.toNat/\(((0:Int)<=l/\l<(↑T.length:Int))/\ ∃(y8:(List Int×PUnit)×PUnit),Kx.fn (T.getD (0+l.toNat) [],())=some y8/\0=0/\(List.take y8.1.1.length (List.drop 0 y8.1.1)).length=(List.take y8.1.1.length (List.drop 0 y8.1.1)).length/\0=0/\G.length=(G.set (0+l.toNat) (G.getD (0+l.toNat) []++List.take 1 (List.drop 0 [p]))).length/\0=0/\T.length=T.length/\Bk (λ(v9:NG) (k10:NG->Prop)=>Br (decide ((↑v9.2.2.2.2.2.1.length:Int)>(0:Int))) (((0:Int)<=l/\l<(↑v9.2.1.length:Int))/\0=0/\(List.take v9.2.2.2.2.2.1.length (List.drop 0 v9.2.2.2.2.2.1)).length=(List.take v9.2.2.2.2.2.1.length (List.drop 0 v9.2.2.2.2.2.1)).length/\0=0/\v9.2.1.length=v9.2.1.length/\0=0/\v9.2.2.2.1.length=v9.2.2.2.1.length/\Bk (λ(v11:uC) (k12:uC->Prop)=>Br (decide (v11.2.2.1<(↑(v9.2.1.getD (0+l.toNat) []).length:Int))) (((0:Int)<=v11.2.2.1/\v11.2.2.1<(↑(v11.2.2.2.1.getD v11.2.1 []).length:Int))/\((0:Int)<=(0:Int)/\(0:Int)<(↑v11.2.2.2.2.2.2.2.1.length:Int))/\ ∃(Wj:Int),v11.2.2.2.2.2.2.2.1[0+Int.toNat (0:Int)]?=some Wj/\ ∃(Zu:Int),idx (((v11.2.2.2.1.getD v11.2.1 []).getD v11.2.2.1.toNat (none:Option (List Int))).getD []) Wj=some Zu/\((0:Int)<=Zu/\Zu<(↑(v11.2.2.2.2.2.1.getD v11.1 []).length:Int))/\Br ((v11.2.2.2.2.2.1.getD v11.1 []).getD Zu.toNat (none:Option (List Int))).isNone (((0:Int)<=(0:Int)/\(0:Int)<(↑v11.2.2.2.2.2.2.2.1.length:Int))/\ ∃(dO:Int),v11.2.2.2.2.2.2.2.1[0+Int.toNat (0:Int)]?=some dO/\((0:Int)<=dO/\dO<(↑(v11.2.2.2.2.2.1.getD v11.1 []).length:Int))/\ ∃(fD:Option (List Int)),Qz.fn (((v11.2.2.2.2.2.1.getD v11.1 []).getD dO.toNat (none:Option (List Int))).getD [],((v11.2.2.2.1.getD v11.2.1 []).getD v11.2.2.1.toNat (none:Option (List Int))).getD [],())=some fD/\((0:Int)<=Zu/\Zu<(↑(v11.2.2.2.2.2.1.getD v11.1 []).length:Int))/\0=0/\v11.2.2.2.2.2.2.2.1.length=v11.2.2.2.2.2.2.2.1.length/\v11.2.2.2.2.2.2.2.1.length+(List.take 1 (List.drop 0 [Zu])).length<=Bp/\0=0/\(List.take (v11.2.2.2.2.2.2.2.1++List.take 1 (List.drop 0 [Zu])).length (List.drop 0 (v11.2.2.2.2.2.2.2.1++List.take 1 (List.drop 0 [Zu])))).length=(List.take (v11.2.2.2.2.2.2.2.1++List.take 1 (List.drop 0 [Zu])).length (List.drop 0 (v11.2.2.2.2.2.2.2.1++List.take 1 (List.drop 0 [Zu])))).length/\0=0/\v11.2.2.2.1.length=v11.2.2.2.1.length/\0=0/\v11.2.2.2.2.2.1.length=(v11.2.2.2.2.2.1.set v11.1 ((v11.2.2.2.2.2.1.getD v11.1 []).set Zu.toNat fD)).length/\k12 (v11.1,v11.2.1,IntKind.i64.wrap (v11.2.2.1+(1:Int)),v11.2.2.2.1,v11.2.2.2.2.1,v11.2.2.2.2.2.1.set v11.1 ((v11.2.2.2.2.2.1.getD v11.1 []).set Zu.toNat fD),v11.2.2.2.2.2.2.1,List.take (v11.2.2.2.2.2.2.2.1++List.take 1 (List.drop 0 [Zu])).length (List.drop 0 (v11.2.2.2.2.2.2.2.1++List.take 1 (List.drop 0 [Zu]))),v11.2.2.2.2.2.2.2.2.1,())) (0=0/\(List.take v11.2.2.2.2.2.2.2.1.length (List.drop 0 v11.2.2.2.2.2.2.2.1)).length=(List.take v11.2.2.2.2.2.2.2.1.length (List.drop 0 v11.2.2.2.2.2.2.2.1)).length/\0=0/\v11.2.2.2.1.length=v11.2.2.2.1.length/\0=0/\v11.2.2.2.2.2.1.length=v11.2.2.2.2.2.1.length/\k12 (v11.1,v11.2.1,IntKind.i64.wrap (v11.2.2.1+(1:Int)),v11.2.2.2.1,v11.2.2.2.2.1,v11.2.2.2.2.2.1,v11.2.2.2.2.2.2.1,List.take v11.2.2.2.2.2.2.2.1.length (List.drop 0 v11.2.2.2.2.2.2.2.1),v11.2.2.2.2.2.2.2.2.1,()))) (((0:Int)<=(1:Int)/\(1:Int)<=(↑v11.2.2.2.2.2.2.2.1.length:Int)/\(↑v11.2.2.2.2.2.2.2.1.length:Int)<=(↑v11.2.2.2.2.2.2.2.1.length:Int))/\0=0/\(List.take ((↑v11.2.2.2.2.2.2.2.1.length:Int).toNat-Int.toNat (1:Int)) (List.drop (0+Int.toNat (1:Int)) v11.2.2.2.2.2.2.2.1)).length=(List.take ((↑v11.2.2.2.2.2.2.2.1.length:Int).toNat-Int.toNat (1:Int)) (List.drop (0+Int.toNat (1:Int)) v11.2.2.2.2.2.2.2.1)).length/\0=0/\v11.2.2.2.1.length=v11.2.2.2.1.length/\0=0/\v11.2.2.2.2.2.1.length=v11.2.2.2.2.2.1.length/\k10 (v11.1,v11.2.2.2.1,v11.2.2.2.2.1,v11.2.2.2.2.2.1,v11.2.2.2.2.2.2.1,List.take ((↑v11.2.2.2.2.2.2.2.1.length:Int).toNat-Int.toNat (1:Int)) (List.drop (0+Int.toNat (1:Int)) v11.2.2.2.2.2.2.2.1),v11.2.2.2.2.2.2.2.2.1,()))) (v9.1,0+l.toNat,(0:Int),v9.2.1,v9.2.2.1,v9.2.2.2.1,v9.2.2.2.2.1,List.take v9.2.2.2.2.2.1.length (List.drop 0 v9.2.2.2.2.2.1),v9.2.2.2.2.2.2.1,PUnit.unit)) (∃(dN:(List Int×PUnit)×PUnit),Kx.fn (v9.2.2.2.1.getD v9.1 [],())=some dN/\0=0/\dN.1.1.length=dN.1.1.length/\0=0/\v9.2.1.length=v9.2.1.length/\0=0/\v9.2.2.2.1.length=v9.2.2.2.1.length/\Bk (λ(gI:NF) (k13:NF->Prop)=>Br (decide (gI.2.1<(↑dN.1.1.length:Int))) (((0:Int)<=gI.2.1/\gI.2.1<(↑gI.2.2.2.2.2.2.1.length:Int))/\ ∃(Zu:Int),gI.2.2.2.2.2.2.1[0+gI.2.1.toNat]?=some Zu/\((0:Int)<=l/\l<(↑gI.2.2.1.length:Int))/\0=0/\gI.2.2.2.2.2.2.1.length=gI.2.2.2.2.2.2.1.length/\0=0/\gI.2.2.1.length=gI.2.2.1.length/\0=0/\gI.2.2.2.2.1.length=gI.2.2.2.2.1.length/\Bk (λ(Lj:uC) (k16:uC->Prop)=>Br (decide (Lj.2.2.1<(↑(gI.2.2.1.getD (0+l.toNat) []).length:Int))) (((0:Int)<=Lj.2.2.1/\Lj.2.2.1<(↑(Lj.2.2.2.1.getD Lj.2.1 []).length:Int))/\((0:Int)<=Zu/\Zu<(↑(Lj.2.2.2.2.2.1.getD Lj.1 []).length:Int))/\ ∃(BG:Option (List Int)),Qz.fn (((Lj.2.2.2.2.2.1.getD Lj.1 []).getD Zu.toNat (none:Option (List Int))).getD [],((Lj.2.2.2.1.getD Lj.2.1 []).getD Lj.2.2.1.toNat (none:Option (List Int))).getD [],())=some BG/\ ∃(IU:Int),idx (((Lj.2.2.2.1.getD Lj.2.1 []).getD Lj.2.2.1.toNat (none:Option (List Int))).getD []) Zu=some IU/\((0:Int)<=IU/\IU<(↑(Lj.2.2.2.2.2.1.getD Lj.1 []).length:Int))/\ ∃(OY:List Int),Er.fn (((Lj.2.2.2.2.2.1.getD Lj.1 []).getD IU.toNat (none:Option (List Int))).getD [],())=some OY/\ ∃(OI:Option (List Int)),Qz.fn (BG.getD [],OY,())=some OI/\0=0/\Lj.2.2.2.1.length=Lj.2.2.2.1.length/\0=0/\Lj.2.2.2.2.2.1.length=Lj.2.2.2.2.2.1.length/\ ∃(yo:(Int×List (List (Option (List Int)))×List (List (Option (List Int)))×PUnit)×PUnit),(Ps m).fn (Lj.2.2.2.2.2.2.2.2.1,Lj.2.2.2.1,Lj.2.2.2.2.2.1,IntKind.i64.wrap (l+(1:Int)),OI,())=some yo/\(Lj.1<(Ps m).Cv (Lj.2.2.2.2.2.2.2.2.1,Lj.2.2.2.1,Lj.2.2.2.2.2.1,IntKind.i64.wrap (l+(1:Int)),OI,())/\Lj.1<(List.length yo.1.2.2.1))/\(Lj.2.1<(Ps m).Cv (Lj.2.2.2.2.2.2.2.2.1,Lj.2.2.2.1,Lj.2.2.2.2.2.1,IntKind.i64.wrap (l+(1:Int)),OI,())/\Lj.2.1<(List.length yo.1.2.1))/\(Lj.1<(Ps m).Cv (Lj.2.2.2.2.2.2.2.2.1,Lj.2.2.2.1,Lj.2.2.2.2.2.1,IntKind.i64.wrap (l+(1:Int)),OI,())/\Lj.1<(List.length yo.1.2.2.1))/\(Lj.1<(Ps m).Cv (Lj.2.2.2.2.2.2.2.2.1,Lj.2.2.2.1,Lj.2.2.2.2.2.1,IntKind.i64.wrap (l+(1:Int)),OI,())/\Lj.1<(List.length yo.1.2.2.1))/\0=0/\Lj.2.2.2.2.2.2.2.1.length=Lj.2.2.2.2.2.2.2.1.length/\0=0/\yo.1.2.1.length=yo.1.2.1.length/\0=0/\yo.1.2.2.1.length=yo.1.2.2.1.length/\k16 (Lj.1,Lj.2.1,IntKind.i64.wrap (Lj.2.2.1+(1:Int)),yo.1.2.1,min Lj.2.2.2.2.1 ((Ps m).Cv (Lj.2.2.2.2.2.2.2.2.1,Lj.2.2.2.1,Lj.2.2.2.2.2.1,IntKind.i64.wrap (l+(1:Int)),OI,())),yo.1.2.2.1,min Lj.2.2.2.2.2.2.1 ((Ps m).Cv (Lj.2.2.2.2.2.2.2.2.1,Lj.2.2.2.1,Lj.2.2.2.2.2.1,IntKind.i64.wrap (l+(1:Int)),OI,())),Lj.2.2.2.2.2.2.2.1,yo.1.1,())) (0=0/\Lj.2.2.2.2.2.2.2.1.length=Lj.2.2.2.2.2.2.2.1.length/\0=0/\Lj.2.2.2.1.length=Lj.2.2.2.1.length/\0=0/\Lj.2.2.2.2.2.1.length=Lj.2.2.2.2.2.1.length/\k13 (Lj.1,IntKind.i64.wrap (gI.2.1+(1:Int)),Lj.2.2.2.1,Lj.2.2.2.2.1,Lj.2.2.2.2.2.1,Lj.2.2.2.2.2.2.1,Lj.2.2.2.2.2.2.2.1,Lj.2.2.2.2.2.2.2.2.1,()))) (gI.1,0+l.toNat,(0:Int),gI.2.2.1,gI.2.2.2.1,gI.2.2.2.2.1,gI.2.2.2.2.2.1,gI.2.2.2.2.2.2.1,gI.2.2.2.2.2.2.2.1,PUnit.unit)) ((0=0/\gI.2.2.1.length=gI.2.2.1.length)/\(0=0/\gI.2.2.2.2.1.length=gI.2.2.2.2.1.length)/\(Ps (m+1)).Cv (n,G,T,l,p,())<=gI.2.2.2.1/\(Ps (m+1)).Cv (n,G,T,l,p,())<=gI.2.2.2.2.2.1/\P ((gI.2.2.2.2.2.2.2.1,gI.2.2.1,gI.2.2.2.2.1,()),()))) (v9.1,(0:Int),v9.2.1,v9.2.2.1,v9.2.2.2.1,v9.2.2.2.2.1,dN.1.1,v9.2.2.2.2.2.2.1,PUnit.unit))) (0+l.toNat,G.set (0+l.toNat) (G.getD (0+l.toNat) []++List.take 1 (List.drop 0 [p])),min G.length (0+l.toNat),T,T.length,List.take y8.1.1.length (List.drop 0 y8.1.1),n,PUnit.unit))/\(((((0:Int)<=l/\l<(↑G.length:Int))/\((Gw G l p T y7 n))/\(Gw G l p T y7 n))/\((0:Int)<=l/\l<(↑G.length:Int))/\(Gw G l p T y7 n))/\((0:Int)<=l/\l<(↑G.length:Int))/\(Gw G l p T y7 n))/\(((((0:Int)<=l/\l<(↑G.length:Int))/\((Gw G l p T y7 n))/\(Gw G l p T y7 n))/\((0:Int)<=l/\l<(↑G.length:Int))/\(Gw G l p T y7 n))/\(((0:Int)<=l/\l<(↑G.length:Int))/\(((Gw G l p T y7 n))/\(Gw G l p T y7 n))/\(((Gw G l p T y7 n))/\((Gw G l p T y7 n))/\(Gw G l p T y7 n))/\((Gw G l p T y7 n))/\((Gw G l p T y7 n))/\(Gw G l p T y7 n))/\(((0:Int)<=l/\l<(↑G.length:Int))/\(Gw G l p T y7 n))/\((0:Int)<=l/\l<(↑G.length:Int))/\((Gw G l p T y7 n))/\((Gw G l p T y7 n))/\(Gw G l p T y7 n))/\(((0:Int)<=l/\l<(↑G.length:Int))/\(Gw G l p T y7 n))/\(((0:Int)<=l/\l<(↑G.length:Int))/\(Gw G l p T y7 n))/\((0:Int)<=l/\l<(↑G.length:Int))/\((Gw G l p T y7 n))/\((Gw G l p T y7 n))/\(Gw G l p T y7 n)))=fnMW (NK [Ht+7]) (look [(183,rR),(174,Kx),(156,Qz),(175,Er),(173,Td.m (Ps m))]) (Ps (m+1)) Try.f173 (n,G,T,l,p,()) P:=by kernel_rfl
theorem vo {k l:Nat} {p:List Int} {s:Dd×Dd} (h:Jh s.2 k l p=true):Dx k l p s=s:=by
 cases k with
 |zero=>rfl
 |succ k=>unfold Dx;rw [if_pos h]
theorem vn (k l:Nat) (p:List Int) (s:Dd×Dd):Dx (k+1) l p s=if Jh s.2 (k+1) l p=true then s else
   (bA (Ru (s.1.getD l []++ [some p]) (s.2.getD l [])) (s.1.getD l []++ [some p])).foldl (λs q=>Dx k (l+1) q s)
    (s.1.set l (s.1.getD l []++ [some p]),s.2.set l (Ru (s.1.getD l []++ [some p]) (s.2.getD l []))):=rfl
theorem KW {n:Nat} {p:List Int} (h:Pm n p) {i:Nat} (hi:i<n):idx p (i:Int)=some (ap p i:Int):=by
 have gf:i<p.length:=by rw [h.1];exact hi
 rw [Aq gf,<-(h.Ss hi).1,Ij gf]
theorem yB {x:Int} {gs:List PO} {j:Nat} (hj:j<gs.length) (s:Row×List Int):Tf x (gs.take (j+1)) s=Tp x (Tf x (gs.take j) s) gs[j]:=by
 unfold Tf
 rw [List.take_add_one,List.getElem?_eq_getElem hj,Option.toList_some,List.foldl_append]
 rfl
theorem yC {gs:List PO} {f:Nat} {row:Row} :Sw gs f [] row=row:=by cases f<;>rfl
theorem fS {n:Nat} {p:List Int} (h:Pm n p):0<p.length/\p.length<=20:=⟨by rw [h.1];exact h.n1,by rw [h.1];exact h.n2⟩
theorem zZ {n:Nat} {p q:List Int} (h:Pm n p) (k:Pm n q):Ha q.length p:=by rw [k.1];exact h.row
theorem Acu {m:Nat} (n:Int) (G T:List (List (Option (List Int)))) (l:Int) (p:Option (List Int)) (h:(∃N L q,p=some q/\mh N L n G T l q)/\(n-l).toNat<m+1):
  fnMW (NK [Ht+7]) (look [(183,rR),(174,Kx),(156,Qz),(175,Er),(173,Td.m (Ps m))]) (Ps (m+1)) Try.f173 (n,G,T,l,p,()) (λ(z:(Int×List (List (Option (List Int)))×List (List (Option (List Int)))×Unit)×Unit)=>z=((n,(Dx (n-l).toNat l.toNat (p.getD []) (G,T)).1,(Dx (n-l).toNat l.toNat (p.getD []) (G,T)).2,()),())):=by
 obtain ⟨⟨N,L,q,rfl,h⟩,hm⟩:=h
 have h':=h
 obtain ⟨n1,n2,en,el,hle,v,pm,fx⟩:=h
 subst en el
 have hk:((N:Int)-(L:Int)).toNat=N-L:=by omega
 rw [hk,Int.toNat_natCast]
 refine Eq.mp (Adk (N:Int) G T (L:Int) (some q) _) ⟨_,if_pos ⟨N,L,?a⟩,?b⟩
 case a=>
  simp only [List.drop_zero,List.take_length,Option.getD_some]
  exact h'
 obtain ⟨v1,v2,v3,v4⟩:=v
 dsimp only at v1 v2
 have hw:IntKind.i64.wrap ((L:Int)+1)=((L+1:Nat):Int):=Al (by omega)
 simp only [Gw]
 simp only [List.drop_zero,List.take_length,Option.getD_some,hk,Int.toNat_natCast,Nat.zero_add,eq_self,true_and,and_true,List.take_succ_cons,List.take_zero,List.length_cons,List.length_nil,List.length_set,hw]
 refine Br.of (λhh=>⟨by show Int.toNat (L:Int)<=G.length;omega,by show Int.toNat (L:Int)<=T.length;omega,?_⟩) λhh=>?_
 ·rw [vo (s:=(G,T)) hh]
 obtain ⟨k,hNk⟩: ∃k,N-L=k+1:=by
  cases e:N-L with
  |zero=>rw [e] at hh;simp [Jh] at hh
  |succ k=>exact ⟨k,rfl⟩
 have hLN:L<N:=by omega
 have hv:V N (k+1) L (G,T):=by rw [<-hNk];exact ⟨v1,v2,v3,v4⟩
 rw [hNk] at hh⊢
 have e1:(0:Int)<=(L:Int)/\(L:Int)<(G.length:Int):=by omega
 have e1':(0:Int)<=(L:Int)/\(L:Int)<(T.length:Int):=by omega
 have hgl:(G.getD L []).length<=400:=PT n2 (by omega) hv
 have e2:(G.getD L []).length+1<=Bp:=by show _<=4294967296;omega
 simp only [e1,e1',e2,and_self,true_and,and_true]
 generalize CJ:G.getD L []++ [some q]=gs
 have Alo:gs.length<=401:=by rw [<-CJ,List.length_append,List.length_singleton];omega
 have hg:PG N L gs:=by rw [<-CJ];exact hv.pg pm fx
 have XA:Ry N L gs (T.getD L []):=by rw [<-CJ];exact hv.Aii q
 obtain ⟨r1,r2,r3⟩:=xb hLN n2 hg XA
 generalize hR:Ru gs (T.getD L [])=R at r1 r2 r3
 have lL:Dx (k+1) L q (G,T)=(bA R gs).foldl (λs q=>Dx k (L+1) q s) (G.set L gs,T.set L R):=by
  rw [vn,if_neg (by rw [hh];simp)]
  dsimp only
  rw [CJ,hR]
 rw [lL]
 have hTl:L<T.length:=by omega
 have hGl:L<G.length:=by omega
 have hG1:(G.set L gs).getD L []=gs:=eS G L hGl gs
 have hT1: ∀row:Row,(T.set L row).getD L []=row:=eS T L hTl
 refine ⟨_,if_pos (by show (T.getD L []).length<=20;rw [XA.rl];exact n2),?_⟩
 dsimp only
 have ZY:(Hz (T.getD L [])).length+Lr (T.getD L [])<=40:=by have:=tF (T.getD L []);have:=x7 (T.getD L []);have:=XA.rl;omega
 have hq0:DU gs (Hz (T.getD L [])) (T.getD L []):=⟨λy hy=>Nk.1 hy,λy hy=> .inl (Nk.2 ⟨y,rfl,hy⟩)⟩
 refine ⟨λv=> ∃(row:Row) (qu:List Int) (kg kt:Nat),v=(L,G.set L gs,kg,T.set L row,kt,qu,(N:Int),())/\L<=kg/\L<=kt/\qu.length+Lr row<=40/\Ry N L gs row/\DU gs qu row/\Sw gs (qu.length+Lr row) qu row=R,
  fun v=>v.2.2.2.2.2.1.length+Lr (v.2.2.2.1.getD v.1 []),⟨T.getD L [],Hz (T.getD L []),min G.length L,T.length,?_,by omega,by omega,ZY,XA,hq0,?_⟩,?_⟩
 ·rw [q6 T L hTl]
 ·rw [<-vF hLN hg 100 _ _ (by omega) XA hq0];exact hR
 rintro v ⟨row,qu,kg,kt,rfl,WJ,WM,hb,KO,hqi,KA⟩
 dsimp only
 simp only [hG1,hT1,List.length_set]
 refine Br.dec (λhl=>⟨e1.2,?_⟩) λhl=>?_
 ·cases qu with
  |nil=>simp at hl
  |cons x qu=>
  obtain ⟨p1,p2,xn,t,rfl,ht⟩:=zQ hLN hg KO hqi
  have CW:xn<N:=by rw [<-KO.rl];exact m5 ht
  refine Aj gs.length (λv=>v.2.2.1) (λj v=> ∃kg kt:Nat,v=(L,L,(j:Int),G.set L gs,kg,T.set L (Tf (xn:Int) (gs.take j) (row,qu)).1,kt,(xn:Int)::(Tf (xn:Int) (gs.take j) (row,qu)).2,(N:Int),())/\L<=kg/\L<=kt) rfl ⟨kg,kt,rfl,WJ,WM⟩ ?_
  rintro j v K hj hi ⟨kg,kt,rfl,h1,h2⟩ hK
  dsimp only
  simp only [hG1,hT1,Int.toNat_natCast]
  refine Br.dec (λhl=>?_) λhl=>?_
  ·have hl:j<gs.length:=by omega
   obtain ⟨x1,x2⟩:=MQ hLN hg (gs.take j) (q:=qu) (λo ho=>List.mem_of_mem_take ho) KO ht
   have Ph:=yB (x:=(xn:Int)) hl (row,qu)
   generalize Tf (xn:Int) (gs.take j) (row,qu)=s at x1 x2 Ph⊢
   obtain ⟨r,qq⟩:=s
   dsimp only at x1 x2⊢
   obtain ⟨g,pw,Qd,WC⟩:=hg gs[j] (List.getElem_mem hl)
   have htx:r.getD xn none=some t:=x1.mono _ _ ht
   obtain ⟨t1,t2,t3,t4⟩:=x1.ok.rt _ _ htx
   have hrl:r.length=N:=x1.ok.rl
   have hgj:gs.getD j none=some g:=by rw [JV hl];exact pw
   have hy:=Qd.lt CW
   have hga:=(Qd.Ss CW).1
   have QP:qq.length+Lr r=qu.length+Lr row:=x1.phi
   simp only [List.length_cons] at hb
   simp only [hgj,Option.getD_some]
   refine ⟨⟨by omega,by omega⟩,⟨by omega,by simp only [List.length_cons];omega⟩,_,rfl,_,KW Qd CW,⟨by omega,by omega⟩,?_⟩
   rw [pw] at Ph
   unfold Tp at Ph
   dsimp only at Ph
   rw [Option.getD_some,hga,Int.toNat_natCast,Int.toNat_natCast,htx,Option.getD_some] at Ph
   rw [Int.toNat_natCast]
   refine Br.of (λhn=>?_) λhn=>?_
   ·have hn:r.getD (ap g xn) none=none:=by
     cases e:r.getD (ap g xn) none with
     |none=>rfl
     |some u=>rw [e] at hn;simp at hn
    rw [hn] at Ph
    refine ⟨⟨by omega,by simp only [List.length_cons];omega⟩,_,rfl,⟨by omega,by omega⟩,some (Aa t g),?_,⟨by omega,by omega⟩,?_,?_⟩
    ·rw [Int.toNat_natCast,htx,Option.getD_some]
     exact if_pos ⟨fS t1,zZ t1 Qd⟩
    ·show qq.length+1+1<=4294967296
     omega
    ·rw [Al (by omega)]
     refine hK hl _ rfl ⟨kg,kt,?_,h1,h2⟩
     rw [Ph,List.set_set]
     rfl
   ·have hn: ∃u,r.getD (ap g xn) none=some u:=by
     cases e:r.getD (ap g xn) none with
     |none=>rw [e] at hn;simp at hn
     |some u=>exact ⟨u,rfl⟩
    obtain ⟨u,hn⟩:=hn
    rw [hn] at Ph
    rw [Al (by omega)]
    refine hK hl _ rfl ⟨kg,kt,?_,h1,h2⟩
    rw [Ph]
  ·have:j=gs.length:=by omega
   subst this
   rw [List.take_length]
   generalize hs:Tf (xn:Int) gs (row,qu)=s at p1 p2⊢
   obtain ⟨r,qq⟩:=s
   dsimp only at p1 p2⊢
   have QP:qq.length+Lr r=qu.length+Lr row:=p1.phi
   simp only [List.length_cons] at hb KA
   refine ⟨⟨by omega,by simp only [List.length_cons];omega,Int.le_refl _⟩,⟨r,qq,kg,kt,?_,h1,h2,by omega,p1.ok,p2,?_⟩,?_⟩
   ·simp
   ·rw [show qu.length+1+Lr row=(qu.length+Lr row)+1 by omega] at KA
    simp only [Sw,hs] at KA
    rw [QP]
    exact KA
   ·simp only [List.length_cons]
    have:(List.take (qq.length+1-Int.toNat 1) (List.drop (Int.toNat 1) ((xn:Int)::qq))).length=qq.length:=by simp
    rw [this]
    omega
 ·have:qu= []:=List.eq_nil_of_length_eq_zero (by omega)
  subst this
  rw [yC] at KA
  subst KA
  have hpr:=ML hLN hg KO r3
  have hvl:=hv.lower gs row
  have TZ: ∀qs:List (List Int),(∀q∈qs,q∈bA row gs)->V N k (L+1) (qs.foldl (λs q=>Dx k (L+1) q s) (G.set L gs,T.set L row))/\Xn (L+1) (G.set L gs,T.set L row) (qs.foldl (λs q=>Dx k (L+1) q s) (G.set L gs,T.set L row)):=
   fun qs QR=>BZ n1 n2 (by omega) qs _ (λq hq=>hpr q (QR q hq)) hvl
  refine ⟨_,if_pos (by show row.length<=20;rw [KO.rl];exact n2),?_⟩
  dsimp only
  have hol:=tF row
  have hrl:=KO.rl
  refine Aj (Hz row).length (λv=>v.2.1) (λi v=> ∃(s:Dd×Dd) (kg kt:Nat),v=(L,(i:Int),s.1,kg,s.2,kt,Hz row,(N:Int),())/\L<=kg/\L<=kt/\s=(((Hz row).take i).flatMap λy=>gs.map (Nf row y)).foldl (λs q=>Dx k (L+1) q s) (G.set L gs,T.set L row)) rfl ⟨_,kg,kt,rfl,WJ,WM,rfl⟩ ?_
  rintro i v K hi gf ⟨s,kg,kt,rfl,h1,h2,hs⟩ hK
  dsimp only
  have Qq: ∀q∈((Hz row).take i).flatMap (λy=>gs.map (Nf row y)),q∈bA row gs:= λq hq=>by
   obtain ⟨y,hy,hq⟩:=List.mem_flatMap.1 hq
   exact List.mem_flatMap.2 ⟨y,List.mem_of_mem_take hy,hq⟩
  refine Br.dec (λhl=>?_) λhl=>?_
  ·have hl:i<(Hz row).length:=by omega
   obtain ⟨f1,f2⟩:=TZ _ Qq
   rw [<-hs] at f1 f2
   have g1:s.1.getD L []=gs:=by rw [(f2.low L (by omega)).1];exact hG1
   have g2:s.1.length=N:=f1.1
   obtain ⟨yn,UR,hyr⟩:=Nk.1 (List.getElem_mem hl)
   obtain ⟨t,ht⟩:=Option.ne_none_iff_exists'.1 hyr
   have hyN:yn<N:=by rw [<-hrl];exact m5 ht
   obtain ⟨t1,t2,t3,t4⟩:=KO.rt _ _ ht
   refine ⟨⟨by omega,by omega⟩,(yn:Int),by rw [Int.toNat_natCast,List.getElem?_eq_getElem hl,UR],by omega,?_⟩
   rw [g1]
   refine Aj gs.length (λv=>v.2.2.1) (λj v=> ∃(s':Dd×Dd) (kg kt:Nat),v=(L,L,(j:Int),s'.1,kg,s'.2,kt,Hz row,(N:Int),())/\L<=kg/\L<=kt/\s'=(((Hz row).take i).flatMap (λy=>gs.map (Nf row y))++(gs.take j).map (Nf row (yn:Int))).foldl (λs q=>Dx k (L+1) q s) (G.set L gs,T.set L row)) rfl ⟨s,kg,kt,rfl,h1,h2,by simpa using hs⟩ ?_
   rintro j v K' hj px ⟨s',kg,kt,rfl,h1,h2,qV⟩ hK'
   dsimp only
   refine Br.dec (λHg=>?_) λHg=>?_
   ·have Hg:j<gs.length:=by omega
    have CU: ∀q∈((Hz row).take i).flatMap (λy=>gs.map (Nf row y))++(gs.take j).map (Nf row (yn:Int)),q∈bA row gs:= λq hq=>by
     rcases List.mem_append.1 hq with hq|hq
     ·exact Qq q hq
     ·obtain ⟨o,ho,rfl⟩:=List.mem_map.1 hq
      exact List.mem_flatMap.2 ⟨(yn:Int),Nk.2 ⟨yn,rfl,hyr⟩,List.mem_map.2 ⟨o,List.mem_of_mem_take ho,rfl⟩⟩
    obtain ⟨ZN,f2'⟩:=TZ _ CU
    rw [<-qV] at ZN f2'
    obtain ⟨G',T'⟩:=s'
    dsimp only at ZN f2'⊢
    have g1':G'.getD L []=gs:=by have:=(f2'.low L (by omega)).1;dsimp only at this;rw [this];exact hG1
    have g3':T'.getD L []=row:=by have:=(f2'.low L (by omega)).2;dsimp only at this;rw [this];exact hT1 row
    have g4':G'.length=N:=ZN.1
    have g5':T'.length=N:=ZN.2.1
    obtain ⟨g,pw,Qd,WC⟩:=hg gs[j] (List.getElem_mem Hg)
    have hgj:gs.getD j none=some g:=by rw [JV Hg];exact pw
    have hgm:some g∈gs:=by rw [<-pw];exact List.getElem_mem Hg
    have hy:=Qd.lt hyN
    obtain ⟨t',mb⟩:=Option.ne_none_iff_exists'.1 (r3 yn t g ht hgm)
    obtain ⟨u1,u2,u3,u4⟩:=KO.rt _ _ mb
    have Ac0:Nf row (yn:Int) gs[j]=Aa (Aa t g) (An t'):=by rw [pw];exact dw ht mb
    have UL:=hpr _ (List.mem_flatMap.2 ⟨(yn:Int),Nk.2 ⟨yn,rfl,hyr⟩,List.mem_map.2 ⟨gs[j],List.getElem_mem Hg,Ac0⟩⟩)
    simp only [g1',g3',Int.toNat_natCast,hgj,ht,Option.getD_some]
    have nm:L<Int.toNat ((L+1:Nat):Int):=by omega
    have JX:=sm n1 n2 k (L+1) _ (G',T') (by omega) ZN UL.1 UL.2
    have Ajf:((Dx k (L+1) (Aa (Aa t g) (An t')) (G',T')).1).length=N:=JX.v.1
    have Ajg:((Dx k (L+1) (Aa (Aa t g) (An t')) (G',T')).2).length=N:=JX.v.2.1
    have OR:((N:Int)-((L+1:Nat):Int)).toNat=k:=by omega
    refine ⟨⟨by omega,by omega⟩,⟨by omega,by omega⟩,some (Aa t g),if_pos ⟨fS t1,zZ t1 Qd⟩,_,KW Qd hyN,⟨by omega,by omega⟩,An t',?_,some (Aa (Aa t g) (An t')),?_,_,if_pos ⟨⟨N,L+1,_,rfl,?pr⟩,?lt⟩,⟨nm,?k1⟩,⟨nm,?k2⟩,⟨nm,?k3⟩,⟨nm,?k4⟩,?go⟩
    case pr=>exact ⟨n1,n2,rfl,rfl,by omega,by rw [show N-(L+1)=k by omega];exact ZN,UL.1,UL.2⟩
    case lt=>
     show ((N:Int)-((L+1:Nat):Int)).toNat<m
     omega
    case go=>
     dsimp only
     rw [Al (by omega)]
     refine hK' Hg _ rfl ⟨_,_,_,rfl,?_,?_,?_⟩
     ·show L<=min kg (Int.toNat ((L+1:Nat):Int));omega
     ·show L<=min kt (Int.toNat ((L+1:Nat):Int));omega
     ·rw [List.take_add_one,List.getElem?_eq_getElem Hg,Option.toList_some,List.map_append,<-List.append_assoc,List.foldl_append,<-qV]
      simp only [List.map_cons,List.map_nil,List.foldl_cons,List.foldl_nil,Ac0,OR,Int.toNat_natCast,Option.getD_some]
    case k1=>simp only [OR,Int.toNat_natCast,Option.getD_some];omega
    case k2=>simp only [OR,Int.toNat_natCast,Option.getD_some];omega
    case k3=>simp only [OR,Int.toNat_natCast,Option.getD_some];omega
    case k4=>simp only [OR,Int.toNat_natCast,Option.getD_some];omega
    ·rw [Int.toNat_natCast,mb,Option.getD_some]
     exact if_pos ⟨by show t'.length<=20;rw [u1.1];exact n2,u1.2.row⟩
    ·exact if_pos ⟨fS (t1.comp Qd),zZ (t1.comp Qd) u1.inv⟩
   ·have:j=gs.length:=by omega
    subst this
    rw [Al (by omega)]
    refine hK hl _ rfl ⟨s',kg,kt,rfl,h1,h2,?_⟩
    rw [qV,List.take_length,List.take_add_one,List.getElem?_eq_getElem hl,Option.toList_some,List.flatMap_append,UR]
    simp
  ·have:i=(Hz row).length:=by omega
   subst this
   rw [List.take_length] at hs
   refine ⟨h1,h2,?_⟩
   rw [hs]
   rfl
theorem NB {m:Nat} (XM:Ck Try.prog 173 (Ps m)):Ck Try.prog 173 (Ps (m+1)):=
 Ck.ym (SJ [Ht+7]) (Ah HB (Gz fi (Ah oo (Ah Pw (Gz XM Ap))))) mixed Try.func173 (by kernel_rfl) (by kernel_rfl) λx h=>Acu x.1 x.2.1 x.2.2.1 x.2.2.2.1 x.2.2.2.2.1 h
theorem AG:Ck Try.prog 173 (Ps 0):=
 Ck.ym kC Ap mixed Try.func173 (by kernel_rfl) (by kernel_rfl) λ_ h=>absurd h.2 (Nat.not_lt_zero _)
theorem oh: ∀m,Ck Try.prog 173 (Ps m)
 |0=>AG
 |m+1=>NB (oh m)
noncomputable abbrev ua:MSpec:=ym UW (λx=> ∃N L q,x.2.2.2.2.1=some q/\mh N L x.1 x.2.1 x.2.2.1 x.2.2.2.1 q)
 (λx=>((x.1,(Dx (x.1-x.2.2.2.1).toNat x.2.2.2.1.toNat (x.2.2.2.2.1.getD []) (x.2.1,x.2.2.1)).1,(Dx (x.1-x.2.2.2.1).toNat x.2.2.2.1.toNat (x.2.2.2.2.1.getD []) (x.2.1,x.2.2.1)).2,()),()))
theorem AH:Ck Try.prog 173 ua:=Ck.Acr (λx=>(x.1-x.2.2.2.1).toNat) oh
end Go.Proofs.Ytjbdmibbbpdnnaa

namespace Go.Proofs.Ytjbdmibbbpdnnaa
open Go.RowKit
def Tc (n:Nat):Dd:=List.replicate n []
def Zr (n i:Nat):Row:=(List.replicate n none).set i (some (upto n))
def Yc (n:Nat):Dd:=(List.range n).map λi=>Zr n i
def Nq (n:Nat) (gens:List PO):Dd×Dd:=gens.foldl (λs o=>Dx n 0 (o.getD []) s) (Tc n,Yc n)
noncomputable abbrev zj:MSpec:= {He:= [none,none],ins:= [(false, .Ft tI),(false, .Ft tLO)],Gh:=false,Gj:= [none,none,none],outs:= [.Ft tI, .Am tO VC false, .Am tO VC false],fn:= λ_=>none,rp:=some 179}
noncomputable abbrev du:MSpec:=ym zj (λx=>(1<=x.1/\x.1<=20)/\List.length x.2.1<=4294967296/\ ∀o∈(x.2.1:List PO),∃g,o=some g/\Pm x.1.toNat g)
 (λx=>((x.1,(Nq x.1.toNat x.2.1).1,(Nq x.1.toNat x.2.1).2,()),()))
abbrev Ub:Type:=Int×List (List (Option (List Int)))×Int×List (List (Option (List Int)))×PUnit
theorem ya (n:Int) (gens:List (Option (List Int))) (P:(Int×List (List (Option (List Int)))×List (List (Option (List Int)))×Unit)×Unit->Prop):(((0:Int)<=n/\n<(↑Bp:Int)+(1:Int))/\n=n/\0=0/\(List.replicate n.toNat ([]:List (Option (List Int)))).length=(List.replicate n.toNat ([]:List (Option (List Int)))).length/\0=0/\0=([]:List Int).length/\Bk (λ(v3:Ub) (k4:Ub->Prop)=>Br (decide (v3.1<n)) (((0:Int)<=n/\n<(↑Bp:Int)+(1:Int))/\n=n/\ ∃(y5:Option (List Int)),Xc.fn (n,())=some y5/\((0:Int)<=v3.1/\v3.1<(↑(List.replicate n.toNat (none:Option (List Int))).length:Int))/\0+v3.1.toNat<(List.replicate n.toNat (none:Option (List Int))).length/\0=0/\(List.replicate n.toNat (none:Option (List Int))).length=((List.replicate n.toNat (none:Option (List Int))).set (0+v3.1.toNat) y5).length/\(0=0/\v3.2.2.2.1.length=v3.2.2.2.1.length)/\(0=0/\1= [(List.replicate n.toNat (none:Option (List Int))).set (0+v3.1.toNat) y5].length)/\0< [(List.replicate n.toNat (none:Option (List Int))).set (0+v3.1.toNat) y5].length/\v3.2.2.2.1.length+ [(List.replicate n.toNat (none:Option (List Int))).set (0+v3.1.toNat) y5].length<=Bp/\0=0/\v3.2.1.length=v3.2.1.length/\0=0/\(v3.2.2.2.1++ [(List.replicate n.toNat (none:Option (List Int))).set (0+v3.1.toNat) y5]).length=(v3.2.2.2.1++ [(List.replicate n.toNat (none:Option (List Int))).set (0+v3.1.toNat) y5]).length/\k4 (IntKind.i64.wrap (v3.1+(1:Int)),v3.2.1,v3.2.2.1,v3.2.2.2.1++ [(List.replicate n.toNat (none:Option (List Int))).set (0+v3.1.toNat) y5],())) (0=0/\v3.2.1.length=v3.2.1.length/\0=0/\v3.2.2.2.1.length=v3.2.2.2.1.length/\Bk (λ(v5:Ub) (k6:Ub->Prop)=>Br (decide (v5.1<(↑gens.length:Int))) (∃(y7:Option (List Int)),idx gens v5.1=some y7/\0=0/\v5.2.1.length=v5.2.1.length/\0=0/\v5.2.2.2.1.length=v5.2.2.2.1.length/\ ∃(y8:(Int×List (List (Option (List Int)))×List (List (Option (List Int)))×PUnit)×PUnit),ua.fn (v5.2.2.1,v5.2.1,v5.2.2.2.1,(0:Int),y7,())=some y8/\0=0/\y8.1.2.1.length=y8.1.2.1.length/\0=0/\y8.1.2.2.1.length=y8.1.2.2.1.length/\k6 (IntKind.i64.wrap (v5.1+(1:Int)),y8.1.2.1,y8.1.1,y8.1.2.2.1,())) ((0=0/\v5.2.1.length=v5.2.1.length)/\(0=0/\v5.2.2.2.1.length=v5.2.2.2.1.length)/\P ((v5.2.2.1,v5.2.1,v5.2.2.2.1,()),()))) ((0:Int),v3.2.1,v3.2.2.1,v3.2.2.2.1,PUnit.unit))) ((0:Int),List.replicate n.toNat ([]:List (Option (List Int))),n,[],PUnit.unit))=fnMW Uc (look [(127,Xc),(173,ua)]) du Try.f154 (n,gens,()) P:=by kernel_rfl
theorem Wb (n i:Nat):(Tc n).getD i []= []:=by
 unfold Tc
 rw [List.getD_eq_getElem?_getD,List.getElem?_replicate]
 split<;>rfl
theorem gF {n i:Nat} (h:i<n):(Yc n).getD i []=Zr n i:=by
 unfold Yc
 rw [List.getD_eq_getElem?_getD,List.getElem?_map,List.getElem?_range h]
 rfl
theorem j8 {n i y:Nat} (h:i<n):(Zr n i).getD y none=if i=y then some (upto n) else none:=by
 unfold Zr
 rw [Oe,List.length_replicate]
 by_cases e:i=y
 ·rw [if_pos ⟨e,h⟩,if_pos e]
 ·rw [if_neg (λhh=>e hh.1),if_neg e,List.getD_eq_getElem?_getD,List.getElem?_replicate]
  split<;>rfl
theorem oM {n:Nat} (h1:1<=n) (h2:n<=20): ∀(k l:Nat),l+k=n->fG n k l (Tc n,Yc n)
 |0,l,hk=>Wb n l
 |k+1,l,hk=>by
  have hl:l<n:=by omega
  have hg: ∀(g:List Int) (j:Nat),some g∈(Tc n).getD j []->False:= λg j hg=>by rw [Wb] at hg;cases hg
  refine ⟨oM h1 h2 k (l+1) (by omega),⟨λo ho=>?_,?_,?_,λy t e0=>?_,λy t g _ Zv=>(hg _ _ Zv).elim,λy t g t' _ Zv=>(hg _ _ Zv).elim⟩,λg Zv=>(hg _ _ Zv).elim⟩
  ·have ho:o∈(Tc n).getD l []:=ho
   rw [Wb] at ho;cases ho
  ·show ((Yc n).getD l []).length=n
   rw [gF hl];simp [Zr]
  ·show ((Yc n).getD l []).getD l none=_
   rw [gF hl,j8 hl,if_pos rfl]
  ·replace e0:((Yc n).getD l []).getD y none=some t:=e0
   rw [gF hl,j8 hl] at e0
   by_cases hy:l=y
   ·rw [if_pos hy] at e0
    have e1:=Option.some.inj e0
    subst e1 hy
    exact ⟨Pm.id h1 h2,λi hi=>eK (by omega),eK hl, .id⟩
   ·rw [if_neg hy] at e0;cases e0
theorem xK (n:Nat): ∀(k l:Nat),GBf k l (Tc n,Yc n)
 |0,_=>trivial
 |k+1,l=>⟨xK n k (l+1),by show ((Tc n).getD l []).length<=_;rw [Wb];exact Nat.zero_le _⟩
theorem DM {n:Nat} (h1:1<=n) (h2:n<=20):V n n 0 (Tc n,Yc n):=⟨by simp [Tc],by simp [Yc],oM h1 h2 n 0 (by omega),xK n n 0⟩
def PmL (n:Nat) (gens:List PO):Prop:= ∀o∈gens,∃g,o=some g/\Pm n g
theorem vh {n:Nat} {gens:List PO} {j:Nat} (hj:j<gens.length):Nq n (gens.take (j+1))=Dx n 0 (gens[j].getD []) (Nq n (gens.take j)):=by
 unfold Nq
 rw [List.take_add_one,List.getElem?_eq_getElem hj,Option.toList_some,List.foldl_append]
 rfl
theorem jl {n:Nat} (h1:1<=n) (h2:n<=20): ∀(gens:List PO) (s:Dd×Dd),PmL n gens->V n n 0 s->V n n 0 (gens.foldl (λs o=>Dx n 0 (o.getD []) s) s)/\
  Xn 0 s (gens.foldl (λs o=>Dx n 0 (o.getD []) s) s)/\(∀g,some g∈gens->Gn n ((gens.foldl (λs o=>Dx n 0 (o.getD []) s) s).1.getD 0 []) g)/\ ∀o∈(gens.foldl (λs o=>Dx n 0 (o.getD []) s) s).1.getD 0 [],o∈s.1.getD 0 []\/o∈gens
 | [],s,_,hv=>⟨hv,Xn.refl _ _,(λ_ hg=>by cases hg),λ_ ho=> .inl ho⟩
 |o::gens,s,hg,hv=>by
  obtain ⟨g,rfl,Qd⟩:=hg o (by simp)
  have ha:=sm h1 h2 n 0 g s (by omega) hv Qd (λi hi=>absurd hi (Nat.not_lt_zero _))
  obtain ⟨a1,a2,a3,a4⟩:=jl h1 h2 gens (Dx n 0 g s) (λo ho=>hg o (by simp [ho])) ha.v
  refine ⟨a1,ha.grow.trans a2 (Nat.le_refl _),λg' Zv=>?_,λo ho=>?_⟩
  ·rcases List.mem_cons.1 Zv with e|Zv
   ·cases e;exact ha.Acm.mono λg hg=>a2.CD _ _ hg
   ·exact a3 g' Zv
  ·rcases a4 o ho with h|h
   ·rcases ha.gens o h with h|h
    ·exact .inl h
    ·exact .inr (by simp [h])
   ·exact .inr (by simp [h])
theorem vg {n:Nat} (h1:1<=n) (h2:n<=20) {gens:List PO} (hg:PmL n gens):V n n 0 (Nq n gens):=(jl h1 h2 gens _ hg (DM h1 h2)).1
theorem nd {n:Nat} (h1:1<=n) (h2:n<=20) {gens:List PO} (hg:PmL n gens) {p:List Int} (hp:Pm n p):Jh (Nq n gens).2 n 0 p=true↔Gn n gens p:=by
 obtain ⟨a1,a2,a3,a4⟩:=jl h1 h2 gens _ hg (DM h1 h2)
 have hS:BK n λg=>some g∈gens:=⟨⟨h1,h2⟩,λg Zv=>by obtain ⟨g',e,h⟩:=hg _ Zv;cases e;exact h⟩
 have Qq: ∀g,some g∈(Nq n gens).1.getD 0 []->some g∈gens:= λg Zv=>by
  rcases a4 _ Zv with h|h
  ·have h:some g∈(Tc n).getD 0 []:=h
   rw [Wb] at h;cases h
  ·exact h
 have hS':BK n λg=>some g∈(Nq n gens).1.getD 0 []:=⟨⟨h1,h2⟩,λg Zv=>hS.2 g (Qq g Zv)⟩
 refine (iq h1 h2 n 0 (Nq n gens) (by omega) a1.2.2.1 p hp λi hi=>absurd hi (Nat.not_lt_zero _)).trans ⟨λh=>h.mono Qq,λh=>h.trans hS' λg Zv=>a3 g Zv⟩
theorem xj (n:Int) (gens:List (Option (List Int))) (h:(1<=n/\n<=20)/\List.length gens<=4294967296/\ ∀o∈(gens:List PO),∃g,o=some g/\Pm n.toNat g):
  fnMW Uc (look [(127,Xc),(173,ua)]) du Try.f154 (n,gens,()) (λ(z:(Int×List (List (Option (List Int)))×List (List (Option (List Int)))×Unit)×Unit)=>z=((n,(Nq n.toNat gens).1,(Nq n.toNat gens).2,()),())):=by
 obtain ⟨⟨h1,h2⟩,h3,hg⟩:=h
 obtain ⟨N,rfl⟩: ∃N:Nat,n=N:=⟨n.toNat,by omega⟩
 rw [Int.toNat_natCast] at hg⊢
 have h1:1<=N:=by omega
 have h2:N<=20:=by omega
 refine Eq.mp (ya (N:Int) gens _) ?_
 have hm:((0:Int)<=(N:Int)/\(N:Int)<(Bp:Int)+1):=⟨by omega,by show (N:Int)<(4294967296:Int)+1;omega⟩
 simp only [hm,and_self,eq_self,true_and,Int.toNat_natCast,Nat.zero_add,List.length_nil,List.length_set,List.length_replicate,List.length_cons,Nat.lt_add_one,List.length_append]
 refine Aj N (λv=>v.1) (λj v=>v=((j:Int),Tc N,(N:Int),(List.range j).map (Zr N),())) rfl rfl ?_
 rintro j v K hj hi rfl hK
 dsimp only
 refine Br.dec (λhl=>?_) λhl=>?_
 ·refine ⟨_,if_pos ⟨by show (1:Int)<=N;omega,by show (N:Int)<=20;omega⟩,⟨by omega,by omega⟩,by rw [Int.toNat_natCast];omega,?_,?_⟩
  ·show _<=4294967296
   simp only [List.length_map,List.length_range]
   omega
  ·rw [Al (by omega)]
   refine hK (by omega) _ rfl ?_
   rw [List.range_succ,List.map_append]
   rfl
 ·have:j=N:=by omega
  subst this
  refine Aj gens.length (λv=>v.1) (λi v=>v=((i:Int),(Nq j (gens.take i)).1,(j:Int),(Nq j (gens.take i)).2,())) rfl rfl ?_
  rintro i v K' gf Alq rfl hK'
  dsimp only
  refine Br.dec (λHg=>?_) λHg=>?_
  ·have Hg:i<gens.length:=by omega
   obtain ⟨g,pw,Qd⟩:=hg gens[i] (List.getElem_mem Hg)
   have hv:=vg h1 h2 (gens:=gens.take i) λo ho=>hg o (List.mem_of_mem_take ho)
   refine ⟨_,Aq Hg,_,if_pos ⟨j,0,g,pw,h1,h2,rfl,rfl,Nat.zero_le _,hv,Qd,λi hi=>absurd hi (Nat.not_lt_zero _)⟩,?_⟩
   rw [Al (by omega)]
   refine hK' Hg _ rfl ?_
   rw [vh Hg]
   simp only [Int.sub_zero,Int.toNat_natCast]
   rfl
  ·have:i=gens.length:=by omega
   subst this
   rw [List.take_length]
theorem lS:Ck Try.prog 154 du:=
 Ck.ym kC (Ah lP (Gz AH Ap)) mixed Try.func154 (by kernel_rfl) (by kernel_rfl) λx h=>xj x.1 x.2.1 h
end Go.Proofs.Ytjbdmibbbpdnnaa

namespace Go.Proofs.Ytjbdmibbbpdnnaa
open Go.RowKit
def Vq (T:Dd):Nat->Nat
 |0=>1
 |j+1=>Vq T j*(Hz (T.getD j [])).length
noncomputable abbrev ez:Spec:=Cz (.pair (.ptr uD) (.pair tI .unit)) tI false true (λx=>x.2.1=0/\ ∃N:Nat,(1<=N/\N<=20)/\x.1.1=N/\V N N 0 (x.1.2.1,x.1.2.2.1)) (λx=>(Vq x.1.2.2.1 x.1.1.toNat:Int))
noncomputable abbrev wz:MSpec:= {He:= [none,none],ins:= [(false, .Ft tI),(false, .Ft bL)],Gh:=false,Gj:= [none,none,none],outs:= [.Ft tI, .Am tO VC false, .Am tO VC false],fn:= λ_=>none,rp:=some 179}
def Tq (n:Int) (g:List (List Int)):Dd×Dd:=Nq n.toNat (g.map some)
noncomputable abbrev Rd:MSpec:=ym wz (λx=>(1<=x.1/\x.1<=20)/\List.length x.2.1<=4294967296/\ ∀g∈(x.2.1:List (List Int)),Pm x.1.toNat g)
 (λx=>((x.1,(Tq x.1 x.2.1).1,(Tq x.1 x.2.1).2,()),()))
noncomputable def Pk (p:PP):Int:=if Ax p=true then (Vq (Tq p.1 p.2.2.1).2 p.1.toNat:Int) else 0
noncomputable abbrev Mg:Spec:=Cz (.pair Dl .unit) tI false true (λx=>Dn x.1) (λx=>Pk x.1)
theorem SY (c:Int×List (List (Option (List Int)))×List (List (Option (List Int)))×Unit) (l:Int) (P:Int->Prop):(Bk (λ(v3:Int×Int×PUnit) (k4:Int×Int×PUnit->Prop)=>Br (decide (v3.2.1<c.1)) (∃(y5:List (Option (List Int))),idx c.2.2.1 v3.2.1=some y5/\ ∃(y6:(List Int×PUnit)×PUnit),Kx.fn (y5,())=some y6/\ ∃(y7:Int),Kl.fn (List.take y6.1.1.length (List.drop 0 y6.1.1),())=some y7/\k4 (IntKind.i64.wrap (v3.1*y7),IntKind.i64.wrap (v3.2.1+(1:Int)),())) (P v3.1)) ((1:Int),l,PUnit.unit))=fnW Uc (look [(174,Kx),(82,Kl)]) ez Try.f155 (c,l,()) P:=by kernel_rfl
theorem uV (p:Int×ByteArray×List (List Int)×Unit) (P:Int->Prop):(∃(y2:Bool),Ev.fn ((p.1,p.2.1,p.2.2.1,()),())=some y2/\Br (!y2) (P (0:Int)) (∃(y3:(Int×List (List (Option (List Int)))×List (List (Option (List Int)))×PUnit)×PUnit),Rd.fn (p.1,p.2.2.1,())=some y3/\ ∃(y4:Int),ez.fn ((y3.1.1,List.take y3.1.2.1.length (List.drop 0 y3.1.2.1),List.take y3.1.2.2.1.length (List.drop 0 y3.1.2.2.1),()),(0:Int),())=some y4/\P y4))=fnW Cr (look [(130,Ev),(154,Rd),(155,ez)]) Mg Try.f126 (p,()) P:=by kernel_rfl
theorem SL (n i:Nat):(upto n).countP (λy=>decide ((i:Int)<=y))=n-i:=by
 induction n with
 |zero=>simp [upto]
 |succ n ih=>
  rw [Zs,List.countP_append,ih]
  simp only [List.countP_cons,List.countP_nil,decide_eq_true_eq]
  split<;>omega
theorem RJ {n i:Nat} {gs:List PO} {row:Row} {H:List Int->Prop} (hi:i<n) (h:OZ n i gs row H):(Hz row).length<=n-i:=by
 rw [<-SL n i]
 unfold Hz
 rw [h.rl,<-List.countP_eq_length_filter]
 refine List.countP_mono_left λy hy hs=>?_
 obtain ⟨h1,h2⟩:=Ir.1 hy
 obtain ⟨t,ht⟩:=Option.isSome_iff_exists.1 hs
 obtain ⟨t1,t2,t3,_⟩:=h.rt _ _ ht
 refine decide_eq_true ?_
 refine Classical.byContradiction λhn=>?_
 have hy':y.toNat<i:=by omega
 have:=t1.inj hi (by omega:y.toNat<n) (by rw [t3,t2 _ hy'])
 omega
def fact:Nat->Nat
 |0=>1
 |n+1=>(n+1)*fact n
theorem vZ: ∀n,1<=fact n
 |0=>Nat.le_refl _
 |n+1=>by have:=vZ n;simp only [fact];exact Nat.le_trans this (Nat.le_mul_of_pos_left _ (by omega))
theorem EG {a b:Nat} (h:a<=b):fact a<=fact b:=by
 induction h with
 |refl=>exact Nat.le_refl _
 |step _ ih=>simp only [fact];exact Nat.le_trans ih (Nat.le_mul_of_pos_left _ (by omega))
theorem LY {n:Nat} {s:Dd×Dd} (hc:fG n n 0 s): ∀j,j<=n->Vq s.2 j*fact (n-j)<=fact n
 |0,_=>by simp [Vq]
 |j+1,hj=>by
  have ih:=LY hc j (by omega)
  have h1:=RJ (by omega) (gW n 0 hc j (by omega) (by omega))
  have e:n-j=(n-(j+1))+1:=by omega
  simp only [Vq]
  rw [e] at ih h1
  simp only [fact] at ih
  rw [Nat.mul_assoc]
  exact Nat.le_trans (Nat.mul_le_mul_left _ (Nat.mul_le_mul_right _ h1)) ih
theorem FP {n:Nat} (h2:n<=20) {s:Dd×Dd} (hc:fG n n 0 s) {j:Nat} (hj:j<=n):Vq s.2 j<=2432902008176640000:=by
 have h1:=LY hc j hj
 have h3:=vZ (n-j)
 have h4:fact n<=2432902008176640000:=Nat.le_trans (EG h2) (by decide)
 have h5:Vq s.2 j*1<=Vq s.2 j*fact (n-j):=Nat.mul_le_mul_left _ h3
 omega
theorem RT (c:Int×List (List (Option (List Int)))×List (List (Option (List Int)))×Unit) (l:Int) (h:l=0/\ ∃N:Nat,(1<=N/\N<=20)/\c.1=N/\V N N 0 (c.2.1,c.2.2.1)):
  fnW Uc (look [(174,Kx),(82,Kl)]) ez Try.f155 (c,l,()) (λ(z:Int)=>z=(Vq c.2.2.1 c.1.toNat:Int)):=by
 obtain ⟨rfl,N,⟨h1,h2⟩,hN,v⟩:=h
 obtain ⟨n,G,T,⟨⟩⟩:=c
 dsimp only at hN v⊢
 subst hN
 refine Eq.mp (SY ((N:Int),G,T,()) 0 _) ?_
 obtain ⟨v1,v2,v3,v4⟩:=v
 dsimp only at v1 v2⊢
 rw [Int.toNat_natCast]
 refine Aj N (λv=>v.2.1) (λj v=>v.1=(Vq T j:Int)) rfl rfl ?_
 rintro j ⟨o,i,⟨⟩⟩ K hj hi ho hK
 dsimp only at hi ho⊢
 subst hi ho
 refine Br.dec (λhl=>?_) λhl=>?_
 ·have hl:j<N:=by omega
  have hT:j<T.length:=by omega
  have Qp:=gW N 0 v3 j (by omega) (by omega)
  have hrl:=Qp.rl
  dsimp only at hrl
  rw [wb hT] at hrl
  refine ⟨_,Aq hT,_,if_pos (by show (T[j]).length<=20;omega),_,if_pos trivial,?_⟩
  rw [List.drop_zero,List.take_length,Al (by omega)]
  have hb:=FP h2 v3 (j:=j+1) (by omega)
  simp only [Vq] at hb
  rw [wb hT] at hb
  have e:(Vq T j:Int)*((Hz T[j]).length:Int)=((Vq T j*(Hz T[j]).length:Nat):Int):=by push_cast;rfl
  show K (IntKind.i64.wrap ((Vq T j:Int)*((Hz T[j]).length:Int)),_,())
  rw [e,Bu (by omega) (by omega)]
  refine hK hl _ rfl ?_
  simp only [Vq]
  rw [wb hT]
 ·have:j=N:=by omega
  subst this
  rfl
theorem xJ:Sound Try.prog 155 ez:=
 Sound.Cz kC (Gz fi (Ah Wa Ap)) mixed Try.func155 (by kernel_rfl) (by kernel_rfl) λx h=>RT x.1 x.2.1 h
theorem Cells.told {w:World} {S:Nat->Prop} {e:Ty} {cs:List Value} {xs:List e.den} (h:Cells w S (.slice e) cs xs): ∃o:Option (List e.den),Cells w S (.oslice e) cs o/\o.getD []=xs:=by
 simp only [Cells] at h
 obtain ⟨a,len,cap,rfl,h1,h2,h3⟩:=h
 cases a with
 |none=>
  rcases h3 with rfl|⟨g,o,h,_⟩
  ·refine ⟨none,?_,rfl⟩
   simp only [Cells]
   exact .inl ⟨trivial,cap,by rw [h1];rfl⟩
  ·cases h
 |some ad=>
  refine ⟨some xs,?_,rfl⟩
  simp only [Cells]
  exact .inr ⟨xs,ad,len,cap,rfl,rfl,h1,h2,h3.imp id λ⟨g,o,h,h4⟩=>⟨g,o,Option.some.inj h,h4⟩⟩
theorem yx {α β:Type} (Q:Nat->α->β->Prop): ∀(xs:List α),(∀i x,xs[i]?=some x-> ∃y,Q i x y)-> ∃ys:List β,ys.length=xs.length/\ ∀i x y,xs[i]?=some x->ys[i]?=some y->Q i x y:=by
 intro xs h
 refine ⟨List.ofFn λi:Fin xs.length=>Classical.choose (h i xs[i] (List.getElem?_eq_getElem i.2)),by simp,λi x y h1 h2=>?_⟩
 obtain ⟨hi,rfl⟩:=List.getElem?_eq_some_iff.1 h1
 obtain ⟨gf,rfl⟩:=List.getElem?_eq_some_iff.1 h2
 rw [List.getElem_ofFn]
 exact Classical.choose_spec (h i xs[i] (List.getElem?_eq_getElem hi))
theorem Bd.Adj {w:World} {S:Nat->Prop} {e:Ty} {v:Value} {xs:List (List e.den)} (h:Bd w S (.slice (.slice e)) v xs): ∃os:List (Option (List e.den)),Bd w S (.slice (.oslice e)) v os/\os.map (·.getD [])=xs:=by
 obtain ⟨cs,hc,rfl⟩:=h
 simp only [Cells] at hc
 obtain ⟨a,len,cap,rfl,h1,h2,h3⟩:=hc
 rcases h3 with rfl|⟨g,o,rfl,hg,hS,h4⟩
 ·refine ⟨[],⟨_,?_,rfl⟩,rfl⟩
  simp only [Cells]
  exact ⟨a,len,cap,rfl,h1,h2, .inl trivial⟩
 ·obtain ⟨os,e1,e2⟩:=yx (λi (x:List e.den) (y:Option (List e.den))=>y.getD []=x/\ ∃es:List Value,es.length=1/\(∀j u,es[j]?=some u->w.cell? ⟨g,o+i*1+j,none⟩=some u)/\Cells w S (.oslice e) es y) xs λi x hx=>by
   obtain ⟨es,k1,k2,k3⟩:=h4 i x hx
   obtain ⟨y,k4,k5⟩:=Cells.told (e:=e) (by simp only [Cells];exact k3)
   exact ⟨y,k5,es,k1,k2,k4⟩
  refine ⟨os,⟨_,?_,rfl⟩,?_⟩
  ·simp only [Cells]
   refine ⟨_,len,cap,rfl,by rw [h1,e1],h2, .inr ⟨g,o,rfl,hg,hS,λi y hy=>?_⟩⟩
   obtain ⟨hi,_⟩:=List.getElem?_eq_some_iff.1 hy
   obtain ⟨_,es,k1,k2,k3⟩:=e2 i _ y (List.getElem?_eq_getElem (by omega)) hy
   simp only [Cells] at k3
   exact ⟨es,k1,k2,k3⟩
  ·refine List.ext_getElem (by simp [e1]) λi g1 g2=>?_
   rw [List.getElem_map]
   exact (e2 i _ _ (List.getElem?_eq_getElem g2) (List.getElem?_eq_getElem (by omega))).1
theorem oB:Ck Try.prog 154 Rd:=by
 have h:=lS
 refine ⟨h.enter,λw S π us x r o g vs h1 hg h2 h3 hS h4 h5=>?_⟩
 obtain ⟨n,gens,⟨⟩⟩:=x
 match us,h2 with
 |u1::u2::us,h2=>
  obtain ⟨h6,⟨h7,h8⟩,h9⟩:=h2
  obtain ⟨os,kQ,eT⟩:=Bd.Adj (e:=tI) h8
  have eT:os.map (·.getD [])=(gens:List (List Int)):=eT
  have sV:(1<=n/\n<=20)/\List.length gens<=4294967296/\ ∀g∈(gens:List (List Int)),Pm n.toNat g:=Classical.byContradiction λhn=>by
   have:Rd.fn (n,gens,())=none:=if_neg hn
   rw [this] at h5;cases h5
  have hos:os=gens.map some:=by
   rw [<-eT,List.map_map]
   refine (List.map_id os).symm.trans (List.map_congr_left λx hx=>?_)
   cases x with
   |some y=>rfl
   |none=>
    have:=sV.2.2 [] (by rw [<-eT];exact List.mem_map.2 ⟨none,hx,rfl⟩)
    have h1:=this.n1
    have h2:=this.1
    simp at h2
    omega
  have hv:Rd.fn (n,gens,())=some ((n,(Tq n gens).1,(Tq n gens).2,()),()):=if_pos sV
  rw [hv] at h5
  have h5:=Option.some.inj h5
  refine h.calls w S π (u1::u2::us) (n,os,()) r o g vs h1 hg ⟨h6,⟨h7,kQ⟩,h9⟩ h3 hS h4 ?_
  refine (if_pos ⟨sV.1,by rw [hos,List.length_map];exact sV.2.1,λy hy=>?pp⟩).trans (congrArg some ?qq)
  case pp=>
   replace hy:y∈os:=hy
   rw [hos] at hy
   obtain ⟨g,hg,rfl⟩:=List.mem_map.1 hy
   exact ⟨g,rfl,sV.2.2 g hg⟩
  case qq=>subst hos;exact h5
theorem gV {p:PP} (hv:Valid p):(1<=p.1/\p.1<=20)/\List.length p.2.2.1<=4294967296/\ ∀g∈p.2.2.1,Pm p.1.toNat g:=
 ⟨hv.n,by have:=hv.pb;omega,λg hg=>⟨by have:=hv.len g hg;omega,db (hv.perm g hg)⟩⟩
theorem nY {n:Nat} {g:List (List Int)} (h: ∀x∈g,Pm n x):PmL n (g.map some):= λo ho=>by
 obtain ⟨x,hx,rfl⟩:=List.mem_map.1 ho
 exact ⟨x,rfl,h x hx⟩
theorem sA {p:PP} (hv:Valid p):V p.1.toNat p.1.toNat 0 (Tq p.1 p.2.2.1):=by
 have:=hv.n
 exact vg (by omega) (by omega) (nY (gV hv).2.2)
theorem tR (p:PP) (h:Dn p):fnW Cr (look [(130,Ev),(154,Rd),(155,ez)]) Mg Try.f126 (p,()) (λ(z:Int)=>z=Pk p):=by
 refine Eq.mp (uV p _) ⟨_,if_pos h,?_⟩
 show Br (!Ax p) _ _
 unfold Pk
 cases hv:Ax p with
 |false=>exact Br.of (λ_=>rfl) λhh=>by cases hh
 |true=>
  refine Br.of (λhh=>by cases hh) λ_=>?_
  have hV:=valid hv
  have hn:=hV.n
  refine ⟨_,if_pos (gV hV),_,if_pos ⟨rfl,p.1.toNat,⟨by omega,by omega⟩,(Int.toNat_of_nonneg (by omega:(0:Int)<=p.1)).symm,?vv⟩,?_⟩
  case vv=>
   simp only [List.drop_zero,List.take_length]
   exact sA hV
  simp only [List.drop_zero,List.take_length]
  exact (if_pos trivial).symm
theorem kx:Sound Try.prog 126 Mg:=
 Sound.Cz Bo (Ah Zq (Gz oB (Ah xJ Ap))) mixed Try.func126 (by kernel_rfl) (by kernel_rfl) λx h=>tR x.1 h
end Go.Proofs.Ytjbdmibbbpdnnaa

namespace Go.Proofs.Ytjbdmibbbpdnnaa
open Go.RowKit
theorem cY {α:Type} [DecidableEq α]: ∀ {l1 l2:List α},l1.Nodup->(∀x∈l1,x∈l2)->l1.length<=l2.length
 | [],_,_,_=>Nat.zero_le _
 |a::l,l2,hn,hs=>by
  obtain ⟨h1,h2⟩:=List.nodup_cons.1 hn
  have ha:=hs a (by simp)
  have:=cY (l1:=l) (l2:=l2.erase a) h2 λy hy=>by
   have hya:y≠a:= λe'=>h1 (by rw [<-e'];exact hy)
   exact (List.mem_erase_of_ne hya).2 (hs y (by simp [hy]))
  rw [List.length_erase_of_mem ha] at this
  have:=List.length_pos_of_mem ha
  simp only [List.length_cons]
  omega
def jP (n:Nat) (T:Dd):Nat->Nat->List (List Int)
 |0,_=> [upto n]
 |k+1,l=>(Hz (T.getD l [])).flatMap λy=>(jP n T k (l+1)).map λq=>Aa q (((T.getD l []).getD y.toNat none).getD [])
def rF (T:Dd):Nat->Nat->Nat
 |0,_=>1
 |k+1,l=>(Hz (T.getD l [])).length*rF T k (l+1)
theorem wT (n:Nat) (T:Dd): ∀k l,(jP n T k l).length=rF T k l
 |0,_=>rfl
 |k+1,l=>by
  simp only [jP,rF,List.length_flatMap,List.length_map,wT n T k (l+1)]
  generalize Hz (T.getD l [])=o
  induction o with
  |nil=>simp
  |cons a o ih=>simp only [List.map_cons,List.sum_cons,ih,List.length_cons,Nat.succ_mul];omega
theorem rq (T:Dd): ∀k j,Vq T (j+k)=Vq T j*rF T k j
 |0,j=>by simp [rF]
 |k+1,j=>by
  have:=rq T k (j+1)
  rw [show j+(k+1)=j+1+k by omega,this]
  simp only [Vq,rF]
  rw [Nat.mul_assoc]
theorem xc (n:Nat) (T:Dd):(jP n T n 0).length=Vq T n:=by
 rw [wT,show Vq T n=Vq T (0+n) by rw [Nat.zero_add],rq]
 simp [Vq]
theorem nF {n:Nat} (h1:1<=n) (h2:n<=20) {s:Dd×Dd} : ∀(k l:Nat),l+k=n->fG n k l s-> ∀p,p∈jP n s.2 k l↔Pm n p/\Fx l p/\Jh s.2 k l p=true
 |0,l,hk,hc,p=>by
  have hl:l=n:=by omega
  subst hl
  simp only [jP,List.mem_singleton]
  exact ⟨λe=>by subst e;exact ⟨Pm.id h1 h2,λi hi=>eK hi,rfl⟩,λh=>h.2.1.all h.1⟩
 |k+1,l,hk,hc,p=>by
  obtain ⟨c1,c2,c3⟩:=hc
  have ih:=nF h1 h2 k (l+1) (by omega) c1
  have bq:l<n:=by omega
  simp only [jP,List.mem_flatMap,List.mem_map]
  constructor
  ·rintro ⟨y,hy,q,hq,rfl⟩
   obtain ⟨yn,rfl,UR⟩:=Nk.1 hy
   obtain ⟨t,ht⟩:=Option.ne_none_iff_exists'.1 UR
   obtain ⟨t1,t2,t3,t4⟩:=c2.rt _ _ ht
   obtain ⟨q1,q2,q3⟩:=(ih q).1 hq
   rw [Int.toNat_natCast,ht,Option.getD_some]
   have hap:ap (Aa q t) l=yn:=by rw [Ga q1 t1 bq,q2 l (by omega),t3]
   refine ⟨q1.comp t1,λi hi=>by rw [Ga q1 t1 (by omega),q2 i (by omega),t2 i hi],?_⟩
   simp only [Jh]
   rw [show (Ce (Aa q t) (l:Int)).toNat=ap (Aa q t) l from rfl,hap,ht]
   show Jh s.2 k (l+1) (Aa (Aa q t) (An t))=true
   rw [Ee q1 t1 t1.inv,cm t1,comp_id q1]
   exact q3
  ·rintro ⟨p1,p2,p3⟩
   simp only [Jh] at p3
   rw [show (Ce p (l:Int)).toNat=ap p l from rfl] at p3
   split at p3
   ·cases p3
   ·rename_i t ht
    obtain ⟨t1,t2,t3,t4⟩:=c2.rt _ _ ht
    refine ⟨(ap p l:Int),Nk.2 ⟨ap p l,rfl,by rw [ht];simp⟩,Aa p (An t),(ih _).2 ⟨p1.comp t1.inv,Fx.div p1 t1 p2 t2 bq t3,p3⟩,?_⟩
    rw [Int.toNat_natCast,ht,Option.getD_some,Ee p1 t1.inv t1,Vk t1,comp_id p1]
theorem nG {n:Nat} (h1:1<=n) (h2:n<=20) {s:Dd×Dd} : ∀(k l:Nat),l+k=n->fG n k l s->(jP n s.2 k l).Nodup
 |0,l,hk,hc=>by simp [jP]
 |k+1,l,hk,hc=>by
  obtain ⟨c1,c2,c3⟩:=hc
  have ih:=nG h1 h2 k (l+1) (by omega) c1
  have hm:=nF h1 h2 k (l+1) (by omega) c1
  have bq:l<n:=by omega
  have rep: ∀y∈Hz (s.2.getD l []),∃(yn:Nat) (t:List Int),y=yn/\((s.2.getD l []).getD y.toNat none).getD []=t/\Pm n t/\ap t l=yn:= λy hy=>by
   obtain ⟨yn,rfl,UR⟩:=Nk.1 hy
   obtain ⟨t,ht⟩:=Option.ne_none_iff_exists'.1 UR
   obtain ⟨t1,t2,t3,t4⟩:=c2.rt _ _ ht
   exact ⟨yn,t,rfl,by rw [Int.toNat_natCast,ht];rfl,t1,t3⟩
  simp only [jP]
  refine List.pairwise_flatMap.2 ⟨λy hy=>?_,?_⟩
  ·obtain ⟨yn,t,rfl,e,t1,t3⟩:=rep y hy
   rw [e]
   refine List.pairwise_map.2 (List.Pairwise.imp_of_mem ?_ ih)
   intro a b ha hb Ep he
   have ha:=((hm a).1 ha).1
   have hb:=((hm b).1 hb).1
   have h3:=congrArg (λz=>Aa z (An t)) he
   simp only [Ee ha t1 t1.inv,Ee hb t1 t1.inv,cm t1,comp_id ha,comp_id hb] at h3
   exact Ep h3
  ·refine List.Pairwise.imp_of_mem ?_ ((oY _).filter _)
   intro y z hy hz Ep a ha b hb he
   obtain ⟨yn,t,rfl,e,t1,t3⟩:=rep y hy
   obtain ⟨zn,u,rfl,e',u1,u3⟩:=rep z hz
   rw [e] at ha
   rw [e'] at hb
   obtain ⟨q,hq,rfl⟩:=List.mem_map.1 ha
   obtain ⟨q',eX,rfl⟩:=List.mem_map.1 hb
   obtain ⟨a1,a2,_⟩:=(hm q).1 hq
   obtain ⟨b1,b2,_⟩:=(hm q').1 eX
   have h3:=congrArg (λz=>ap z l) he
   simp only [Ga a1 t1 bq,Ga b1 u1 bq,a2 l (by omega),b2 l (by omega),t3,u3] at h3
   exact Ep (by rw [h3])
theorem jn {g:List (List Int)} (Q:List Int->Prop) {x:List Int} {d:Int} : ∀(ls:List Int) (L:List (List Int)) (D:List Int),(∀l∈ls,Q (Aa x (Af g l)))->(∀y∈L,Q y)->
  (∀y∈(Ey g x d ls L D).1,Q y)/\(∀y∈L,y∈(Ey g x d ls L D).1)/\((Ey g x d ls L D).2.2=true-> ∀l∈ls,Aa x (Af g l)∈(Ey g x d ls L D).1)/\
   ((Ey g x d ls L D).2.2=false->(Ey g x d ls L D).1.length=3000/\ ∃z,Q z/\z∉(Ey g x d ls L D).1)
 | [],L,D,_,h=>⟨h,λ_ h=>h,(λ_ l hl=>by cases hl),(λe=>by cases e)⟩
 |l::ls,L,D,hq,h=>by
  have eX: ∀l∈ls,Q (Aa x (Af g l)):= λl' h'=>hq l' (List.mem_cons_of_mem _ h')
  simp only [Ey]
  split
  ·rename_i hm
   obtain ⟨a1,a2,a3,a4⟩:=jn Q (d:=d) ls L D eX h
   refine ⟨a1,a2,λe l' Hg=>?_,a4⟩
   rcases List.mem_cons.1 Hg with rfl|Hg
   ·exact a2 _ hm
   ·exact a3 e l' Hg
  ·rename_i hn
   split
   ·rename_i hf
    exact ⟨h,λ_ h=>h,(λe=>by cases e),λ_=>⟨hf,_,hq l (by simp),hn⟩⟩
   ·obtain ⟨a1,a2,a3,a4⟩:=jn Q (d:=d) ls (L++ [Aa x (Af g l)]) (D++ [d+1]) eX λy hy=>by
     rcases List.mem_append.1 hy with hy|hy
     ·exact h y hy
     ·rw [List.mem_singleton.1 hy];exact hq l (by simp)
    refine ⟨a1,λy hy=>a2 y (List.mem_append_left _ hy),λe l' Hg=>?_,a4⟩
    rcases List.mem_cons.1 Hg with rfl|Hg
    ·exact a2 _ (List.mem_append_right _ (by simp))
    ·exact a3 e l' Hg
theorem qC {p:PP} (hV:Valid p) {m:Nat} {ls:List Int} (hl: ∀l∈ls,Es (List.length p.2.2.1) l) (Q:List Int->Prop) (hQ: ∀x,Q x-> ∀l∈ls,Q (Aa x (Af p.2.2.1 l))):
  ∀(f k:Nat) (L:List (List Int)) (D:List Int),3001<=f+k->k<=L.length->Oy p m L D->(∀y∈L,Q y)->(∀(j:Nat) (h:j<L.length),j<k-> ∀l∈ls,Aa L[j] (Af p.2.2.1 l)∈L)->
  (∀y∈(Gs p.2.2.1 ls f k L D).1,Q y)/\((Gs p.2.2.1 ls f k L D).2.2=true-> ∀x∈(Gs p.2.2.1 ls f k L D).1,∀l∈ls,Aa x (Af p.2.2.1 l)∈(Gs p.2.2.1 ls f k L D).1)/\
   ((Gs p.2.2.1 ls f k L D).2.2=false->(Gs p.2.2.1 ls f k L D).1.length=3000/\ ∃z,Q z/\z∉(Gs p.2.2.1 ls f k L D).1)
 |0,k,L,D,hf,UA,hb,hq,hc=>by
  have:=hb.ok.pb
  omega
 |f+1,k,L,D,hf,UA,hb,hq,hc=>by
  simp only [Gs]
  split
  ·rename_i hk
   have EM:k<D.length:=by rw [hb.len];exact hk
   have hd:=hb.dep k EM
   have e:D.getD k 0=D[k]:=by rw [List.getD_eq_getElem?_getD,List.getElem?_eq_getElem EM];rfl
   rw [Pd hk,e]
   obtain ⟨k1,⟨A,k2⟩,_⟩:=gT hV (hb.row _ (List.getElem_mem hk)) (hb.ok.len _ (List.getElem_mem hk)) (d:=D[k]) ls L D hl hb ⟨by omega,by omega⟩
   obtain ⟨a1,a2,a3,a4⟩:=jn (g:=p.2.2.1) Q (x:=L[k]) (d:=D[k]) ls L D (hQ _ (hq _ (List.getElem_mem hk))) hq
   split
   ·rename_i L' D' he
    rw [he] at k1 k2 a1 a2 a3 a4
    have k2:L'=L++A:=k2
    refine qC hV hl Q hQ f (k+1) L' D' (by omega) (by rw [k2,List.length_append];omega) k1 a1 λj hj hjk l Hg=>?_
    by_cases e':j<k
    ·have e2:L'[j]=L[j]:=by simp only [k2];rw [List.getElem_append_left (by omega)]
     rw [e2];exact a2 _ (hc j (by omega) e' l Hg)
    ·have:j=k:=by omega
     subst this
     have e2:L'[j]=L[j]:=by simp only [k2];rw [List.getElem_append_left (by omega)]
     rw [e2];exact a3 rfl l Hg
   ·rename_i L' D' he
    rw [he] at a1 a4
    exact ⟨a1,(λe=>by cases e),λ_=>a4 rfl⟩
  ·rename_i hk
   refine ⟨hq,λ_ x hx l Hg=>?_,λe=>by cases e⟩
   obtain ⟨j,hj,rfl⟩:=List.mem_iff_getElem.1 hx
   have hj:j<L.length:=hj
   exact hc j hj (by omega) l Hg
theorem BQ {p:PP} (hv:Ax p=true) {s:List Int} (hs:s.length<=20) (hr: ∀y∈s,0<=y/\y<p.1) (Q:List Int->Prop) (hQs:Q s) (hQ: ∀x,Q x-> ∀l∈Ag p.2.2.1.length,Q (Aa x (Af p.2.2.1 l))):
  (∀y∈(Ds p.2.2.1 s).1,Q y)/\((Ds p.2.2.1 s).2.2=true-> ∀x∈(Ds p.2.2.1 s).1,∀l∈Ag p.2.2.1.length,Aa x (Af p.2.2.1 l)∈(Ds p.2.2.1 s).1)/\
   ((Ds p.2.2.1 s).2.2=false->(Ds p.2.2.1 s).1.length=3000/\ ∃z,Q z/\z∉(Ds p.2.2.1 s).1):=
 qC (valid hv) (λ_ hl=>Iq hl) Q hQ 3001 0 [s] [0] (by omega) (Nat.zero_le _) (dR hs hr) (λy hy=>by rw [List.mem_singleton.1 hy];exact hQs) λj _ hj=>absurd hj (Nat.not_lt_zero _)
theorem iY {g:List (List Int)} {x:List Int} :some x∈g.map some↔x∈g:=by simp
theorem zq {n:Nat} {g:List (List Int)} {x:List Int} (h:Gn n (g.map some) x) {l:Int} (hl:l∈Ag g.length):Gn n (g.map some) (Aa x (Af g l)):=by
 obtain ⟨k,hk,rfl|rfl⟩:=Mb (Iq hl)
 ·rw [Lq hk];exact .mul h (iY.2 (List.getElem_mem hk))
 ·rw [Lp hk];exact .inv h (iY.2 (List.getElem_mem hk))
theorem Wv {n k:Nat} (hk:k<n):(k:Int)+1∈Ag n/\ -((k:Int)+1)∈Ag n:=by
 unfold Ag
 exact ⟨List.mem_flatMap.2 ⟨k,List.mem_range.2 hk,by simp⟩,List.mem_flatMap.2 ⟨k,List.mem_range.2 hk,by simp⟩⟩
theorem yX {n:Nat} {g:List (List Int)} {L:List (List Int)} (h0:upto n∈L) (hc: ∀x∈L,∀l∈Ag g.length,Aa x (Af g l)∈L) {p:List Int} (hp:Gn n (g.map some) p):p∈L:=by
 induction hp with
 |id=>exact h0
 |mul _ hg ih=>
  obtain ⟨k,hk,rfl⟩:=List.mem_iff_getElem.1 (iY.1 hg)
  have:=hc _ ih _ (Wv hk).1
  rwa [Lq hk] at this
 |inv _ hg ih=>
  obtain ⟨k,hk,rfl⟩:=List.mem_iff_getElem.1 (iY.1 hg)
  have:=hc _ ih _ (Wv hk).2
  rwa [Lp hk] at this
structure Reach (p:PP) (L:List (List Int)) (D:List Int) (whole:Bool):Prop where
 ok:Oy p p.1.toNat L D
 nodup:L.Nodup
 first: ∃A,L=upto p.1.toNat::A
 gen: ∀x∈L,Gn p.1.toNat (p.2.2.1.map some) x
 all:whole=true-> ∀x,Gn p.1.toNat (p.2.2.1.map some) x->x∈L
 big:whole=false->L.length=3000/\ ∃z,Gn p.1.toNat (p.2.2.1.map some) z/\z∉L
theorem Cx.nodup {m:Nat} {L:List (List Int)} {Hx:List Int} (h:Cx m L Hx):L.Nodup:=
 List.pairwise_iff_getElem.2 λi j hi hj jF e=>by have:=h.inj hi hj e;omega
theorem Zj {p:PP} (hv:Ax p=true):Reach p (Ds p.2.2.1 (upto p.1.toNat)).1 (Ds p.2.2.1 (upto p.1.toNat)).2.1 (Ds p.2.2.1 (upto p.1.toNat)).2.2:=by
 have hV:=valid hv
 have hn:=hV.n
 have hl:(upto p.1.toNat).length=p.1.toNat:=Py _
 have hr: ∀y∈upto p.1.toNat,0<=y/\y<p.1:= λy hy=>by have:=Ir.1 hy;omega
 obtain ⟨b1,b2⟩:=ss hv (by omega) hr
 rw [hl] at b1
 obtain ⟨a1,a2,a3⟩:=BQ hv (by omega) hr (λx=>Gn p.1.toNat (p.2.2.1.map some) x) .id λx hx l hl=>zq hx hl
 exact ⟨b1,b1.ok.nodup,b2,a1,λhw x hx=>yX (by obtain ⟨A,e⟩:=b2;rw [e];simp) (a2 hw) hx,a3⟩
theorem Wz {p:PP} (hV:Valid p) {x:List Int} :x∈jP p.1.toNat (Tq p.1 p.2.2.1).2 p.1.toNat 0↔Gn p.1.toNat (p.2.2.1.map some) x:=by
 have hn:=hV.n
 have hg:=nY (gV hV).2.2
 have hS:BK p.1.toNat λg=>some g∈p.2.2.1.map some:=⟨⟨by omega,by omega⟩,λg Zv=>by obtain ⟨g',e,h⟩:=hg _ Zv;cases e;exact h⟩
 refine (nF (by omega) (by omega) _ 0 (by omega) (sA hV).2.2.1 x).trans ⟨λh=>(nd (by omega) (by omega) hg h.1).1 h.2.2,λh=>?_⟩
 have hp:=Yh.pm hS h
 exact ⟨hp,λi hi=>absurd hi (Nat.not_lt_zero _),(nd (by omega) (by omega) hg hp).2 h⟩
theorem pL {p:PP} (hV:Valid p):(jP p.1.toNat (Tq p.1 p.2.2.1).2 p.1.toNat 0).Nodup:=by
 have hn:=hV.n
 exact nG (by omega) (by omega) _ 0 (by omega) (sA hV).2.2.1
theorem count_eq {p:PP} (hv:Ax p=true):Pk p=((jP p.1.toNat (Tq p.1 p.2.2.1).2 p.1.toNat 0).length:Int):=by
 unfold Pk
 rw [if_pos hv,xc]
theorem vO {p:PP} (hv:Ax p=true):(Ds p.2.2.1 (upto p.1.toNat)).2.2=decide (1<=Pk p/\Pk p<=3000):=by
 have hV:=valid hv
 have h:=Zj hv
 rw [count_eq hv]
 have pD:=pL hV
 have h1:=cY h.nodup λx hx=>(Wz hV).2 (h.gen x hx)
 obtain ⟨A,hA⟩:=h.first
 have nq:1<=(Ds p.2.2.1 (upto p.1.toNat)).1.length:=by rw [hA];simp
 cases hw:(Ds p.2.2.1 (upto p.1.toNat)).2.2 with
 |true=>
  have h2:=cY pD λx hx=>h.all hw x ((Wz hV).1 hx)
  have h3:=h.ok.ok.pb
  exact (decide_eq_true ⟨by omega,by omega⟩).symm
 |false=>
  obtain ⟨h2,z,h3,h4⟩:=h.big hw
  have h5:=cY (l1:=z::(Ds p.2.2.1 (upto p.1.toNat)).1) (List.nodup_cons.2 ⟨h4,h.nodup⟩) λx hx=>by
   rcases List.mem_cons.1 hx with rfl|hx
   ·exact (Wz hV).2 h3
   ·exact (Wz hV).2 (h.gen x hx)
  simp only [List.length_cons] at h5
  exact (decide_eq_false (by omega)).symm
end Go.Proofs.Ytjbdmibbbpdnnaa

namespace Go.Proofs.Ytjbdmibbbpdnnaa
open Go.RowKit
def tA (g:List (List Int)) (s:List Int):List (List Int):=(Ag g.length).map λl=>Aa s (Af g l)
noncomputable abbrev ew:Spec:=Cz (.pair Dl (.pair tL .unit)) bL false true (λx=>Ax x.1=true/\List.length x.2.1<=20/\ ∀y∈x.2.1,0<=y/\y<x.1.1) (λx=>tA x.1.2.2.1 x.2.1)
abbrev EX:Type:=List (List Int)×List Int×List Int×List Int
def Wg (g:List (List Int)) (k:Int) (x:List Int) (d:Int):List Int->EX->List Int->EX×List Int
 | [],s,row=>(s,row)
 |l::ls,s,row=>if Aa x (Af g l)∈s.1 then Wg g k x d ls s (row++ [(s.1.idxOf (Aa x (Af g l)):Int)])
  else Wg g k x d ls (s.1++ [Aa x (Af g l)],s.2.1++ [d+1],s.2.2.1++ [k],s.2.2.2++ [l]) (row++ [(s.1.length:Int)])
def Xr (g:List (List Int)) (ls:List Int):Nat->Nat->EX->List (List Int)->EX×List (List Int)
 |0,_,s,N=>(s,N)
 |f+1,k,s,N=>if k<s.1.length then Xr g ls f (k+1) (Wg g (k:Int) (s.1.getD k []) (s.2.1.getD k 0) ls s []).1 (N++ [(Wg g (k:Int) (s.1.getD k []) (s.2.1.getD k 0) ls s []).2]) else (s,N)
def cP (key:ByteArray):List (List Int)->Nat->Option Int
 | [],_=>none
 |x::r,i=>if Ml x=key then some (i:Int) else cP key r (i+1)
def Rt (L:List (List Int)):ByteArray->Option Int:= λkey=>cP key L 0
def Aaj (p:PP) (r:EX×List (List Int)):Xg.den:=(p,r.1.1,r.1.2.1,Rt r.1.1,r.1.2.2.1,r.1.2.2.2,r.2,())
def Ic (p:PP):Xg.den:=Aaj p (Xr p.2.2.1 (Ag p.2.2.1.length) 3001 0 ([upto p.1.toNat],[0],[0],[0]) [])
noncomputable def Bl (p:PP):Bool:=Ax p&&(Ds p.2.2.1 (upto p.1.toNat)).2.2
noncomputable abbrev Ol:Spec:=Cz (.pair Dl .unit) (.pair (.optr Xg) (.pair .bool .unit)) true false (λx=>Dn x.1) (λx=>if Bl x.1=true then (some (Ic x.1),true,()) else (none,false,()))
abbrev xO:Type:=Int×Int×ByteArray×List (List Int)×List (List Int)×PUnit
theorem SX (p:Int×ByteArray×List (List Int)×Unit) (s:List Int) (P:List (List Int)->Prop):(∃(y3:List Int),Ih.fn ((↑p.2.2.1.length:Int),())=some y3/\0=0/\0=([]:List Int).length/\Bk (λ(v4:xO) (k5:xO->Prop)=>Br (decide (v4.1<(↑y3.length:Int))) (∃(y6:Int),idx y3 v4.1=some y6/\ ∃(y7:List Int),Rc.fn (v4.2.2.2.1,y6,())=some y7/\ ∃(y8:List Int),Uj.fn (s,y7,())=some y8/\0=0/\v4.2.2.2.2.1.length=v4.2.2.2.2.1.length/\v4.2.2.2.2.1.length+(List.take 1 (List.drop 0 [y8])).length<=Bp/\0=0/\(v4.2.2.2.2.1++List.take 1 (List.drop 0 [y8])).length=(v4.2.2.2.2.1++List.take 1 (List.drop 0 [y8])).length/\k5 (IntKind.i64.wrap (v4.1+(1:Int)),v4.2.1,v4.2.2.1,v4.2.2.2.1,v4.2.2.2.2.1++List.take 1 (List.drop 0 [y8]),())) (P (List.take v4.2.2.2.2.1.length (List.drop 0 v4.2.2.2.2.1)))) ((0:Int),p.1,p.2.1,p.2.2.1,[],PUnit.unit))=fnW Cr (look [(117,Ih),(157,Rc),(156,Uj)]) ew Try.f129 (p,s,()) P:=by kernel_rfl
theorem RS (p:PP) (s:List Int) (h:Ax p=true/\s.length<=20/\ ∀y∈s,0<=y/\y<p.1):fnW Cr (look [(117,Ih),(157,Rc),(156,Uj)]) ew Try.f129 (p,s,()) (λ(z:List (List Int))=>z=tA p.2.2.1 s):=by
 obtain ⟨hv,hs,hr⟩:=h
 have hV:=valid hv
 have hf:=hV.pb
 refine Eq.mp (SX p s _) ⟨Ag p.2.2.1.length,if_pos ⟨Int.natCast_nonneg _,by show ((p.2.2.1.length:Nat):Int)<=8;omega⟩,rfl,rfl,?_⟩
 have hL:=Kv p.2.2.1.length
 refine Aj (Ag p.2.2.1.length).length (λv=>v.1) (λj v=>v=((j:Int),p.1,p.2.1,p.2.2.1,((Ag p.2.2.1.length).take j).map (λl=>Aa s (Af p.2.2.1 l)),())) rfl (by simp) ?_
 rintro j v K hj hi rfl hK
 dsimp only
 refine Br.dec (λhl=>?_) λhl=>?_
 ·have hl:j<(Ag p.2.2.1.length).length:=by omega
  have ZW:=Iq (List.getElem_mem hl)
  obtain ⟨h1,h2⟩:=jL hV ZW
  refine ⟨_,Aq hl,_,if_pos ⟨ZW,hf.2,hV.perm⟩,_,if_pos ⟨hs,λy hy=>by have:=hr y hy;show 0<=y/\y<((Af p.2.2.1 (Ag p.2.2.1.length)[j]).length:Int);omega⟩,rfl,rfl,?_,rfl,rfl,?_⟩
  ·show (((Ag p.2.2.1.length).take j).map _).length+1<=4294967296
   rw [List.length_map,List.length_take]
   omega
  ·rw [Al (by omega)]
   refine hK hl _ rfl ?_
   have e:(Ag p.2.2.1.length).take (j+1)=(Ag p.2.2.1.length).take j++ [(Ag p.2.2.1.length)[j]]:=by
    rw [List.take_add_one,List.getElem?_eq_getElem hl,Option.toList_some]
   rw [e,List.map_append]
   rfl
 ·have:j=(Ag p.2.2.1.length).length:=by omega
  subst this
  rw [List.drop_zero,List.take_length,List.take_length]
  rfl
theorem xI:Sound Try.prog 129 ew:=
 Sound.Cz Bo (Ah Yb (Ah oA (Ah Pv Ap))) mixed Try.func129 (by kernel_rfl) (by kernel_rfl) λx h=>RS x.1 x.2.1 h
end Go.Proofs.Ytjbdmibbbpdnnaa

namespace Go.Proofs.Ytjbdmibbbpdnnaa
open Go.RowKit
theorem Ff {α:Type} {xs ys:List α} {i:Nat} {d:α} (h:i<xs.length):(xs++ys).getD i d=xs.getD i d:=by
 rw [List.getD_eq_getElem?_getD,List.getD_eq_getElem?_getD,List.getElem?_append_left h]
theorem dV {α:Type} {xs:List α} {x d:α} :(xs++ [x]).getD xs.length d=x:=by
 rw [List.getD_eq_getElem?_getD,List.getElem?_append_right (Nat.le_refl _),Nat.sub_self];rfl
theorem Cy {α:Type} {xs:List α} {i:Nat} {d:α} (h:i<xs.length):xs.getD i d=xs[i]:=by
 rw [List.getD_eq_getElem?_getD,List.getElem?_eq_getElem h];rfl
structure Lv (g:List (List Int)) (ls:List Int) (k:Nat) (L:List (List Int)) (D:List Int):Prop where
 len:D.length=L.length
 pos:0<L.length
 mono: ∀i j,i<=j->j<L.length->D.getD i 0<=D.getD j 0
 FK:k<L.length-> ∀j,j<L.length->D.getD j 0<=D.getD k 0+1
 par: ∀j,0<j->j<L.length-> ∃i l,i<j/\l∈ls/\L.getD j []=Aa (L.getD i []) (Af g l)/\D.getD j 0=D.getD i 0+1
 zero:D.getD 0 0=0
theorem Lv.add {g:List (List Int)} {ls:List Int} {k:Nat} {L:List (List Int)} {D:List Int} (h:Lv g ls k L D) (hk:k<L.length) {l:Int} (hl:l∈ls):
  Lv g ls k (L++ [Aa (L.getD k []) (Af g l)]) (D++ [D.getD k 0+1]):=by
 have hlen:=h.len
 have hD: ∀i,i<L.length->(D++ [D.getD k 0+1]).getD i 0=D.getD i 0:= λi hi=>Ff (by omega)
 have TO:(D++ [D.getD k 0+1]).getD L.length 0=D.getD k 0+1:=by rw [<-hlen];exact dV
 refine ⟨by simp [hlen],by simp,λi j jF hj=>?_,λ_ j hj=>?_,λj h0 hj=>?_,?_⟩
 ·rw [List.length_append,List.length_singleton] at hj
  by_cases e:j=L.length
  ·subst e
   rw [TO]
   by_cases e':i=L.length
   ·subst e';rw [TO];exact Int.le_refl _
   ·rw [hD i (by omega)]
    exact h.FK hk i (by omega)
  ·rw [hD i (by omega),hD j (by omega)]
   exact h.mono i j jF (by omega)
 ·rw [List.length_append,List.length_singleton] at hj
  rw [hD k hk]
  by_cases e:j=L.length
  ·subst e;rw [TO];exact Int.le_refl _
  ·rw [hD j (by omega)];exact h.FK hk j (by omega)
 ·rw [List.length_append,List.length_singleton] at hj
  by_cases e:j=L.length
  ·subst e
   exact ⟨k,l,hk,hl,by rw [dV,Ff hk],by rw [TO,hD k hk]⟩
  ·obtain ⟨i,l',h1,h2,h3,h4⟩:=h.par j h0 (by omega)
   exact ⟨i,l',h1,h2,by rw [Ff (by omega),Ff (by omega)];exact h3,by rw [hD j (by omega),hD i (by omega)];exact h4⟩
 ·rw [hD 0 h.pos];exact h.zero
theorem mG {g:List (List Int)} {ls:List Int} {k:Nat} : ∀(DB:List Int) (L:List (List Int)) (D:List Int),(∀l∈DB,l∈ls)->Lv g ls k L D->k<L.length-> ∀ {x:List Int} {d:Int},x=L.getD k []->d=D.getD k 0->
  Lv g ls k (Ey g x d DB L D).1 (Ey g x d DB L D).2.1/\(∃A,(Ey g x d DB L D).1=L++A)/\(∃A,(Ey g x d DB L D).2.1=D++A)/\
  ((Ey g x d DB L D).2.2=true-> ∀l∈DB,∃j,j<(Ey g x d DB L D).1.length/\(Ey g x d DB L D).1.getD j []=Aa x (Af g l)/\(Ey g x d DB L D).2.1.getD j 0<=d+1)
 | [],L,D,_,h,_,x,d,_,_=>⟨h,⟨[],by simp [Ey]⟩,⟨[],by simp [Ey]⟩,λ_ l hl=>by cases hl⟩
 |l::DB,L,D,hs,h,hk,x,d,hx,hd=>by
  have qV: ∀l∈DB,l∈ls:= λl' h'=>hs l' (List.mem_cons_of_mem _ h')
  have hlen:=h.len
  simp only [Ey]
  split
  ·rename_i hm
   obtain ⟨a1,⟨A,a2⟩,⟨A',a3⟩,a4⟩:=mG DB L D qV h hk hx hd
   refine ⟨a1,⟨A,a2⟩,⟨A',a3⟩,λe l' Hg=>?_⟩
   rcases List.mem_cons.1 Hg with rfl|Hg
   ·obtain ⟨j,hj,hjx⟩:=List.mem_iff_getElem.1 hm
    refine ⟨j,by rw [a2,List.length_append];omega,by rw [a2,Ff hj,Cy hj];exact hjx,?_⟩
    rw [a3,Ff (by omega),hd]
    exact h.FK hk j hj
   ·exact a4 e l' Hg
  ·split
   ·exact ⟨h,⟨[],by simp⟩,⟨[],by simp⟩,λe=>by cases e⟩
   ·have JX:=h.add hk (hs l (by simp))
    rw [<-hx,<-hd] at JX
    obtain ⟨a1,⟨A,a2⟩,⟨A',a3⟩,a4⟩:=mG DB (L++ [Aa x (Af g l)]) (D++ [d+1]) qV JX (by rw [List.length_append];omega) (x:=x) (d:=d) (by rw [Ff hk];exact hx) (by rw [Ff (by omega)];exact hd)
    refine ⟨a1,⟨_::A,by rw [a2,List.append_assoc];rfl⟩,⟨_::A',by rw [a3,List.append_assoc];rfl⟩,λe l' Hg=>?_⟩
    rcases List.mem_cons.1 Hg with rfl|Hg
    ·refine ⟨L.length,by rw [a2,List.length_append,List.length_append];simp only [List.length_singleton];omega,?_,?_⟩
     ·rw [a2,Ff (by simp),dV]
     ·rw [a3,Ff (by simp [hlen]),<-hlen,dV]
      exact Int.le_refl _
    ·exact a4 e l' Hg
structure ji (g:List (List Int)) (ls:List Int) (L:List (List Int)) (D:List Int):Prop where
 len:D.length=L.length
 pos:0<L.length
 zero:D.getD 0 0=0
 par: ∀j,0<j->j<L.length-> ∃i l,i<j/\l∈ls/\L.getD j []=Aa (L.getD i []) (Af g l)/\D.getD j 0=D.getD i 0+1
 step: ∀i,i<L.length-> ∀l∈ls,∃j,j<L.length/\L.getD j []=Aa (L.getD i []) (Af g l)/\D.getD j 0<=D.getD i 0+1
theorem vD {g:List (List Int)} {ls:List Int} : ∀(f k:Nat) (L:List (List Int)) (D:List Int),3001<=f+k->Lv g ls k L D->k<=L.length->
  (∀i,i<k-> ∀l∈ls,∃j,j<L.length/\L.getD j []=Aa (L.getD i []) (Af g l)/\D.getD j 0<=D.getD i 0+1)->
  (Gs g ls f k L D).2.2=true->(Gs g ls f k L D).1.length<=3000->ji g ls (Gs g ls f k L D).1 (Gs g ls f k L D).2.1
 |0,k,L,D,hf,h,UA,hc,hw,h3=>by
  simp only [Gs] at h3⊢
  omega
 |f+1,k,L,D,hf,h,UA,hc,hw,h3=>by
  simp only [Gs] at hw h3⊢
  split
  ·rename_i hk
   rw [if_pos hk] at hw h3
   obtain ⟨a1,⟨A,a2⟩,⟨A',a3⟩,a4⟩:=mG (x:=L.getD k []) (d:=D.getD k 0) ls L D (λ_ h=>h) h hk rfl rfl
   have hlen:=h.len
   split
   ·rename_i L' D' he
    rw [he] at a1 a2 a3 a4
    simp only [he] at hw h3
    have a2:L'=L++A:=a2
    have a3:D'=D++A':=a3
    have a4:=a4 rfl
    dsimp only at a4
    have hLl:L.length<=L'.length:=by rw [a2,List.length_append];omega
    refine vD f (k+1) L' D' (by omega) ⟨a1.len,a1.pos,a1.mono,λhk1 j hj=>?_,a1.par,a1.zero⟩ (by omega) (λi hi l hl=>?_) hw h3
    ·have h1:D'.getD j 0<=D'.getD k 0+1:=a1.FK (show k<L'.length by omega) j hj
     have h2:D'.getD k 0<=D'.getD (k+1) 0:=a1.mono k (k+1) (by omega) hk1
     omega
    ·by_cases e:i=k
     ·subst e
      obtain ⟨j,b1,b2,b3⟩:=a4 l hl
      refine ⟨j,b1,?_,?_⟩
      ·rw [b2,a2,Ff (by omega)]
      ·rw [show D'.getD i 0=D.getD i 0 by rw [a3,Ff (by omega)]];exact b3
     ·obtain ⟨j,b1,b2,b3⟩:=hc i (by omega) l hl
      refine ⟨j,by omega,?_,?_⟩
      ·rw [a2,Ff (by omega),Ff (by omega)];exact b2
      ·rw [a3,Ff (by omega),Ff (by omega)];exact b3
   ·rename_i L' D' he
    simp only [he] at hw
    cases hw
  ·rename_i hk
   exact ⟨h.len,h.pos,h.zero,h.par,λi hi=>hc i (by have hi:i<L.length:=hi;omega)⟩
theorem fO {p:PP} {s:List Int} (hv:Ax p=true) (hs:s.length<=20) (hr: ∀y∈s,0<=y/\y<p.1) (hw:(Ds p.2.2.1 s).2.2=true):
  ji p.2.2.1 (Ag p.2.2.1.length) (Ds p.2.2.1 s).1 (Ds p.2.2.1 s).2.1:=by
 have hb:=(ss hv hs hr).1.ok.pb
 refine vD 3001 0 [s] [0] (by omega) ⟨rfl,by simp,λi j jF hj=>?_,λ_ j hj=>?_,λj h0 hj=>?_,rfl⟩ (Nat.zero_le _) (λi hi=>absurd hi (Nat.not_lt_zero _)) hw hb
 ·have:j=0:=by simpa using hj
  subst this
  have:i=0:=by omega
  subst this
  exact Int.le_refl _
 ·have:j=0:=by simpa using hj
  subst this
  simp
 ·have:j=0:=by simpa using hj
  omega
theorem kX {p:PP} (hV:Valid p) {x:List Int} (hx: ∀y∈x,0<=y/\y<p.1) {l:Int} (hl:l∈Ag p.2.2.1.length):
  -l∈Ag p.2.2.1.length/\Aa (Aa x (Af p.2.2.1 l)) (Af p.2.2.1 (-l))=x:=by
 obtain ⟨k,hk,Iz⟩:=Mb (Iq hl)
 have hg:=db (hV.perm _ (List.getElem_mem hk))
 have hgl:=hV.len _ (List.getElem_mem hk)
 have hn:=hV.n
 have hp:Pm p.1.toNat (p.2.2.1[k]):=⟨by omega,hg⟩
 have key: ∀q r:List Int,Pm p.1.toNat q->Pm p.1.toNat r->Aa q r=upto p.1.toNat->Aa (Aa x q) r=x:= λq r hq hr he=>by
  refine List.ext_getElem (by rw [Ob,Ob]) λi h1 h2=>?_
  have hxi:=hx _ (List.getElem_mem h2)
  obtain ⟨xi,hxe⟩:=Int.eq_ofNat_of_zero_le hxi.1
  have CW:xi<p.1.toNat:=by omega
  have e1:ap (Aa q r) xi=ap (upto p.1.toNat) xi:=congrArg (λz=>ap z xi) he
  rw [Ga hq hr CW,eK CW] at e1
  simp only [Aa,List.getElem_map,hxe]
  have h3:=(hq.Ss CW).1
  have h4:=(hr.Ss (hq.lt CW)).1
  rw [h3,h4,e1]
 rcases Iz with rfl|rfl
 ·refine ⟨(Wv hk).2,?_⟩
  rw [Lq hk,Lp hk]
  exact key _ _ hp hp.inv (cm hp)
 ·refine ⟨by rw [Int.neg_neg];exact (Wv hk).1,?_⟩
  rw [Int.neg_neg,Lq hk,Lp hk]
  exact key _ _ hp.inv hp (Vk hp)
structure Iv (g:List (List Int)) (ls:List Int) (L:List (List Int)) (S:List Int->Prop) (d:List Int->Int):Prop where
 nn: ∀x∈L,0<=d x
 zero: ∀x∈L,d x=0↔S x
 step: ∀x∈L,∀l∈ls,d (Aa x (Af g l))<=d x+1
 down: ∀x∈L,0<d x-> ∃l∈ls,d (Aa x (Af g l))=d x-1
structure mi (g:List (List Int)) (ls:List Int) (L:List (List Int)):Prop where
 next: ∀x∈L,∀l∈ls,Aa x (Af g l)∈L
 back: ∀x∈L,∀l∈ls,-l∈ls/\Aa (Aa x (Af g l)) (Af g (-l))=x
theorem Iv.le {g:List (List Int)} {ls:List Int} {L:List (List Int)} {S:List Int->Prop} {d d':List Int->Int} (hc:mi g ls L) (h:Iv g ls L S d) (h':Iv g ls L S d'):
  ∀(n:Nat) (x:List Int),x∈L->d' x=n->d x<=n
 |0,x,hx,e=>by
  have:=(h.zero x hx).2 ((h'.zero x hx).1 e)
  omega
 |n+1,x,hx,e=>by
  obtain ⟨l,hl,hd⟩:=h'.down x hx (by omega)
  obtain ⟨b1,b2⟩:=hc.back x hx l hl
  have h1:=Iv.le hc h h' n _ (hc.next x hx l hl) (by omega)
  have h2:=h.step _ (hc.next x hx l hl) _ b1
  rw [b2] at h2
  omega
theorem Iv.eq {g:List (List Int)} {ls:List Int} {L:List (List Int)} {S:List Int->Prop} {d d':List Int->Int} (hc:mi g ls L) (h:Iv g ls L S d) (h':Iv g ls L S d') {x:List Int} (hx:x∈L):d x=d' x:=by
 have n1:=h.nn x hx
 have n2:=h'.nn x hx
 have h1:=Iv.le hc h h' (d' x).toNat x hx (by omega)
 have h2:=Iv.le hc h' h (d x).toNat x hx (by omega)
 omega
theorem Iv.FK {g:List (List Int)} {ls:List Int} {L:List (List Int)} {S:List Int->Prop} {d:List Int->Int} (hc:mi g ls L) (h:Iv g ls L S d) {x:List Int} (hx:x∈L) {l:Int} (hl:l∈ls):
  d x-1<=d (Aa x (Af g l)):=by
 obtain ⟨b1,b2⟩:=hc.back x hx l hl
 have h2:=h.step _ (hc.next x hx l hl) _ b1
 rw [b2] at h2
 omega
def kZ (L:List (List Int)) (D:List Int) (x:List Int):Int:=if x∈L then D.getD (L.idxOf x) 0 else-1
theorem Jb {L:List (List Int)} (hn:L.Nodup) {j:Nat} (hj:j<L.length):L.idxOf (L.getD j [])=j:=by
 rw [Cy hj]
 exact hn.idxOf_getElem j hj
theorem Jr {L:List (List Int)} {j:Nat} (hj:j<L.length):L.getD j []∈L:=by rw [Cy hj];exact List.getElem_mem hj
theorem fT {L:List (List Int)} {D:List Int} (hn:L.Nodup) {j:Nat} (hj:j<L.length):kZ L D (L.getD j [])=D.getD j 0:=by
 unfold kZ
 rw [if_pos (Jr hj),Jb hn hj]
theorem Xu {p:PP} (hV:Valid p) {m:Nat} {L:List (List Int)} {D:List Int} (hb:Oy p m L D) (h:ji p.2.2.1 (Ag p.2.2.1.length) L D):mi p.2.2.1 (Ag p.2.2.1.length) L where
 next x hx l hl:=by
  obtain ⟨i,hi,rfl⟩:=List.mem_iff_getElem.1 hx
  obtain ⟨j,h1,h2,_⟩:=h.step i hi l hl
  rw [Cy hi] at h2
  rw [<-h2]
  exact Jr h1
 back x hx l hl:=kX hV (hb.row x hx) hl
theorem cR {p:PP} (hV:Valid p) {m:Nat} {L:List (List Int)} {D:List Int} (hb:Oy p m L D) (h:ji p.2.2.1 (Ag p.2.2.1.length) L D):
  Iv p.2.2.1 (Ag p.2.2.1.length) L (λx=>x=L.getD 0 []) (kZ L D) where
 nn x hx:=by
  obtain ⟨i,hi,rfl⟩:=List.mem_iff_getElem.1 hx
  rw [<-Cy (d:= []) hi,fT hb.ok.nodup hi]
  have:=hb.dep i (by rw [hb.len];exact hi)
  rw [Cy (by rw [hb.len];exact hi)]
  omega
 zero x hx:=by
  obtain ⟨i,hi,rfl⟩:=List.mem_iff_getElem.1 hx
  rw [<-Cy (d:= []) hi,fT hb.ok.nodup hi]
  constructor
  ·intro h0
   by_cases e:i=0
   ·rw [e]
   ·obtain ⟨k,l,h1,_,_,h4⟩:=h.par i (by omega) hi
    have hk:k<D.length:=by rw [hb.len];omega
    have:=hb.dep k hk
    rw [<-Cy (d:=0) hk] at this
    omega
  ·intro e
   have:i=0:=by
    have h1:=Jb hb.ok.nodup hi
    have h2:=Jb hb.ok.nodup h.pos
    rw [e,h2] at h1
    exact h1.symm
   rw [this]
   exact h.zero
 step x hx l hl:=by
  obtain ⟨i,hi,rfl⟩:=List.mem_iff_getElem.1 hx
  rw [<-Cy (d:= []) hi,fT hb.ok.nodup hi]
  obtain ⟨j,h1,h2,h3⟩:=h.step i hi l hl
  rw [<-h2,fT hb.ok.nodup h1]
  exact h3
 down x hx h0:=by
  obtain ⟨i,hi,rfl⟩:=List.mem_iff_getElem.1 hx
  rw [<-Cy (d:= []) hi,fT hb.ok.nodup hi] at h0⊢
  have hi0:0<i:=by
   rcases Nat.eq_zero_or_pos i with e|e
   ·subst e;rw [h.zero] at h0;omega
   ·exact e
  obtain ⟨k,l,h1,h2,h3,h4⟩:=h.par i hi0 hi
  have hk:k<L.length:=by omega
  obtain ⟨b1,b2⟩:=kX hV (hb.row _ (Jr hk)) h2
  refine ⟨-l,b1,?_⟩
  rw [h3,b2,fT hb.ok.nodup hk]
  omega
end Go.Proofs.Ytjbdmibbbpdnnaa

namespace Go.Proofs.Ytjbdmibbbpdnnaa
open Go.RowKit
def Ts (x:Int):List Int->List Int×List Int->List Int×List Int
 | [],s=>s
 |t::r,s=>if s.1.getD t.toNat 0<0 then Ts x r (s.1.set t.toNat (s.1.getD x.toNat 0+1),s.2++ [t]) else Ts x r s
def EE (N:Nat->List Int):Nat->List Int->List Int->List Int
 |0,out,_=>out
 |_+1,out,[]=>out
 |f+1,out,x::q=>EE N f (Ts x (N x.toNat) (out,q)).1 (Ts x (N x.toNat) (out,q)).2
def IJ (S:Nat->Bool) (m:Nat):List Int:=(List.range m).map λi=>if S i=true then 0 else-1
def PK (S:Nat->Bool) (m:Nat):List Int:=((List.range m).filter S).map λ(i:Nat)=>(i:Int)
def lM (N:Nat->List Int) (S:Nat->Bool) (m:Nat):List Int:=EE N (m+1) (IJ S m) (PK S m)
def aD (out:List Int):Nat:=out.countP λv=>decide (v<0)
theorem dW {xs:List Int} {i j:Nat} {v:Int} (hj:j<xs.length):(xs.set i v).getD j 0=if i=j then v else xs.getD j 0:=by
 rw [Oe]
 by_cases e:i=j
 ·subst e;rw [if_pos ⟨rfl,hj⟩,if_pos rfl]
 ·rw [if_neg λh=>e h.1,if_neg e]
theorem wY {xs:List Int} {i:Nat} {v:Int} (hi:i<xs.length) (h:xs.getD i 0<0) (hv:0<=v):aD (xs.set i v)+1=aD xs:=by
 unfold aD
 rw [List.countP_set hi]
 rw [PU hi] at h
 have hp:0<xs.countP λv=>decide (v<0):=List.countP_pos_iff.2 ⟨xs[i],List.getElem_mem hi,decide_eq_true h⟩
 simp only [decide_eq_true h,if_true]
 rw [if_neg (by simp;omega)]
 omega
structure DI (N:Nat->List Int) (S:Nat->Bool) (m:Nat) (w:Nat->Prop) (out q:List Int):Prop where
 len:out.length=m
 ge: ∀i,i<m-> -1<=out.getD i 0
 inq: ∀y∈q,0<=y/\y<m/\0<=out.getD y.toNat 0
 src: ∀i,i<m->S i=true->out.getD i 0=0
 SC: ∀i,i<m->out.getD i 0=0->S i=true
 par: ∀i,i<m->0<out.getD i 0-> ∃j,j<m/\(i:Int)∈N j/\out.getD j 0=out.getD i 0-1
 done: ∀i,i<m->0<=out.getD i 0->(i:Int)∉q-> ¬w i-> ∀t∈N i,0<=out.getD t.toNat 0/\out.getD t.toNat 0<=out.getD i 0+1
 ord:q.Pairwise λa b=>out.getD a.toNat 0<=out.getD b.toNat 0
structure DX (N:Nat->List Int) (S:Nat->Bool) (m:Nat) (x:Nat) (d:Int) (out q:List Int):Prop where
 base:DI N S m (λi=>i=x) out q
 lt:x<m
 Ss:out.getD x 0=d
 d0:0<=d
 lo: ∀y∈q,d<=out.getD y.toNat 0
 hi: ∀i,i<m->out.getD i 0<=d+1
def fI (N:Nat->List Int) (m:Nat):Prop:= ∀i,i<m-> ∀t∈N i,0<=t/\t<m
theorem BV {N:Nat->List Int} {S:Nat->Bool} {m x:Nat} {d:Int} {out q:List Int} (hr:fI N m) (h:DX N S m x d out q) {t:Int} (ht:t∈N x) (htm:0<=t/\t<m) (lI:out.getD t.toNat 0<0):
  DX N S m x d (out.set t.toNat (d+1)) (q++ [t]):=by
 obtain ⟨⟨b1,b2,b3,b4,b5,b6,b7,b8⟩,h1,h2,h3,h4,h5⟩:=h
 obtain ⟨tn,rfl⟩:=Int.eq_ofNat_of_zero_le htm.1
 simp only [Int.toNat_natCast] at lI⊢
 have XF:tn<m:=by omega
 have hg: ∀i,i<m->(out.set tn (d+1)).getD i 0=if tn=i then d+1 else out.getD i 0:= λi hi=>dW (by omega)
 have Ep: ∀i,0<=out.getD i 0->tn≠i:= λi hi e=>by subst e;omega
 have hq: ∀y∈q,(out.set tn (d+1)).getD y.toNat 0=out.getD y.toNat 0:= λy hy=>by
  have:=b3 y hy
  rw [hg _ (by omega),if_neg (Ep _ this.2.2)]
 refine ⟨⟨by rw [List.length_set];exact b1,λi hi=>?_,λy hy=>?_,λi hi hs=>?_,λi hi h0=>?_,λi hi h0=>?_,λi hi h0 hn hw=>?_,?_⟩,h1,?_,h3,λy hy=>?_,λi hi=>?_⟩
 ·rw [hg i hi];split
  ·omega
  ·exact b2 i hi
 ·rcases List.mem_append.1 hy with hy|hy
  ·rw [hq y hy];exact b3 y hy
  ·rw [List.mem_singleton.1 hy]
   refine ⟨by omega,by omega,?_⟩
   rw [hg _ (by omega),if_pos (by omega)];omega
 ·have:=b4 i hi hs
  rw [hg i hi,if_neg (Ep i (by omega))];exact this
 ·rw [hg i hi] at h0
  split at h0
  ·omega
  ·exact b5 i hi h0
 ·rw [hg i hi] at h0⊢
  by_cases e:tn=i
  ·subst e
   rw [if_pos rfl]
   exact ⟨x,h1,ht,by rw [hg x h1,if_neg (Ep x (by omega)),h2];omega⟩
  ·rw [if_neg e] at h0⊢
   obtain ⟨j,j1,j2,j3⟩:=b6 i hi h0
   exact ⟨j,j1,j2,by rw [hg j j1,if_neg (Ep j (by omega))];exact j3⟩
 ·rw [hg i hi] at h0⊢
  have Ns: ¬tn=i:= λe=>hn (by rw [<-e];simp)
  rw [if_neg Ns] at h0⊢
  intro t mb
  obtain ⟨c1,c2⟩:=b7 i hi h0 (λh=>hn (List.mem_append_left _ h)) hw t mb
  have:=hr i hi t mb
  rw [hg _ (by omega),if_neg (Ep _ c1)]
  exact ⟨c1,c2⟩
 ·refine List.pairwise_append.2 ⟨?_,List.pairwise_singleton _ _,λa ha b hb=>?_⟩
  ·refine b8.imp_of_mem λha hb h=>?_
   rw [hq _ ha,hq _ hb];exact h
  ·rw [List.mem_singleton.1 hb,hq _ ha,hg _ (by omega),if_pos (by omega)]
   have:=b3 a ha
   exact h5 _ (by omega)
 ·rw [hg x h1,if_neg (Ep x (by omega))];exact h2
 ·rcases List.mem_append.1 hy with hy|hy
  ·rw [hq y hy];exact h4 y hy
  ·rw [List.mem_singleton.1 hy,hg _ (by omega),if_pos (by omega)];omega
 ·rw [hg i hi];split
  ·exact Int.le_refl _
  ·exact h5 i hi
theorem JP {N:Nat->List Int} {S:Nat->Bool} {m x:Nat} {d:Int} (hr:fI N m): ∀(ts:List Int) (out q:List Int),(∀t∈ts,t∈N x)->DX N S m x d out q->
  DX N S m x d (Ts x ts (out,q)).1 (Ts x ts (out,q)).2/\(Ts x ts (out,q)).2.length+aD (Ts x ts (out,q)).1=q.length+aD out/\
  (∀t∈ts,0<=(Ts x ts (out,q)).1.getD t.toNat 0)/\(∀i,i<m->0<=out.getD i 0->(Ts x ts (out,q)).1.getD i 0=out.getD i 0)
 | [],out,q,_,h=>⟨h,rfl,(λt ht=>nomatch ht),λ_ _ _=>rfl⟩
 |t::ts,out,q,hs,h=>by
  have qV: ∀t∈ts,t∈N x:= λt' h'=>hs t' (List.mem_cons_of_mem _ h')
  have htm:=hr x h.lt t (hs t (by simp))
  simp only [Ts]
  have QX:out.getD ((x:Nat):Int).toNat 0=d:=by rw [Int.toNat_natCast];exact h.Ss
  by_cases lI:out.getD t.toNat 0<0
  ·rw [if_pos lI,QX]
   have h1:=BV hr h (hs t (by simp)) htm lI
   have hd:=h.d0
   have hlen:=h.base.len
   obtain ⟨a1,a2,a3,a4⟩:=JP hr ts _ _ qV h1
   have hti:(out.set t.toNat (d+1)).getD t.toNat 0=d+1:=by rw [dW (by omega),if_pos rfl]
   refine ⟨a1,?_,λt' mb=>?_,λi hi h0=>?_⟩
   ·have:=wY (xs:=out) (i:=t.toNat) (v:=d+1) (by omega) lI (by omega)
    rw [a2,List.length_append,List.length_singleton]
    omega
   ·rcases List.mem_cons.1 mb with rfl|mb
    ·rw [a4 _ (by omega) (by omega),hti];omega
    ·exact a3 t' mb
   ·have Ep: ¬t.toNat=i:= λe=>by subst e;omega
    have e:(out.set t.toNat (d+1)).getD i 0=out.getD i 0:=by rw [dW (by omega),if_neg Ep]
    rw [a4 i hi (by rw [e];exact h0),e]
  ·rw [if_neg lI]
   obtain ⟨a1,a2,a3,a4⟩:=JP hr ts _ _ qV h
   refine ⟨a1,a2,λt' mb=>?_,a4⟩
   rcases List.mem_cons.1 mb with rfl|mb
   ·rw [a4 _ (by omega) (by omega)];omega
   ·exact a3 t' mb
structure DQ (N:Nat->List Int) (S:Nat->Bool) (m:Nat) (out q:List Int):Prop where
 base:DI N S m (λ_=>False) out q
 hi: ∀x q',q=x::q'-> ∀i,i<m->out.getD i 0<=out.getD x.toNat 0+1
theorem BU {N:Nat->List Int} {S:Nat->Bool} {m:Nat} (hr:fI N m) {x:Int} {out q:List Int} (h:DQ N S m out (x::q)):
  DQ N S m (Ts x (N x.toNat) (out,q)).1 (Ts x (N x.toNat) (out,q)).2/\(Ts x (N x.toNat) (out,q)).2.length+aD (Ts x (N x.toNat) (out,q)).1=q.length+aD out/\ ∀i,i<m->(Ts x (N x.toNat) (out,q)).1.getD i 0<=out.getD x.toNat 0+1:=by
 obtain ⟨b,hi⟩:=h
 obtain ⟨h1,h2,h3⟩:=b.inq x (by simp)
 obtain ⟨xn,rfl⟩:=Int.eq_ofNat_of_zero_le h1
 simp only [Int.toNat_natCast] at h3⊢
 obtain ⟨o1,o2⟩:=List.pairwise_cons.1 b.ord
 simp only [Int.toNat_natCast] at o1
 have hx:DX N S m xn (out.getD xn 0) out q:=by
  refine ⟨⟨b.len,b.ge,λy hy=>b.inq y (List.mem_cons_of_mem _ hy),b.src,b.SC,b.par,λi hi h0 hn hw=>b.done i hi h0 (λhm=>?_) (λh=>h),o2⟩,by omega,rfl,h3,o1,?_⟩
  ·rcases List.mem_cons.1 hm with e|hm
   ·exact hw (by omega)
   ·exact hn hm
  ·have:=hi xn q rfl
   rwa [Int.toNat_natCast] at this
 obtain ⟨a1,a2,a3,a4⟩:=JP hr (N xn) out q (λ_ h=>h) hx
 obtain ⟨c,c1,c2,c3,c4,c5⟩:=a1
 refine ⟨⟨⟨c.len,c.ge,c.inq,c.src,c.SC,c.par,λi gf h0 hn _ t ht=>?_,c.ord⟩,λy q' e i hi=>?_⟩,a2,c5⟩
 ·by_cases e:i=xn
  ·subst e
   refine ⟨a3 t ht,?_⟩
   rw [c2]
   have:=hr i gf t ht
   exact c5 _ (by omega)
  ·exact c.done i gf h0 hn e t ht
 ·have h4:=c4 y (by rw [e];simp)
  have h5:=c5 i hi
  omega
theorem JN {N:Nat->List Int} {S:Nat->Bool} {m:Nat} (hr:fI N m) {x:Int} {out q:List Int} (h:DQ N S m out (x::q)):
  DQ N S m (Ts x (N x.toNat) (out,q)).1 (Ts x (N x.toNat) (out,q)).2/\(Ts x (N x.toNat) (out,q)).2.length+aD (Ts x (N x.toNat) (out,q)).1=q.length+aD out:=⟨(BU hr h).1,(BU hr h).2.1⟩
theorem JO {N:Nat->List Int} {S:Nat->Bool} {m:Nat} (hr:fI N m): ∀(f:Nat) (out q:List Int),q.length+aD out<f->DQ N S m out q->DQ N S m (EE N f out q) []
 |0,out,q,hf,_=>absurd hf (Nat.not_lt_zero _)
 |f+1,out,[],_,h=>h
 |f+1,out,x::q,hf,h=>by
  obtain ⟨h1,h2⟩:=JN hr h
  simp only [EE]
  simp only [List.length_cons] at hf
  exact JO hr f _ _ (by omega) h1
theorem Va {S:Nat->Bool} {m i:Nat} (hi:i<m):(IJ S m).getD i 0=if S i=true then 0 else-1:=by
 unfold IJ
 rw [List.getD_eq_getElem?_getD,List.getElem?_map,List.getElem?_range hi]
 rfl
theorem iM {S:Nat->Bool} {m:Nat} {y:Int} :y∈PK S m↔ ∃i:Nat,y=i/\i<m/\S i=true:=by
 unfold PK
 simp only [List.mem_map,List.mem_filter,List.mem_range]
 constructor
 ·rintro ⟨i,⟨h1,h2⟩,rfl⟩;exact ⟨i,rfl,h1,h2⟩
 ·rintro ⟨i,rfl,h1,h2⟩;exact ⟨i,⟨h1,h2⟩,rfl⟩
theorem vQ (N:Nat->List Int) (S:Nat->Bool) (m:Nat):DQ N S m (IJ S m) (PK S m):=by
 have hle: ∀i,i<m->(IJ S m).getD i 0<=0:= λi hi=>by rw [Va hi];split<;>omega
 refine ⟨⟨by simp [IJ],λi hi=>?_,λy hy=>?_,λi hi hs=>?_,λi hi h0=>?_,λi hi h0=>?_,λi hi h0 hn _=>?_,?_⟩,λx q' e i hi=>?_⟩
 ·rw [Va hi];split<;>omega
 ·obtain ⟨i,rfl,h1,h2⟩:=iM.1 hy
  rw [Int.toNat_natCast,Va h1,if_pos h2]
  exact ⟨by omega,by omega,Int.le_refl _⟩
 ·rw [Va hi,if_pos hs]
 ·rw [Va hi] at h0
  split at h0
  ·assumption
  ·omega
 ·have:=hle i hi;omega
 ·rw [Va hi] at h0
  split at h0
  ·rename_i hs
   exact absurd (iM.2 ⟨i,rfl,hi,hs⟩) hn
  ·omega
 ·refine List.Pairwise.imp_of_mem (R:= λ_ _=>True) (λha hb _=>?_) (List.pairwise_of_forall λ_ _=>trivial)
  obtain ⟨i,rfl,h1,h2⟩:=iM.1 ha
  obtain ⟨j,rfl,h3,h4⟩:=iM.1 hb
  rw [Int.toNat_natCast,Int.toNat_natCast,Va h1,Va h3,if_pos h2,if_pos h4]
  exact Int.le_refl _
 ·obtain ⟨j,rfl,h3,h4⟩:=iM.1 (show x∈PK S m by rw [e];simp)
  have:=hle i hi
  rw [Int.toNat_natCast,Va h3,if_pos h4]
  omega
theorem LU {S:Nat->Bool} {m:Nat} :(PK S m).length+aD (IJ S m)=m:=by
 unfold PK aD IJ
 rw [List.length_map,List.countP_map]
 have h:(List.range m).countP ((λv=>decide (v<0))∘ λi=>if S i=true then (0:Int) else-1)=(List.range m).countP λi=>!S i:=by
  refine List.countP_congr λi _=>?_
  simp only [Function.comp]
  by_cases e:S i=true
  ·simp [e]
  ·simp [Bool.not_eq_true _▸e]
 rw [h,<-List.countP_eq_length_filter]
 have:=List.length_eq_countP_add_countP (l:=List.range m) S
 rw [List.length_range] at this
 have e:(List.range m).countP (λa=>decide ¬S a=true)=(List.range m).countP λi=>!S i:=List.countP_congr λi _=>by cases S i<;>simp
 rw [e] at this
 omega
theorem TG {N:Nat->List Int} {S:Nat->Bool} {m:Nat} (hr:fI N m):DI N S m (λ_=>False) (lM N S m) []:=
 (JO hr (m+1) _ _ (by rw [LU];omega) (vQ N S m)).base
end Go.Proofs.Ytjbdmibbbpdnnaa

namespace Go.Proofs.Ytjbdmibbbpdnnaa
open Go.RowKit
abbrev oS:Type:=Int×Int×ByteArray×List (List Int)×List Int×List (List Int)×List Int×(ByteArray->Option Int)×List Int×List Int×Int×ByteArray×List (List Int)×List (List Int)×PUnit
abbrev oT:Type:=Int×Int×ByteArray×List (List Int)×List (List Int)×List Int×(ByteArray->Option Int)×List Int×List Int×Int×ByteArray×List (List Int)×List (List Int)×PUnit
abbrev au:List (Nat×Nat):= [(0,1),(0,1),(0,1),(0,1),(0,1),(0,1),(0,1),(0,1),(0,1),(0,1),(0,1),(0,1),(0,0)]
abbrev Dr (p:Int×ByteArray×List (List Int)×Unit) (y4:List Int) (y2:Int) (y3:Bool) (y6:ByteArray) (y5:ByteArray):Prop:=au=au/\(p,false,y4,p.1,p.2.1,p.2.2.1,y2,y3,!y3,p.1,y4,p.1,p.2.1,p.2.2.1,y4,y4,y6,p.1,p.2.1,p.2.2.1,p.1,p.2.1,p.2.2.1,[y4],[(0:Int)],bd (λ(_:ByteArray)=>none) y6 (0:Int),[(0:Int)],[(0:Int)],p.1,p.2.1,p.2.2.1,([]:List (List Int)),())=(p,false,y4,p.1,p.2.1,p.2.2.1,y2,y3,!y3,p.1,y4,p.1,p.2.1,p.2.2.1,y4,y4,y5,p.1,p.2.1,p.2.2.1,p.1,p.2.1,p.2.2.1,[y4],[(0:Int)],bd (λ(_:ByteArray)=>none) y5 (0:Int),[(0:Int)],[(0:Int)],p.1,p.2.1,p.2.2.1,([]:List (List Int)),PUnit.unit)
theorem HW (p:Int×ByteArray×List (List Int)×Unit) (P:(Option (PP×List (List Int)×List Int×(ByteArray->Option Int)×List Int×List Int×List (List Int)×Unit)×Bool×Unit)->Prop):(∃(y2:Int),Mg.fn ((p.1,p.2.1,p.2.2.1,()),())=some y2/\ ∃(y3:Bool),Bh.fn (y2,(1:Int),(3000:Int),())=some y3/\Br (!y3) (P (none,false,())) (∃(y4:List Int),Om.fn (p.1,())=some y4/\ ∃(y5:ByteArray),El.fn (y4,())=some y5/\(∃(y6:List Int),Ih.fn ((↑p.2.2.1.length:Int),())=some y6/\0=0/\1= [y4].length/\0=0/\1= [(0:Int)].length/\0=0/\1= [(0:Int)].length/\0=0/\1= [(0:Int)].length/\0=0/\0=([]:List Int).length/\Bk (λ(v7:oT) (k8:oT->Prop)=>Br (decide (v7.1<(↑v7.2.2.2.2.1.length:Int))) (((0:Int)<=v7.1/\v7.1<(↑v7.2.2.2.2.1.length:Int))/\ ∃(y9:List Int),v7.2.2.2.2.1[0+v7.1.toNat]?=some y9/\ ∃(bh:List (List Int)),ew.fn ((v7.2.1,v7.2.2.1,v7.2.2.2.1,()),y9,())=some bh/\0=0/\0=([]:List Int).length/\0=0/\v7.2.2.2.2.1.length=v7.2.2.2.2.1.length/\0=0/\v7.2.2.2.2.2.1.length=v7.2.2.2.2.2.1.length/\0=0/\v7.2.2.2.2.2.2.2.1.length=v7.2.2.2.2.2.2.2.1.length/\0=0/\v7.2.2.2.2.2.2.2.2.1.length=v7.2.2.2.2.2.2.2.2.1.length/\0=0/\v7.2.2.2.2.2.2.2.2.2.2.2.2.1.length=v7.2.2.2.2.2.2.2.2.2.2.2.2.1.length/\Bk (λ(v11:oS) (k12:oS->Prop)=>Br (decide (v11.1<(↑bh.length:Int))) (∃(Wj:List Int),idx bh v11.1=some Wj/\ ∃(Zu:ByteArray),El.fn (Wj,())=some Zu/\Br (!(v11.2.2.2.2.2.2.2.1 Zu).isSome) (∃(dO:Int),Nl.fn (List.take v11.2.2.2.2.2.1.length (List.drop 0 v11.2.2.2.2.2.1),())=some dO/\0=0/\v11.2.2.2.2.2.1.length=v11.2.2.2.2.2.1.length/\v11.2.2.2.2.2.1.length+(List.take 1 (List.drop 0 [Wj])).length<=Bp/\((0:Int)<=v7.1/\v7.1<(↑v11.2.2.2.2.2.2.1.length:Int))/\ ∃(fD:Int),v11.2.2.2.2.2.2.1[0+v7.1.toNat]?=some fD/\0=0/\v11.2.2.2.2.2.2.1.length=v11.2.2.2.2.2.2.1.length/\v11.2.2.2.2.2.2.1.length+ [IntKind.i64.wrap (fD+(1:Int))].length<=Bp/\0=0/\v11.2.2.2.2.2.2.2.2.1.length=v11.2.2.2.2.2.2.2.2.1.length/\v11.2.2.2.2.2.2.2.2.1.length+(List.take 1 (List.drop 0 [v7.1])).length<=Bp/\ ∃(BG:Int),idx y6 v11.1=some BG/\0=0/\v11.2.2.2.2.2.2.2.2.2.1.length=v11.2.2.2.2.2.2.2.2.2.1.length/\v11.2.2.2.2.2.2.2.2.2.1.length+ [BG].length<=Bp/\0=0/\v11.2.2.2.2.1.length=v11.2.2.2.2.1.length/\v11.2.2.2.2.1.length+(List.take 1 (List.drop 0 [dO])).length<=Bp/\0=0/\(v11.2.2.2.2.1++List.take 1 (List.drop 0 [dO])).length=(v11.2.2.2.2.1++List.take 1 (List.drop 0 [dO])).length/\0=0/\(v11.2.2.2.2.2.1++List.take 1 (List.drop 0 [Wj])).length=(v11.2.2.2.2.2.1++List.take 1 (List.drop 0 [Wj])).length/\0=0/\(v11.2.2.2.2.2.2.1++ [IntKind.i64.wrap (fD+(1:Int))]).length=(v11.2.2.2.2.2.2.1++ [IntKind.i64.wrap (fD+(1:Int))]).length/\0=0/\(v11.2.2.2.2.2.2.2.2.1++List.take 1 (List.drop 0 [v7.1])).length=(v11.2.2.2.2.2.2.2.2.1++List.take 1 (List.drop 0 [v7.1])).length/\0=0/\(v11.2.2.2.2.2.2.2.2.2.1++ [BG]).length=(v11.2.2.2.2.2.2.2.2.2.1++ [BG]).length/\0=0/\v11.2.2.2.2.2.2.2.2.2.2.2.2.2.1.length=v11.2.2.2.2.2.2.2.2.2.2.2.2.2.1.length/\k12 (IntKind.i64.wrap (v11.1+(1:Int)),v11.2.1,v11.2.2.1,v11.2.2.2.1,v11.2.2.2.2.1++List.take 1 (List.drop 0 [dO]),v11.2.2.2.2.2.1++List.take 1 (List.drop 0 [Wj]),v11.2.2.2.2.2.2.1++ [IntKind.i64.wrap (fD+(1:Int))],bd v11.2.2.2.2.2.2.2.1 Zu dO,v11.2.2.2.2.2.2.2.2.1++List.take 1 (List.drop 0 [v7.1]),v11.2.2.2.2.2.2.2.2.2.1++ [BG],v11.2.2.2.2.2.2.2.2.2.2.1,v11.2.2.2.2.2.2.2.2.2.2.2.1,v11.2.2.2.2.2.2.2.2.2.2.2.2.1,v11.2.2.2.2.2.2.2.2.2.2.2.2.2.1,())) (0=0/\v11.2.2.2.2.1.length=v11.2.2.2.2.1.length/\v11.2.2.2.2.1.length+(List.take 1 (List.drop 0 [(v11.2.2.2.2.2.2.2.1 Zu).getD (Int.ofNat (nat_lit 0))])).length<=Bp/\0=0/\(v11.2.2.2.2.1++List.take 1 (List.drop 0 [(v11.2.2.2.2.2.2.2.1 Zu).getD (Int.ofNat (nat_lit 0))])).length=(v11.2.2.2.2.1++List.take 1 (List.drop 0 [(v11.2.2.2.2.2.2.2.1 Zu).getD (Int.ofNat (nat_lit 0))])).length/\0=0/\v11.2.2.2.2.2.1.length=v11.2.2.2.2.2.1.length/\0=0/\v11.2.2.2.2.2.2.1.length=v11.2.2.2.2.2.2.1.length/\0=0/\v11.2.2.2.2.2.2.2.2.1.length=v11.2.2.2.2.2.2.2.2.1.length/\0=0/\v11.2.2.2.2.2.2.2.2.2.1.length=v11.2.2.2.2.2.2.2.2.2.1.length/\0=0/\v11.2.2.2.2.2.2.2.2.2.2.2.2.2.1.length=v11.2.2.2.2.2.2.2.2.2.2.2.2.2.1.length/\k12 (IntKind.i64.wrap (v11.1+(1:Int)),v11.2.1,v11.2.2.1,v11.2.2.2.1,v11.2.2.2.2.1++List.take 1 (List.drop 0 [(v11.2.2.2.2.2.2.2.1 Zu).getD (Int.ofNat (nat_lit 0))]),v11.2.2.2.2.2.1,v11.2.2.2.2.2.2.1,v11.2.2.2.2.2.2.2.1,v11.2.2.2.2.2.2.2.2.1,v11.2.2.2.2.2.2.2.2.2.1,v11.2.2.2.2.2.2.2.2.2.2.1,v11.2.2.2.2.2.2.2.2.2.2.2.1,v11.2.2.2.2.2.2.2.2.2.2.2.2.1,v11.2.2.2.2.2.2.2.2.2.2.2.2.2.1,()))) (0=0/\v11.2.2.2.2.2.2.2.2.2.2.2.2.2.1.length=v11.2.2.2.2.2.2.2.2.2.2.2.2.2.1.length/\v11.2.2.2.2.2.2.2.2.2.2.2.2.2.1.length+(List.take 1 (List.drop 0 [List.take v11.2.2.2.2.1.length (List.drop 0 v11.2.2.2.2.1)])).length<=Bp/\0=0/\v11.2.2.2.2.2.1.length=v11.2.2.2.2.2.1.length/\0=0/\v11.2.2.2.2.2.2.1.length=v11.2.2.2.2.2.2.1.length/\0=0/\v11.2.2.2.2.2.2.2.2.1.length=v11.2.2.2.2.2.2.2.2.1.length/\0=0/\v11.2.2.2.2.2.2.2.2.2.1.length=v11.2.2.2.2.2.2.2.2.2.1.length/\0=0/\(v11.2.2.2.2.2.2.2.2.2.2.2.2.2.1++List.take 1 (List.drop 0 [List.take v11.2.2.2.2.1.length (List.drop 0 v11.2.2.2.2.1)])).length=(v11.2.2.2.2.2.2.2.2.2.2.2.2.2.1++List.take 1 (List.drop 0 [List.take v11.2.2.2.2.1.length (List.drop 0 v11.2.2.2.2.1)])).length/\k8 (IntKind.i64.wrap (v7.1+(1:Int)),v11.2.1,v11.2.2.1,v11.2.2.2.1,v11.2.2.2.2.2.1,v11.2.2.2.2.2.2.1,v11.2.2.2.2.2.2.2.1,v11.2.2.2.2.2.2.2.2.1,v11.2.2.2.2.2.2.2.2.2.1,v11.2.2.2.2.2.2.2.2.2.2.1,v11.2.2.2.2.2.2.2.2.2.2.2.1,v11.2.2.2.2.2.2.2.2.2.2.2.2.1,v11.2.2.2.2.2.2.2.2.2.2.2.2.2.1++List.take 1 (List.drop 0 [List.take v11.2.2.2.2.1.length (List.drop 0 v11.2.2.2.2.1)]),()))) ((0:Int),v7.2.1,v7.2.2.1,v7.2.2.2.1,[],v7.2.2.2.2.1,v7.2.2.2.2.2.1,v7.2.2.2.2.2.2.1,v7.2.2.2.2.2.2.2.1,v7.2.2.2.2.2.2.2.2.1,v7.2.2.2.2.2.2.2.2.2.1,v7.2.2.2.2.2.2.2.2.2.2.1,v7.2.2.2.2.2.2.2.2.2.2.2.1,v7.2.2.2.2.2.2.2.2.2.2.2.2.1,PUnit.unit)) (P (some ((v7.2.2.2.2.2.2.2.2.2.1,v7.2.2.2.2.2.2.2.2.2.2.1,v7.2.2.2.2.2.2.2.2.2.2.2.1,()),List.take v7.2.2.2.2.1.length (List.drop 0 v7.2.2.2.2.1),List.take v7.2.2.2.2.2.1.length (List.drop 0 v7.2.2.2.2.2.1),v7.2.2.2.2.2.2.1,List.take v7.2.2.2.2.2.2.2.1.length (List.drop 0 v7.2.2.2.2.2.2.2.1),List.take v7.2.2.2.2.2.2.2.2.1.length (List.drop 0 v7.2.2.2.2.2.2.2.2.1),List.take v7.2.2.2.2.2.2.2.2.2.2.2.2.1.length (List.drop 0 v7.2.2.2.2.2.2.2.2.2.2.2.2.1),()),true,()))) ((0:Int),p.1,p.2.1,p.2.2.1,[y4],[(0:Int)],bd (λ(_:ByteArray)=>none) y5 (0:Int),[(0:Int)],[(0:Int)],p.1,p.2.1,p.2.2.1,([]:List (List Int)),PUnit.unit))/\((∃(y6:ByteArray),El.fn (y4,())=some y6/\(Dr p y4 y2 y3 y6 y5))/\ ∃(y6:ByteArray),El.fn (y4,())=some y6/\((Dr p y4 y2 y3 y6 y5))/\((Dr p y4 y2 y3 y6 y5))/\(Dr p y4 y2 y3 y6 y5))/\((∃(y6:ByteArray),El.fn (y4,())=some y6/\(Dr p y4 y2 y3 y6 y5))/\ ∃(y6:ByteArray),El.fn (y4,())=some y6/\((Dr p y4 y2 y3 y6 y5))/\((Dr p y4 y2 y3 y6 y5))/\(Dr p y4 y2 y3 y6 y5))/\ ∃(y6:ByteArray),El.fn (y4,())=some y6/\(((Dr p y4 y2 y3 y6 y5))/\((Dr p y4 y2 y3 y6 y5))/\(Dr p y4 y2 y3 y6 y5))/\(((Dr p y4 y2 y3 y6 y5))/\((Dr p y4 y2 y3 y6 y5))/\(Dr p y4 y2 y3 y6 y5))/\(((Dr p y4 y2 y3 y6 y5))/\(Dr p y4 y2 y3 y6 y5))/\(((Dr p y4 y2 y3 y6 y5))/\(Dr p y4 y2 y3 y6 y5))/\((Dr p y4 y2 y3 y6 y5))/\au=au/\(p,false,y4,p.1,p.2.1,p.2.2.1,y2,y3,!y3,p.1,y4,p.1,p.2.1,p.2.2.1,y4,y4,y6,p.1,p.2.1,p.2.2.1,p.1,p.2.1,p.2.2.1,[y4],[(0:Int)],bd (λ(_:ByteArray)=>none) y6 (0:Int),[(0:Int)],[(0:Int)],p.1,p.2.1,p.2.2.1,([]:List (List Int)),())=(p,false,y4,p.1,p.2.1,p.2.2.1,y2,y3,!y3,p.1,y4,p.1,p.2.1,p.2.2.1,y4,y4,y5,p.1,p.2.1,p.2.2.1,p.1,p.2.1,p.2.2.1,[y4],[(0:Int)],bd (λ(_:ByteArray)=>none) y5 (0:Int),[(0:Int)],[(0:Int)],p.1,p.2.1,p.2.2.1,[],PUnit.unit)))=fnW Cr (look [(126,Mg),(97,Bh),(127,Om),(128,El),(117,Ih),(129,ew),(58,Nl)]) Ol Try.f80 (p,()) P:=by kernel_rfl
theorem mS {g:List (List Int)} {k:Int} {x:List Int} {d:Int} : ∀(ls:List Int) (s:EX) (row:List Int) (L':List (List Int)) (D':List Int),Ey g x d ls s.1 s.2.1=(L',D',true)->
  (Wg g k x d ls s row).1.1=L'/\(Wg g k x d ls s row).1.2.1=D'
 | [],s,row,L',D',h=>by
  simp only [Ey,Prod.mk.injEq] at h
  exact ⟨h.1,h.2.1⟩
 |l::ls,s,row,L',D',h=>by
  simp only [Ey] at h
  simp only [Wg]
  by_cases hm:Aa x (Af g l)∈s.1
  ·rw [if_pos hm] at h
   rw [if_pos hm]
   exact mS ls s _ L' D' h
  ·rw [if_neg hm] at h
   rw [if_neg hm]
   by_cases hf:s.1.length=3000
   ·rw [if_pos hf] at h
    simp at h
   ·rw [if_neg hf] at h
    exact mS ls _ _ L' D' h
theorem vW {g:List (List Int)} {ls:List Int} : ∀(f k:Nat) (s:EX) (N:List (List Int)) (L':List (List Int)) (D':List Int),Gs g ls f k s.1 s.2.1=(L',D',true)->
  (Xr g ls f k s N).1.1=L'/\(Xr g ls f k s N).1.2.1=D'
 |0,k,s,N,L',D',h=>by
  simp only [Gs,Prod.mk.injEq] at h
  exact ⟨h.1,h.2.1⟩
 |f+1,k,s,N,L',D',h=>by
  simp only [Gs] at h
  simp only [Xr]
  by_cases hk:k<s.1.length
  ·rw [if_pos hk] at h
   rw [if_pos hk]
   split at h
   ·rename_i L1 D1 he
    obtain ⟨a1,a2⟩:=mS (k:=(k:Int)) ls s [] L1 D1 he
    refine vW f (k+1) _ _ L' D' ?_
    rw [a1,a2]
    exact h
   ·simp at h
  ·rw [if_neg hk] at h
   rw [if_neg hk]
   simp only [Prod.mk.injEq] at h
   exact ⟨h.1,h.2.1⟩
theorem iD {key:ByteArray} {x:List Int} : ∀(L:List (List Int)) (i:Nat),cP key (L++ [x]) i=if (cP key L i).isSome=true then cP key L i else if Ml x=key then some ((i+L.length:Nat):Int) else none
 | [],i=>by simp [cP]
 |y::L,i=>by
  simp only [List.cons_append,cP]
  split
  ·rfl
  ·rw [iD L (i+1),List.length_cons,show i+1+L.length=i+(L.length+1) by omega]
theorem jK {x:List Int} (hx:Qc x): ∀(L:List (List Int)) (i:Nat),(∀y∈L,Qc y)->cP (Ml x) L i=if x∈L then some ((i+L.idxOf x:Nat):Int) else none
 | [],i,_=>by simp [cP]
 |y::L,i,h=>by
  have hy:=h y (by simp)
  simp only [cP]
  by_cases e:y=x
  ·subst e
   rw [if_pos rfl,if_pos (by simp),List.idxOf_cons_self]
   rfl
  ·rw [if_neg λhk=>e (key_inj hy hx hk),jK hx L (i+1) λz hz=>h z (List.mem_cons_of_mem _ hz),show List.idxOf x (y::L)=(List.idxOf x L).succ by rw [List.idxOf_cons,beq_false_of_ne e];rfl]
   have:(x∈y::L)↔(x∈L):=by simp [Ne.symm e]
   by_cases hm:x∈L
   ·rw [if_pos hm,if_pos (this.2 hm),show i+1+List.idxOf x L=i+(List.idxOf x L).succ by omega]
   ·rw [if_neg hm,if_neg λh=>hm (this.1 h)]
theorem re {x:List Int} {L:List (List Int)} (hx:Qc x) (hL: ∀y∈L,Qc y):Rt L (Ml x)=if x∈L then some (L.idxOf x:Int) else none:=by
 unfold Rt
 rw [jK hx L 0 hL,Nat.zero_add]
theorem r9 {x:List Int} {L:List (List Int)} (hx:Qc x) (hL: ∀y∈L,Qc y) (hn:x∉L):bd (Rt L) (Ml x) (L.length:Int)=Rt (L++ [x]):=by
 funext key
 unfold bd Rt
 rw [iD,Nat.zero_add]
 by_cases e:key=Ml x
 ·subst e
  rw [if_pos rfl,jK hx L 0 hL,if_neg hn,if_neg (by simp),if_pos rfl]
 ·rw [if_neg e,if_neg (c:=Ml x=key) λh=>e h.symm]
  split
  ·rfl
  ·rename_i h
   cases hk:cP key L 0 with
   |none=>rfl
   |some v=>rw [hk] at h;simp at h
theorem yg (p:PP):Hl (Pk p) 1 3000=Bl p:=by
 unfold Bl
 by_cases hv:Ax p=true
 ·rw [hv,Bool.true_and,vO hv]
  rfl
 ·have hv:Ax p=false:=by simpa using hv
  rw [hv,Bool.false_and]
  have:Pk p=0:=by unfold Pk;rw [if_neg (by simp [hv])]
  rw [this]
  rfl
theorem FW (p:PP) (h:Dn p):fnW Cr (look [(126,Mg),(97,Bh),(127,Om),(128,El),(117,Ih),(129,ew),(58,Nl)]) Ol Try.f80 (p,()) (λ(z:Option (PP×List (List Int)×List Int×(ByteArray->Option Int)×List Int×List Int×List (List Int)×Unit)×Bool×Unit)=>z=(if Bl p=true then (some (Ic p),true,()) else (none,false,()))):=by
 refine Eq.mp (HW p _) ⟨_,if_pos h,_,if_pos trivial,?_⟩
 show Br (!Hl (Pk p) 1 3000) _ _
 rw [yg p]
 refine Br.of (λhb=>?_) λhb=>?_
 ·rw [if_neg (by simpa using hb)]
 have hw:Bl p=true:=by simpa using hb
 rw [if_pos hw]
 obtain ⟨hv,yY⟩:=Bool.and_eq_true_iff.1 hw
 have hV:=valid hv
 have wj:=hV.pb
 have hn:=hV.n
 obtain ⟨pn,ps,g,⟨⟩⟩:=p
 dsimp only at wj hn yY⊢
 have hI:(upto pn.toNat).length<=20:=by rw [Py];omega
 have hIr: ∀y∈upto pn.toNat,0<=y/\y<pn:= λy hy=>by have:=Ir.1 hy;omega
 have VS:=dR (p:=(pn,ps,g,())) hI hIr
 obtain ⟨ls,kT⟩: ∃ls,Ag g.length=ls:=⟨_,rfl⟩
 have OT:ls.length<=16:=by rw [<-kT,Kv];omega
 have jG: ∀l∈ls,Es (List.length g) l:= λl hl=>Iq (kT▸hl)
 have CH: ∀x:List Int,(∀y∈x,0<=y/\y<pn)->Qc x:= λx hx y hy=>by have:=hx y hy;omega
 have zd:Gs g ls 3001 0 [upto pn.toNat] [0]=Ds g (upto pn.toNat):=by unfold Ds;rw [kT]
 have pz:bd (λ(_:ByteArray)=>(none:Option Int)) (Ml (upto pn.toNat)) 0=Rt [upto pn.toNat]:=by
  have:=r9 (L:= []) (CH _ hIr) (λy hy=>by cases hy) (by simp)
  exact this
 refine ⟨upto pn.toNat,if_pos ⟨by show (0:Int)<=pn;omega,by show pn<=20;omega⟩,Ml (upto pn.toNat),if_pos (by show short (upto pn.toNat);unfold short;omega),⟨ls,?_,rfl,rfl,rfl,rfl,rfl,rfl,rfl,rfl,rfl,rfl,?_⟩,?_⟩
 ·refine (if_pos ⟨by show (0:Int)<=((g.length:Nat):Int);omega,by show ((g.length:Nat):Int)<=8;omega⟩).trans (congrArg some ?_)
  show Ag (((g.length:Nat):Int)).toNat=ls
  rw [Int.toNat_natCast];exact kT
 ·obtain ⟨R,hR⟩: ∃R,Xr g ls 3001 0 ([upto pn.toNat],[0],[0],[0]) []=R:=⟨_,rfl⟩
  have Agn:Ic (pn,ps,g,())=Aaj (pn,ps,g,()) R:=by unfold Ic;rw [kT];exact congrArg _ hR
  rw [Agn]
  refine Bk.mk (λv=> ∃(k:Nat) (s:EX) (N:List (List Int)),v=((k:Int),pn,ps,g,s.1,s.2.1,Rt s.1,s.2.2.1,s.2.2.2,pn,ps,g,N,())/\k<=s.1.length/\Oy (pn,ps,g,()) (upto pn.toNat).length s.1 s.2.1/\s.2.2.1.length=s.1.length/\s.2.2.2.length=s.1.length/\N.length=k/\
    Gs g ls (3001-k) k s.1 s.2.1=Ds g (upto pn.toNat)/\Xr g ls (3001-k) k s N=R) (λv=>3001-v.1.toNat)
   ⟨0,([upto pn.toNat],[0],[0],[0]),[],?_,by simp,VS,rfl,rfl,rfl,zd,hR⟩ ?_
  ·rw [<-pz];rfl
  rintro v ⟨k,s0,N,rfl,h1,h2,h3,h4,h5,h6,h7⟩
  obtain ⟨L0,D0,P0,B0⟩:=s0
  dsimp only at h1 h2 h3 h4 h6 h7⊢
  have hL0:=h2.ok.pb
  have hD0:=h2.len
  obtain ⟨f,hf⟩: ∃f,3001-k=f+1:=⟨3000-k,by omega⟩
  refine Br.dec (λhl=>?_) λhl=>?_
  ·have hk:k<L0.length:=by omega
   have EM:k<D0.length:=by omega
   have hx: ∀y∈L0[k],0<=y/\y<pn:=h2.row _ (List.getElem_mem hk)
   have QY:L0[k].length=(upto pn.toNat).length:=h2.ok.len _ (List.getElem_mem hk)
   have hdk:=h2.dep k EM
   have hxe:L0.getD k []=L0[k]:=Pd hk
   have QE:D0.getD k 0=D0[k]:=by rw [List.getD_eq_getElem?_getD,List.getElem?_eq_getElem EM];rfl
   have z6: ∀L' D' ok,Ey g L0[k] D0[k] ls L0 D0=(L',D',ok)->Ds g (upto pn.toNat)=if ok=true then Gs g ls f (k+1) L' D' else (L',D',false):=by
    intro L' D' ok he
    rw [<-h6,hf,Gs,if_pos hk,hxe,QE,he]
    cases ok<;>rfl
   obtain ⟨E,hE⟩: ∃E,Wg g (k:Int) L0[k] D0[k] ls (L0,D0,P0,B0) []=E:=⟨_,rfl⟩
   have hex:R=Xr g ls f (k+1) E.1 (N++ [E.2]):=by
    rw [<-h7,hf,Xr,if_pos hk]
    dsimp only
    rw [hxe,QE,hE]
   refine ⟨⟨by omega,by omega⟩,L0[k],by rw [Int.toNat_natCast,Nat.zero_add];exact List.getElem?_eq_getElem hk,ls.map (λl=>Aa L0[k] (Af g l)),?_,?_⟩
   ·refine (if_pos ⟨hv,by show L0[k].length<=20;omega,hx⟩).trans (congrArg some ?_)
    show tA g L0[k]=_
    unfold tA
    rw [kT]
   refine ⟨rfl,rfl,rfl,rfl,rfl,rfl,rfl,rfl,rfl,rfl,rfl,rfl,?_⟩
   obtain ⟨nb,hnb⟩: ∃nb,ls.map (λl=>Aa L0[k] (Af g l))=nb:=⟨_,rfl⟩
   have hnl:nb.length=ls.length:=by rw [<-hnb,List.length_map]
   have hni: ∀i (h:i<ls.length),nb[i]'(by omega)=Aa L0[k] (Af g ls[i]):= λi h=>by simp only [<-hnb,List.getElem_map]
   rw [hnb]
   refine Bk.mk (λv=> ∃(i:Nat) (row:List Int) (s:EX),v=((i:Int),pn,ps,g,row,s.1,s.2.1,Rt s.1,s.2.2.1,s.2.2.2,pn,ps,g,N,())/\i<=ls.length/\row.length=i/\Oy (pn,ps,g,()) (upto pn.toNat).length s.1 s.2.1/\s.2.2.1.length=s.1.length/\s.2.2.2.length=s.1.length/\
     (∃A,s.1=L0++A)/\(∃A,s.2.1=D0++A)/\Ey g L0[k] D0[k] (ls.drop i) s.1 s.2.1=Ey g L0[k] D0[k] ls L0 D0/\Wg g (k:Int) L0[k] D0[k] (ls.drop i) s row=E) (λv=>ls.length-v.1.toNat)
    ⟨0,[],(L0,D0,P0,B0),rfl,Nat.zero_le _,rfl,h2,h3,h4,⟨[],by simp⟩,⟨[],by simp⟩,rfl,hE⟩ ?_
   rintro v ⟨i,row,s,rfl,g1,g2,g3,g4,g5,⟨A,g6⟩,⟨A',g7⟩,g8,g9⟩
   obtain ⟨L,D,Pa,By⟩:=s
   dsimp only at g3 g4 g5 g6 g7 g8 g9⊢
   have hLf:=g3.ok.pb
   have TO:=g3.len
   refine Br.dec (λhli=>?_) λhli=>?_
   ·have hi:i<ls.length:=by omega
    have UA:k<L.length:=by rw [g6,List.length_append];omega
    have WI:k<D.length:=by rw [TO];exact UA
    have hDk:D[k]=D0[k]:=by simp only [g7];exact List.getElem_append_left EM
    have sR:=jG _ (List.getElem_mem hi)
    obtain ⟨nl,nr⟩:=me hV hx sR
    dsimp only at nl nr
    rw [List.drop_eq_getElem_cons hi] at g8 g9
    simp only [Ey] at g8
    simp only [Wg] at g9
    have hyb:=CH _ nr
    refine ⟨_,Aq (by omega),?_⟩
    rw [hni i hi]
    generalize hyv:Aa L0[k] (Af g ls[i])=yv at*
    refine ⟨Ml yv,if_pos (by show short yv;unfold short;rw [nl];omega),?_⟩
    rw [re hyb λy hy=>CH _ (g3.row y hy)]
    refine Br.of (λNs=>?_) λNs=>?_
    ·have Ns:yv∉L:= λhm=>by rw [if_pos hm] at Ns;simp at Ns
     rw [if_neg Ns] at g8 g9
     by_cases eW:L.length=3000
     ·rw [if_pos eW] at g8
      have:=z6 _ _ _ g8.symm
      rw [if_neg (by decide)] at this
      rw [this] at yY
      cases yY
     rw [if_neg eW] at g8
     refine ⟨_,if_pos trivial,rfl,rfl,?_,⟨by omega,by omega⟩,D0[k],?_,rfl,rfl,?_,rfl,rfl,?_,_,Aq hi,rfl,rfl,?_,rfl,rfl,?_,rfl,rfl,rfl,rfl,rfl,rfl,rfl,rfl,rfl,rfl,rfl,rfl,?_⟩
     ·show L.length+1<=4294967296;omega
     ·rw [Int.toNat_natCast,Nat.zero_add,List.getElem?_eq_getElem WI,hDk]
     ·show D.length+1<=4294967296;omega
     ·show Pa.length+1<=4294967296;omega
     ·show By.length+1<=4294967296;omega
     ·show row.length+1<=4294967296;omega
     ·dsimp only
      rw [Bi L,Bu (n:=D0[k]+1) (by omega) (by omega),Al (by omega),r9 hyb (λy hy=>CH _ (g3.row y hy)) Ns]
      refine ⟨⟨i+1,row++ [(L.length:Int)],(L++ [yv],D++ [D0[k]+1],Pa++ [(k:Int)],By++ [ls[i]]),rfl,hi,by rw [List.length_append,g2];rfl,g3.add Ns (by rw [nl,QY]) (by omega) nr ⟨by omega,by omega⟩,?_,?_,⟨A++ [yv],by rw [g6,List.append_assoc]⟩,⟨A'++ [D0[k]+1],by rw [g7,List.append_assoc]⟩,g8,g9⟩,by omega⟩
      ·simp [g4]
      ·simp [g5]
    ·have Ns:yv∈L:=Classical.byContradiction λhm=>by rw [if_neg hm] at Ns;simp at Ns
     rw [if_pos Ns] at g8 g9
     rw [if_pos Ns]
     refine ⟨rfl,rfl,?_,rfl,rfl,rfl,rfl,rfl,rfl,rfl,rfl,rfl,rfl,rfl,rfl,?_⟩
     ·show row.length+1<=4294967296;omega
     ·rw [Al (by omega)]
      exact ⟨⟨i+1,row++ [(L.idxOf yv:Int)],(L,D,Pa,By),rfl,hi,by rw [List.length_append,g2];rfl,g3,g4,g5,⟨A,g6⟩,⟨A',g7⟩,g8,g9⟩,by omega⟩
   ·have:i=ls.length:=by omega
    subst this
    rw [List.drop_length,Ey] at g8
    rw [List.drop_length,Wg] at g9
    have:=z6 _ _ _ g8.symm
    rw [if_pos rfl] at this
    rw [Bi row,Al (by omega)]
    refine ⟨rfl,rfl,?_,rfl,rfl,rfl,rfl,rfl,rfl,rfl,rfl,rfl,rfl,⟨k+1,(L,D,Pa,By),N++ [row],rfl,by rw [g6,List.length_append];omega,g3,g4,g5,by rw [List.length_append,h5];rfl,?_,?_⟩,by omega⟩
    ·show N.length+1<=4294967296;omega
    ·rw [show 3001-(k+1)=f by omega]
     exact this.symm
    ·rw [show 3001-(k+1)=f by omega,hex,<-g9]
  ·have hk:k=L0.length:=by omega
   rw [hf,Xr,if_neg (by show ¬k<L0.length;omega)] at h7
   subst h7
   simp only [List.drop_zero,List.take_length]
   rfl
 ·have z7:El.fn (upto pn.toNat,())=some (Ml (upto pn.toNat)):=if_pos (by show short (upto pn.toNat);unfold short;omega)
  repeat' (first|exact ⟨rfl,rfl⟩|refine ⟨_,z7,?_⟩|refine ⟨?_,?_⟩)
theorem qd:Sound Try.prog 80 Ol:=
 Sound.Cz Bo (Ah kx (Ah Mh (Ah bF (Ah dz (Ah Yb (Ah xI (Ah dy Ap))))))) mixed Try.func80 (by kernel_rfl) (by kernel_rfl) λx h=>FW x.1 h
end Go.Proofs.Ytjbdmibbbpdnnaa

namespace Go.Proofs.Ytjbdmibbbpdnnaa
open Go.RowKit
abbrev XP:Type:=PP×List (List Int)×List Int×(ByteArray->Option Int)×List Int×List Int×List (List Int)×Unit
noncomputable def Ab (p:PP):List (List Int):=(Ds p.2.2.1 (upto p.1.toNat)).1
noncomputable def cT (p:PP):List Int:=(Ds p.2.2.1 (upto p.1.toNat)).2.1
def se (e:XP):Prop:=Bl e.1=true/\e=Ic e.1
noncomputable def Qb (p:PP) (s:List Int):Int×Bool×Unit:=if s∈Ab p then ((List.idxOf s (Ab p):Nat),true,()) else (0,false,())
noncomputable def Ni (p:PP) (s:List Int):Bool:=Bl p&&decide (s∈Ab p)
noncomputable def LP (e:Option XP) (s:List Int):Int×Bool×Unit:=match e with|some e=>Qb e.1 s|none=>(0,false,())
noncomputable abbrev ke:Spec:=Cz (.pair (.optr Xg) (.pair tL .unit)) (.pair tI (.pair .bool .unit)) true true (λx=>(∃e:XP,x.1=some e/\se e)/\short x.2.1) (λx=>LP x.1 x.2.1)
noncomputable def Qu (p:PP) (s:List Int):Option XP×Int×Bool×Unit:=if Bl p=true then (some (Ic p),(Qb p s).1,(Qb p s).2.1,()) else (none,0,false,())
noncomputable abbrev Uk:Spec:=Cz (.pair Dl (.pair tL .unit)) (.pair (.optr Xg) (.pair tI (.pair .bool .unit))) true false (λx=>Dn x.1/\short x.2.1) (λx=>Qu x.1 x.2.1)
abbrev Adh:Ty:= .clo 151 (.pair (.ptr tL) .unit)
def Wy (goal s:List Int):Bool:=List.all goal λx=>decide (Ce s x=x)
noncomputable abbrev kl:Spec:=Cz (.pair tI (.pair (.ptr tL) .unit)) .bool false true (λx=>short x.2.1/\0<=x.1/\x.1<List.length x.2.1) (λx=>!decide (Ce x.2.1 x.1=x.1))
noncomputable abbrev rU:Spec:=Cz (.pair tL (.pair Adh .unit)) tI false true (λx=>short x.1/\short x.2.1.1/\Ha (List.length x.2.1.1) x.1) (λx=>Bx (λy=>!decide (Ce x.2.1.1 y=y)) x.1 0)
noncomputable abbrev rO:Spec:=Cz (.pair tL (.pair Adh .unit)) .bool false true (λx=>short x.1/\short x.2.1.1/\Ha (List.length x.2.1.1) x.1) (λx=>List.any x.1 (λy=>!decide (Ce x.2.1.1 y=y)))
noncomputable abbrev On:Spec:=Cz (.pair tL (.pair tL .unit)) .bool false true (λx=>short x.1/\short x.2.1/\Ha (List.length x.2.1) x.1) (λx=>Wy x.1 x.2.1)
noncomputable def az (p:PP):SS×Bool×Unit:=if Ax p=true then (Dh p.2.2.1 (upto p.1.toNat),Bl p,()) else (([],[],[],false,()),false,())
noncomputable abbrev Rg:Spec:=Cz (.pair Dl .unit) (.pair Xh (.pair .bool .unit)) true false (λx=>Dn x.1) (λx=>az x.1)
noncomputable abbrev Ul:Spec:=Cz (.pair Dl (.pair Xh (.pair tL .unit))) .bool false true (λx=>Dn x.1/\short x.2.2.1/\Ax x.1=true/\x.2.1=Dh x.1.2.2.1 (upto x.1.1.toNat)) (λx=>decide (x.2.2.1∈Ab x.1))
noncomputable abbrev Mf:Spec:=Cz (.pair Dl (.pair tL .unit)) .bool false true (λx=>Dn x.1/\short x.2.1) (λx=>Ni x.1 x.2.1)
noncomputable abbrev ki:Spec:=Cz (.pair Dl (.pair bL (.pair tL .unit))) .bool false true (λx=>Dn x.1/\Cd x.2.1/\short x.2.2.1) (λ_=>true)
abbrev DO:Type:=(Int×ByteArray×List (List Int)×PUnit)×List (List Int)×List Int×(ByteArray->Option Int)×List Int×List Int×List (List Int)×PUnit
theorem ZA (e:Option (PP×List (List Int)×List Int×(ByteArray->Option Int)×List Int×List Int×List (List Int)×Unit)) (s:List Int) (P:(Int×Bool×Unit)->Prop):(∃(y3:DO),e=some y3/\ ∃(y4:Bool),Rb.fn (y3.1,s,())=some y4/\Br (!y4) (P ((0:Int),false,())) (∃(y5:DO),e=some y5/\ ∃(y6:ByteArray),El.fn (s,())=some y6/\P ((y5.2.2.2.1 y6).getD (Int.ofNat (nat_lit 0)),(y5.2.2.2.1 y6).isSome,())))=fnW Cr (look [(141,Rb),(128,El)]) ke Try.f98 (e,s,()) P:=by kernel_rfl
theorem sd (p:Int×ByteArray×List (List Int)×Unit) (s:List Int) (P:(Option (PP×List (List Int)×List Int×(ByteArray->Option Int)×List Int×List Int×List (List Int)×Unit)×Int×Bool×Unit)->Prop):(∃(y3:Option ((Int×ByteArray×List (List Int)×PUnit)×List (List Int)×List Int×(ByteArray->Option Int)×List Int×List Int×List (List Int)×PUnit)×Bool×PUnit),Ol.fn ((p.1,p.2.1,p.2.2.1,()),())=some y3/\Br (!y3.2.1) (P (none,(0:Int),false,())) (∃(y4:Int×Bool×PUnit),ke.fn (y3.1,s,())=some y4/\P (y3.1,y4.1,y4.2.1,())))=fnW Cr (look [(80,Ol),(98,ke)]) Uk Try.f65 (p,s,()) P:=by kernel_rfl
theorem ZG (x:Int) (s:List Int) (P:Bool->Prop):(∃(y3:Int),idx s x=some y3/\P (y3 !=x))=fnW Cr (look []) kl Try.f151 (x,s,()) P:=by kernel_rfl
theorem Adv (xs:List Int) (c:List Int×Unit) (P:Int->Prop):(Bk (λ(v3:Int×PUnit) (k4:Int×PUnit->Prop)=>Br (decide (v3.1<(↑xs.length:Int))) (∃(y5:Int),idx xs v3.1=some y5/\ ∃(y6:Bool),kl.fn (y5,c.1,())=some y6/\Br y6 (P v3.1) (k4 (IntKind.i64.wrap (v3.1+(1:Int)),()))) (P (-1:Int))) ((0:Int),PUnit.unit))=fnW Cr (look [(151,kl)]) rU Try.f118 (xs,c,()) P:=by kernel_rfl
theorem Adn (xs:List Int) (c:List Int×Unit) (P:Bool->Prop):(∃(y3:Int),rU.fn (xs,c,())=some y3/\P (decide (y3>=(0:Int))))=fnW Cr (look [(118,rU)]) rO Try.f131 (xs,c,()) P:=by kernel_rfl
theorem yb (g s:List Int) (P:Bool->Prop):(∃(y3:Bool),rO.fn (g,(s,()),())=some y3/\P !y3)=fnW Cr (look [(131,rO)]) On Try.f121 (g,s,()) P:=by kernel_rfl
abbrev Cc:Type:=List (List Int)×List Int×List Int×Bool×PUnit
theorem BE (p:Int×ByteArray×List (List Int)×Unit) (P:((List (List Int)×List Int×List Int×Bool×Unit)×Bool×Unit)->Prop):(∃(y2:Bool),Ev.fn ((p.1,p.2.1,p.2.2.1,()),())=some y2/\Br (!y2) (P ((List.take 0 (List.drop 0 []),List.take 0 (List.drop 0 []),List.take 0 (List.drop 0 []),false,()),false,())) (((((∃(y3:List Int),Cj.fn (p.1,())=some y3/\(∃(y4:Cc),De.fn ((p.1,p.2.1,p.2.2.1,()),y3,())=some y4/\((P ((y4.1,y4.2.1,y4.2.2.1,y4.2.2.2.1,()),y4.2.2.2.1,())/\P ((y4.1,y4.2.1,y4.2.2.1,y4.2.2.2.1,()),y4.2.2.2.1,()))/\P ((y4.1,y4.2.1,y4.2.2.1,y4.2.2.2.1,()),y4.2.2.2.1,()))/\(P ((y4.1,y4.2.1,y4.2.2.1,y4.2.2.2.1,()),y4.2.2.2.1,())/\P ((y4.1,y4.2.1,y4.2.2.1,y4.2.2.2.1,()),y4.2.2.2.1,()))/\P ((y4.1,y4.2.1,y4.2.2.1,y4.2.2.2.1,()),y4.2.2.2.1,()))/\ ∃(y4:Cc),De.fn ((p.1,p.2.1,p.2.2.1,()),y3,())=some y4/\((P ((y4.1,y4.2.1,y4.2.2.1,y4.2.2.2.1,()),y4.2.2.2.1,())/\P ((y4.1,y4.2.1,y4.2.2.1,y4.2.2.2.1,()),y4.2.2.2.1,()))/\P ((y4.1,y4.2.1,y4.2.2.1,y4.2.2.2.1,()),y4.2.2.2.1,()))/\(P ((y4.1,y4.2.1,y4.2.2.1,y4.2.2.2.1,()),y4.2.2.2.1,())/\P ((y4.1,y4.2.1,y4.2.2.1,y4.2.2.2.1,()),y4.2.2.2.1,()))/\P ((y4.1,y4.2.1,y4.2.2.1,y4.2.2.2.1,()),y4.2.2.2.1,()))/\ ∃(y3:List Int),Cj.fn (p.1,())=some y3/\ ∃(y4:Cc),De.fn ((p.1,p.2.1,p.2.2.1,()),y3,())=some y4/\((P ((y4.1,y4.2.1,y4.2.2.1,y4.2.2.2.1,()),y4.2.2.2.1,())/\P ((y4.1,y4.2.1,y4.2.2.1,y4.2.2.2.1,()),y4.2.2.2.1,()))/\P ((y4.1,y4.2.1,y4.2.2.1,y4.2.2.2.1,()),y4.2.2.2.1,()))/\(P ((y4.1,y4.2.1,y4.2.2.1,y4.2.2.2.1,()),y4.2.2.2.1,())/\P ((y4.1,y4.2.1,y4.2.2.1,y4.2.2.2.1,()),y4.2.2.2.1,()))/\P ((y4.1,y4.2.1,y4.2.2.1,y4.2.2.2.1,()),y4.2.2.2.1,()))/\ ∃(y3:List Int),Cj.fn (p.1,())=some y3/\ ∃(y4:Cc),De.fn ((p.1,p.2.1,p.2.2.1,()),y3,())=some y4/\((P ((y4.1,y4.2.1,y4.2.2.1,y4.2.2.2.1,()),y4.2.2.2.1,())/\P ((y4.1,y4.2.1,y4.2.2.1,y4.2.2.2.1,()),y4.2.2.2.1,()))/\P ((y4.1,y4.2.1,y4.2.2.1,y4.2.2.2.1,()),y4.2.2.2.1,()))/\(P ((y4.1,y4.2.1,y4.2.2.1,y4.2.2.2.1,()),y4.2.2.2.1,())/\P ((y4.1,y4.2.1,y4.2.2.1,y4.2.2.2.1,()),y4.2.2.2.1,()))/\P ((y4.1,y4.2.1,y4.2.2.1,y4.2.2.2.1,()),y4.2.2.2.1,()))/\ ∃(y3:List Int),Cj.fn (p.1,())=some y3/\ ∃(y4:Cc),De.fn ((p.1,p.2.1,p.2.2.1,()),y3,())=some y4/\((P ((y4.1,y4.2.1,y4.2.2.1,y4.2.2.2.1,()),y4.2.2.2.1,())/\P ((y4.1,y4.2.1,y4.2.2.1,y4.2.2.2.1,()),y4.2.2.2.1,()))/\P ((y4.1,y4.2.1,y4.2.2.1,y4.2.2.2.1,()),y4.2.2.2.1,()))/\(P ((y4.1,y4.2.1,y4.2.2.1,y4.2.2.2.1,()),y4.2.2.2.1,())/\P ((y4.1,y4.2.1,y4.2.2.1,y4.2.2.2.1,()),y4.2.2.2.1,()))/\P ((y4.1,y4.2.1,y4.2.2.1,y4.2.2.2.1,()),y4.2.2.2.1,()))/\((((∃(y3:List Int),Cj.fn (p.1,())=some y3/\(∃(y4:Cc),De.fn ((p.1,p.2.1,p.2.2.1,()),y3,())=some y4/\((P ((y4.1,y4.2.1,y4.2.2.1,y4.2.2.2.1,()),y4.2.2.2.1,())/\P ((y4.1,y4.2.1,y4.2.2.1,y4.2.2.2.1,()),y4.2.2.2.1,()))/\P ((y4.1,y4.2.1,y4.2.2.1,y4.2.2.2.1,()),y4.2.2.2.1,()))/\(P ((y4.1,y4.2.1,y4.2.2.1,y4.2.2.2.1,()),y4.2.2.2.1,())/\P ((y4.1,y4.2.1,y4.2.2.1,y4.2.2.2.1,()),y4.2.2.2.1,()))/\P ((y4.1,y4.2.1,y4.2.2.1,y4.2.2.2.1,()),y4.2.2.2.1,()))/\ ∃(y4:Cc),De.fn ((p.1,p.2.1,p.2.2.1,()),y3,())=some y4/\((P ((y4.1,y4.2.1,y4.2.2.1,y4.2.2.2.1,()),y4.2.2.2.1,())/\P ((y4.1,y4.2.1,y4.2.2.1,y4.2.2.2.1,()),y4.2.2.2.1,()))/\P ((y4.1,y4.2.1,y4.2.2.1,y4.2.2.2.1,()),y4.2.2.2.1,()))/\(P ((y4.1,y4.2.1,y4.2.2.1,y4.2.2.2.1,()),y4.2.2.2.1,())/\P ((y4.1,y4.2.1,y4.2.2.1,y4.2.2.2.1,()),y4.2.2.2.1,()))/\P ((y4.1,y4.2.1,y4.2.2.1,y4.2.2.2.1,()),y4.2.2.2.1,()))/\ ∃(y3:List Int),Cj.fn (p.1,())=some y3/\ ∃(y4:Cc),De.fn ((p.1,p.2.1,p.2.2.1,()),y3,())=some y4/\((P ((y4.1,y4.2.1,y4.2.2.1,y4.2.2.2.1,()),y4.2.2.2.1,())/\P ((y4.1,y4.2.1,y4.2.2.1,y4.2.2.2.1,()),y4.2.2.2.1,()))/\P ((y4.1,y4.2.1,y4.2.2.1,y4.2.2.2.1,()),y4.2.2.2.1,()))/\(P ((y4.1,y4.2.1,y4.2.2.1,y4.2.2.2.1,()),y4.2.2.2.1,())/\P ((y4.1,y4.2.1,y4.2.2.1,y4.2.2.2.1,()),y4.2.2.2.1,()))/\P ((y4.1,y4.2.1,y4.2.2.1,y4.2.2.2.1,()),y4.2.2.2.1,()))/\ ∃(y3:List Int),Cj.fn (p.1,())=some y3/\ ∃(y4:Cc),De.fn ((p.1,p.2.1,p.2.2.1,()),y3,())=some y4/\((P ((y4.1,y4.2.1,y4.2.2.1,y4.2.2.2.1,()),y4.2.2.2.1,())/\P ((y4.1,y4.2.1,y4.2.2.1,y4.2.2.2.1,()),y4.2.2.2.1,()))/\P ((y4.1,y4.2.1,y4.2.2.1,y4.2.2.2.1,()),y4.2.2.2.1,()))/\(P ((y4.1,y4.2.1,y4.2.2.1,y4.2.2.2.1,()),y4.2.2.2.1,())/\P ((y4.1,y4.2.1,y4.2.2.1,y4.2.2.2.1,()),y4.2.2.2.1,()))/\P ((y4.1,y4.2.1,y4.2.2.1,y4.2.2.2.1,()),y4.2.2.2.1,()))/\(((∃(y3:List Int),Cj.fn (p.1,())=some y3/\(∃(y4:Cc),De.fn ((p.1,p.2.1,p.2.2.1,()),y3,())=some y4/\((P ((y4.1,y4.2.1,y4.2.2.1,y4.2.2.2.1,()),y4.2.2.2.1,())/\P ((y4.1,y4.2.1,y4.2.2.1,y4.2.2.2.1,()),y4.2.2.2.1,()))/\P ((y4.1,y4.2.1,y4.2.2.1,y4.2.2.2.1,()),y4.2.2.2.1,()))/\(P ((y4.1,y4.2.1,y4.2.2.1,y4.2.2.2.1,()),y4.2.2.2.1,())/\P ((y4.1,y4.2.1,y4.2.2.1,y4.2.2.2.1,()),y4.2.2.2.1,()))/\P ((y4.1,y4.2.1,y4.2.2.1,y4.2.2.2.1,()),y4.2.2.2.1,()))/\ ∃(y4:Cc),De.fn ((p.1,p.2.1,p.2.2.1,()),y3,())=some y4/\((P ((y4.1,y4.2.1,y4.2.2.1,y4.2.2.2.1,()),y4.2.2.2.1,())/\P ((y4.1,y4.2.1,y4.2.2.1,y4.2.2.2.1,()),y4.2.2.2.1,()))/\P ((y4.1,y4.2.1,y4.2.2.1,y4.2.2.2.1,()),y4.2.2.2.1,()))/\(P ((y4.1,y4.2.1,y4.2.2.1,y4.2.2.2.1,()),y4.2.2.2.1,())/\P ((y4.1,y4.2.1,y4.2.2.1,y4.2.2.2.1,()),y4.2.2.2.1,()))/\P ((y4.1,y4.2.1,y4.2.2.1,y4.2.2.2.1,()),y4.2.2.2.1,()))/\ ∃(y3:List Int),Cj.fn (p.1,())=some y3/\ ∃(y4:Cc),De.fn ((p.1,p.2.1,p.2.2.1,()),y3,())=some y4/\((P ((y4.1,y4.2.1,y4.2.2.1,y4.2.2.2.1,()),y4.2.2.2.1,())/\P ((y4.1,y4.2.1,y4.2.2.1,y4.2.2.2.1,()),y4.2.2.2.1,()))/\P ((y4.1,y4.2.1,y4.2.2.1,y4.2.2.2.1,()),y4.2.2.2.1,()))/\(P ((y4.1,y4.2.1,y4.2.2.1,y4.2.2.2.1,()),y4.2.2.2.1,())/\P ((y4.1,y4.2.1,y4.2.2.1,y4.2.2.2.1,()),y4.2.2.2.1,()))/\P ((y4.1,y4.2.1,y4.2.2.1,y4.2.2.2.1,()),y4.2.2.2.1,()))/\(∃(y3:List Int),Cj.fn (p.1,())=some y3/\((∃(y4:Cc),De.fn ((p.1,p.2.1,p.2.2.1,()),y3,())=some y4/\((P ((y4.1,y4.2.1,y4.2.2.1,y4.2.2.2.1,()),y4.2.2.2.1,())/\P ((y4.1,y4.2.1,y4.2.2.1,y4.2.2.2.1,()),y4.2.2.2.1,()))/\P ((y4.1,y4.2.1,y4.2.2.1,y4.2.2.2.1,()),y4.2.2.2.1,()))/\(P ((y4.1,y4.2.1,y4.2.2.1,y4.2.2.2.1,()),y4.2.2.2.1,())/\P ((y4.1,y4.2.1,y4.2.2.1,y4.2.2.2.1,()),y4.2.2.2.1,()))/\P ((y4.1,y4.2.1,y4.2.2.1,y4.2.2.2.1,()),y4.2.2.2.1,()))/\ ∃(y4:Cc),De.fn ((p.1,p.2.1,p.2.2.1,()),y3,())=some y4/\((P ((y4.1,y4.2.1,y4.2.2.1,y4.2.2.2.1,()),y4.2.2.2.1,())/\P ((y4.1,y4.2.1,y4.2.2.1,y4.2.2.2.1,()),y4.2.2.2.1,()))/\P ((y4.1,y4.2.1,y4.2.2.1,y4.2.2.2.1,()),y4.2.2.2.1,()))/\(P ((y4.1,y4.2.1,y4.2.2.1,y4.2.2.2.1,()),y4.2.2.2.1,())/\P ((y4.1,y4.2.1,y4.2.2.1,y4.2.2.2.1,()),y4.2.2.2.1,()))/\P ((y4.1,y4.2.1,y4.2.2.1,y4.2.2.2.1,()),y4.2.2.2.1,()))/\ ∃(y4:Cc),De.fn ((p.1,p.2.1,p.2.2.1,()),y3,())=some y4/\((P ((y4.1,y4.2.1,y4.2.2.1,y4.2.2.2.1,()),y4.2.2.2.1,())/\P ((y4.1,y4.2.1,y4.2.2.1,y4.2.2.2.1,()),y4.2.2.2.1,()))/\P ((y4.1,y4.2.1,y4.2.2.1,y4.2.2.2.1,()),y4.2.2.2.1,()))/\(P ((y4.1,y4.2.1,y4.2.2.1,y4.2.2.2.1,()),y4.2.2.2.1,())/\P ((y4.1,y4.2.1,y4.2.2.1,y4.2.2.2.1,()),y4.2.2.2.1,()))/\P ((y4.1,y4.2.1,y4.2.2.1,y4.2.2.2.1,()),y4.2.2.2.1,()))/\(∃(y3:List Int),Cj.fn (p.1,())=some y3/\ ∃(y4:Cc),De.fn ((p.1,p.2.1,p.2.2.1,()),y3,())=some y4/\((P ((y4.1,y4.2.1,y4.2.2.1,y4.2.2.2.1,()),y4.2.2.2.1,())/\P ((y4.1,y4.2.1,y4.2.2.1,y4.2.2.2.1,()),y4.2.2.2.1,()))/\P ((y4.1,y4.2.1,y4.2.2.1,y4.2.2.2.1,()),y4.2.2.2.1,()))/\(P ((y4.1,y4.2.1,y4.2.2.1,y4.2.2.2.1,()),y4.2.2.2.1,())/\P ((y4.1,y4.2.1,y4.2.2.1,y4.2.2.2.1,()),y4.2.2.2.1,()))/\P ((y4.1,y4.2.1,y4.2.2.1,y4.2.2.2.1,()),y4.2.2.2.1,()))/\ ∃(y3:List Int),Cj.fn (p.1,())=some y3/\ ∃(y4:Cc),De.fn ((p.1,p.2.1,p.2.2.1,()),y3,())=some y4/\((P ((y4.1,y4.2.1,y4.2.2.1,y4.2.2.2.1,()),y4.2.2.2.1,())/\P ((y4.1,y4.2.1,y4.2.2.1,y4.2.2.2.1,()),y4.2.2.2.1,()))/\P ((y4.1,y4.2.1,y4.2.2.1,y4.2.2.2.1,()),y4.2.2.2.1,()))/\(P ((y4.1,y4.2.1,y4.2.2.1,y4.2.2.2.1,()),y4.2.2.2.1,())/\P ((y4.1,y4.2.1,y4.2.2.1,y4.2.2.2.1,()),y4.2.2.2.1,()))/\P ((y4.1,y4.2.1,y4.2.2.1,y4.2.2.2.1,()),y4.2.2.2.1,()))/\(∃(y3:List Int),Cj.fn (p.1,())=some y3/\ ∃(y4:Cc),De.fn ((p.1,p.2.1,p.2.2.1,()),y3,())=some y4/\((P ((y4.1,y4.2.1,y4.2.2.1,y4.2.2.2.1,()),y4.2.2.2.1,())/\P ((y4.1,y4.2.1,y4.2.2.1,y4.2.2.2.1,()),y4.2.2.2.1,()))/\P ((y4.1,y4.2.1,y4.2.2.1,y4.2.2.2.1,()),y4.2.2.2.1,()))/\(P ((y4.1,y4.2.1,y4.2.2.1,y4.2.2.2.1,()),y4.2.2.2.1,())/\P ((y4.1,y4.2.1,y4.2.2.1,y4.2.2.2.1,()),y4.2.2.2.1,()))/\P ((y4.1,y4.2.1,y4.2.2.1,y4.2.2.2.1,()),y4.2.2.2.1,()))/\(∃(y3:List Int),Cj.fn (p.1,())=some y3/\ ∃(y4:Cc),De.fn ((p.1,p.2.1,p.2.2.1,()),y3,())=some y4/\((P ((y4.1,y4.2.1,y4.2.2.1,y4.2.2.2.1,()),y4.2.2.2.1,())/\P ((y4.1,y4.2.1,y4.2.2.1,y4.2.2.2.1,()),y4.2.2.2.1,()))/\P ((y4.1,y4.2.1,y4.2.2.1,y4.2.2.2.1,()),y4.2.2.2.1,()))/\(P ((y4.1,y4.2.1,y4.2.2.1,y4.2.2.2.1,()),y4.2.2.2.1,())/\P ((y4.1,y4.2.1,y4.2.2.1,y4.2.2.2.1,()),y4.2.2.2.1,()))/\P ((y4.1,y4.2.1,y4.2.2.1,y4.2.2.2.1,()),y4.2.2.2.1,()))/\ ∃(y3:List Int),Cj.fn (p.1,())=some y3/\ ∃(y4:Cc),De.fn ((p.1,p.2.1,p.2.2.1,()),y3,())=some y4/\((P ((y4.1,y4.2.1,y4.2.2.1,y4.2.2.2.1,()),y4.2.2.2.1,())/\P ((y4.1,y4.2.1,y4.2.2.1,y4.2.2.2.1,()),y4.2.2.2.1,()))/\P ((y4.1,y4.2.1,y4.2.2.1,y4.2.2.2.1,()),y4.2.2.2.1,()))/\(P ((y4.1,y4.2.1,y4.2.2.1,y4.2.2.2.1,()),y4.2.2.2.1,())/\P ((y4.1,y4.2.1,y4.2.2.1,y4.2.2.2.1,()),y4.2.2.2.1,()))/\P ((y4.1,y4.2.1,y4.2.2.1,y4.2.2.2.1,()),y4.2.2.2.1,()))/\(∃(y3:List Int),Cj.fn (p.1,())=some y3/\ ∃(y4:Cc),De.fn ((p.1,p.2.1,p.2.2.1,()),y3,())=some y4/\((P ((y4.1,y4.2.1,y4.2.2.1,y4.2.2.2.1,()),y4.2.2.2.1,())/\P ((y4.1,y4.2.1,y4.2.2.1,y4.2.2.2.1,()),y4.2.2.2.1,()))/\P ((y4.1,y4.2.1,y4.2.2.1,y4.2.2.2.1,()),y4.2.2.2.1,()))/\(P ((y4.1,y4.2.1,y4.2.2.1,y4.2.2.2.1,()),y4.2.2.2.1,())/\P ((y4.1,y4.2.1,y4.2.2.1,y4.2.2.2.1,()),y4.2.2.2.1,()))/\P ((y4.1,y4.2.1,y4.2.2.1,y4.2.2.2.1,()),y4.2.2.2.1,()))/\(∃(y3:List Int),Cj.fn (p.1,())=some y3/\ ∃(y4:Cc),De.fn ((p.1,p.2.1,p.2.2.1,()),y3,())=some y4/\((P ((y4.1,y4.2.1,y4.2.2.1,y4.2.2.2.1,()),y4.2.2.2.1,())/\P ((y4.1,y4.2.1,y4.2.2.1,y4.2.2.2.1,()),y4.2.2.2.1,()))/\P ((y4.1,y4.2.1,y4.2.2.1,y4.2.2.2.1,()),y4.2.2.2.1,()))/\(P ((y4.1,y4.2.1,y4.2.2.1,y4.2.2.2.1,()),y4.2.2.2.1,())/\P ((y4.1,y4.2.1,y4.2.2.1,y4.2.2.2.1,()),y4.2.2.2.1,()))/\P ((y4.1,y4.2.1,y4.2.2.1,y4.2.2.2.1,()),y4.2.2.2.1,()))/\(∃(y3:List Int),Cj.fn (p.1,())=some y3/\ ∃(y4:Cc),De.fn ((p.1,p.2.1,p.2.2.1,()),y3,())=some y4/\((P ((y4.1,y4.2.1,y4.2.2.1,y4.2.2.2.1,()),y4.2.2.2.1,())/\P ((y4.1,y4.2.1,y4.2.2.1,y4.2.2.2.1,()),y4.2.2.2.1,()))/\P ((y4.1,y4.2.1,y4.2.2.1,y4.2.2.2.1,()),y4.2.2.2.1,()))/\(P ((y4.1,y4.2.1,y4.2.2.1,y4.2.2.2.1,()),y4.2.2.2.1,())/\P ((y4.1,y4.2.1,y4.2.2.1,y4.2.2.2.1,()),y4.2.2.2.1,()))/\P ((y4.1,y4.2.1,y4.2.2.1,y4.2.2.2.1,()),y4.2.2.2.1,()))/\ ∃(y3:List Int),Cj.fn (p.1,())=some y3/\ ∃(y4:Cc),De.fn ((p.1,p.2.1,p.2.2.1,()),y3,())=some y4/\((P ((y4.1,y4.2.1,y4.2.2.1,y4.2.2.2.1,()),y4.2.2.2.1,())/\P ((y4.1,y4.2.1,y4.2.2.1,y4.2.2.2.1,()),y4.2.2.2.1,()))/\P ((y4.1,y4.2.1,y4.2.2.1,y4.2.2.2.1,()),y4.2.2.2.1,()))/\(P ((y4.1,y4.2.1,y4.2.2.1,y4.2.2.2.1,()),y4.2.2.2.1,())/\P ((y4.1,y4.2.1,y4.2.2.1,y4.2.2.2.1,()),y4.2.2.2.1,()))/\P ((y4.1,y4.2.1,y4.2.2.1,y4.2.2.2.1,()),y4.2.2.2.1,())))=fnW Cr (look [(110,Ev),(124,Cj),(112,De)]) Rg Try.f75 (p,()) P:=by kernel_rfl
theorem HX (p:Int×ByteArray×List (List Int)×Unit) (f:List (List Int)×List Int×List Int×Bool×Unit) (s:List Int) (P:Bool->Prop):(∃(y4:Bool),Uo.fn ((p.1,p.2.1,p.2.2.1,()),s,())=some y4/\Br y4 (∃(y5:Int),Kr.fn ((f.1,f.2.1,f.2.2.1,f.2.2.2.1,()),s,())=some y5/\P (decide (y5>=(0:Int)))) (P false))=fnW Cr (look [(103,Uo),(54,Kr)]) Ul Try.f53 (p,f,s,()) P:=by kernel_rfl
theorem uR (p:Int×ByteArray×List (List Int)×Unit) (s:List Int) (P:Bool->Prop):(∃(y3:(List (List Int)×List Int×List Int×Bool×PUnit)×Bool×PUnit),Rg.fn ((p.1,p.2.1,p.2.2.1,()),())=some y3/\Br y3.2.1 (∃(y4:Bool),Ul.fn ((p.1,p.2.1,p.2.2.1,()),(y3.1.1,y3.1.2.1,y3.1.2.2.1,y3.1.2.2.2.1,()),s,())=some y4/\P y4) (P false))=fnW Cr (look [(75,Rg),(53,Ul)]) Mf Try.f63 (p,s,()) P:=by kernel_rfl
theorem FA {p:List Int} (h:Ut p):Gc p=true:=by
 refine Fm.2 ⟨h.pos,h.len,λj h1 h2=>?_⟩
 have:=h.row _ (List.getElem_mem h2)
 exact ⟨by omega,by omega,λhm=>by
  obtain ⟨i,hi,e⟩:=List.mem_iff_getElem.1 hm
  have gf:i<j:=by rw [List.length_take] at hi;omega
  rw [List.getElem_take] at e
  exact (List.pairwise_iff_getElem.1 h.nodup i j (by omega) h2 gf) e⟩
theorem Cq {p:PP} (hw:Bl p=true):Ax p=true/\(Ds p.2.2.1 (upto p.1.toNat)).2.2=true:=Bool.and_eq_true_iff.1 hw
theorem DJ {p:PP} (hw:Bl p=true):Reach p (Ab p) (cT p) true:=by
 have h:=Zj (Cq hw).1
 rw [(Cq hw).2] at h
 exact h
theorem ur {p:PP} (hv:Ax p=true):Oy p p.1.toNat (Ab p) (cT p):=(Zj hv).ok
theorem JU {p:PP} (hV:Valid p):BK p.1.toNat λg=>some g∈p.2.2.1.map some:=
 ⟨by have:=hV.n;omega,λg Zv=>by obtain ⟨g',e,h⟩:=nY (gV hV).2.2 _ Zv;cases e;exact h⟩
theorem DK {p:PP} (hv:Ax p=true) {x:List Int} (hx:x∈Ab p):Pm p.1.toNat x:=Yh.pm (JU (valid hv)) ((Zj hv).gen x hx)
theorem YK {p:PP} (hV:Valid p) {x:List Int} (h:Pm p.1.toNat x):Em p.1 x=true:=by
 have:=hV.n
 have:=h.1
 exact Fm.2 ⟨by omega,FA h.2⟩
theorem JT {p:PP} (_hV:Valid p) {x:List Int} (h:Em p.1 x=true):Pm p.1.toNat x:=by
 obtain ⟨h1,h2⟩:=Fm.1 h
 exact ⟨by omega,db h2⟩
theorem MZ {p:PP} (hv:Ax p=true) {x:List Int} (hx:x∈Ab p):Em p.1 x=true:=YK (valid hv) (DK hv hx)
theorem SD {p:PP} (hv:Ax p=true) {x:List Int} (hx:x∈Ab p):Qc x:= λy hy=>by
 have h1:=(ur hv).row x hx y hy
 have:=(valid hv).n
 omega
theorem RW {n:Nat} {x:List Int} (h:Pm n x):Qc x:= λy hy=>by
 have h1:=h.row y hy
 have:=h.n2
 omega
theorem xp {n:Nat} {x:List Int} (h:Pm n x):short x:=by
 have h1:=h.1
 have:=h.n2
 unfold short;omega
theorem sH {p:PP} (hw:Bl p=true):(Ic p).2.1=Ab p/\(Ic p).2.2.1=cT p:=by
 have h:=(Cq hw).2
 refine vW 3001 0 ([upto p.1.toNat],[0],[0],[0]) [] _ _ ?_
 show Gs p.2.2.1 (Ag p.2.2.1.length) 3001 0 [upto p.1.toNat] [0]=(Ab p,cT p,true)
 rw [<-h]
 rfl
theorem PS {p:PP} (hw:Bl p=true) {s:List Int} (hs:Qc s):(Ic p).2.2.2.1 (Ml s)=if s∈Ab p then some (((Ab p).idxOf s:Nat):Int) else none:=by
 show Rt (Ic p).2.1 (Ml s)=_
 rw [(sH hw).1,re hs λy hy=>SD (Cq hw).1 hy]
theorem XZ (e:Option XP) (s:List Int) (h:(∃e':XP,e=some e'/\se e')/\short s):fnW Cr (look [(141,Rb),(128,El)]) ke Try.f98 (e,s,()) (λ(z:Int×Bool×Unit)=>z=LP e s):=by
 obtain ⟨⟨e',rfl,h1,h2⟩,hs⟩:=h
 have hv:=(Cq h1).1
 refine Eq.mp (ZA (some e') s _) ⟨e',rfl,_,if_pos hs,Br.of (λhb=>?_) λhb=>⟨e',rfl,_,if_pos hs,?_⟩⟩
 ·have hb:=Ch hb
  show (0,false,())=Qb e'.1 s
  unfold Qb
  rw [if_neg λhm=>hb (MZ hv hm)]
 ·have hb:Em e'.1.1 s=true:=by simpa using hb
  have hp:=JT (valid hv) hb
  dsimp only
  have e3:e'.2.2.2.1=(Ic e'.1).2.2.2.1:=by rw [<-h2]
  rw [e3,PS h1 (RW hp)]
  show _=Qb e'.1 s
  unfold Qb
  split<;>rfl
theorem AI:Sound Try.prog 98 ke:=
 Sound.Cz Bo (Ah gA (Ah dz Ap)) mixed Try.func98 (by kernel_rfl) (by kernel_rfl) λx h=>XZ x.1 x.2.1 h
theorem FV (p:PP) (s:List Int) (h:Dn p/\short s):fnW Cr (look [(80,Ol),(98,ke)]) Uk Try.f65 (p,s,()) (λ(z:Option XP×Int×Bool×Unit)=>z=Qu p s):=by
 unfold Qu
 by_cases hw:Bl p=true
 ·rw [if_pos hw]
  have he:Ol.fn ((p.1,p.2.1,p.2.2.1,()),())=some (some (Ic p),true,()):=(if_pos h.1).trans (congrArg some (if_pos hw))
  refine Eq.mp (sd p s _) ⟨_,he,λhb=>by simp at hb,λ_=>⟨_,if_pos ⟨⟨Ic p,rfl,hw,rfl⟩,h.2⟩,?_⟩⟩
  rfl
 ·rw [if_neg hw]
  have he:Ol.fn ((p.1,p.2.1,p.2.2.1,()),())=some (none,false,()):=(if_pos h.1).trans (congrArg some (if_neg hw))
  exact Eq.mp (sd p s _) ⟨_,he,λ_=>rfl,λhb=>by simp at hb⟩
theorem qc:Sound Try.prog 65 Uk:=
 Sound.Cz Bo (Ah qd (Ah AI Ap)) mixed Try.func65 (by kernel_rfl) (by kernel_rfl) λx h=>FV x.1 x.2.1 h
theorem XN {s goal:List Int} (h:Ha s.length goal) {j:Nat} (hj:j<goal.length):0<=goal[j]/\goal[j]<s.length:=h _ (List.getElem_mem hj)
theorem YF (x:Int) (s:List Int) (h:short s/\0<=x/\x<(s.length:Int)):fnW Cr (look []) kl Try.f151 (x,s,()) (λ(z:Bool)=>z=!decide (Ce s x=x)):=by
 obtain ⟨_,h1,h2⟩:=h
 obtain ⟨xn,rfl⟩:=Int.eq_ofNat_of_zero_le h1
 refine Eq.mp (ZG (xn:Int) s _) ⟨_,Aq (by omega),?_⟩
 have e:Ce s (xn:Int)=s[xn]'(by omega):=by unfold Ce;rw [Int.toNat_natCast,Cy]
 rw [e,Bool.eq_iff_iff]
 simp
theorem AN:Sound Try.prog 151 kl:=
 Sound.Cz Bo Ap mixed Try.func151 (by kernel_rfl) (by kernel_rfl) λx h=>YF x.1 x.2.1 h
theorem Ad5 (xs:List Int) (c:List Int×Unit) (h:short xs/\short c.1/\Ha (List.length c.1) xs):fnW Cr (look [(151,kl)]) rU Try.f118 (xs,c,()) (λ(z:Int)=>z=Bx (λy=>!decide (Ce c.1 y=y)) xs 0):=by
 obtain ⟨h,h4,h5⟩:=h
 unfold short at h
 refine Eq.mp (Adv xs c _) ?_
 refine Aj xs.length (λv=>v.1) (λj _=>Bx (λy=>!decide (Ce c.1 y=y)) (xs.drop j) j=Bx (λy=>!decide (Ce c.1 y=y)) xs 0) rfl (by simp) ?_
 rintro j ⟨i,⟨⟩⟩ K hj hi hR hK
 dsimp only at hi⊢
 subst hi
 refine Br.dec (λhl=>?_) λhl=>?_
 ·have hl:j<xs.length:=by omega
  rw [List.drop_eq_getElem_cons hl] at hR
  simp only [Bx] at hR
  refine ⟨_,Aq hl,_,if_pos ⟨h4,XN h5 hl⟩,⟨λhe=>?_,λhe=>?_⟩⟩
  ·have he:(!decide (Ce c.1 xs[j]=xs[j]))=true:=he
   rw [if_pos he] at hR
   exact hR
  ·have he:(!decide (Ce c.1 xs[j]=xs[j]))=false:=he
   rw [if_neg (by rw [he];decide)] at hR
   rw [Al (by omega)]
   exact hK hl _ rfl (by push_cast;exact hR)
 ·have:j=xs.length:=by omega
  subst this
  rw [List.drop_length] at hR
  exact hR
theorem HE:Sound Try.prog 118 rU:=
 Sound.Cz Bo (Ah AN Ap) mixed Try.func118 (by kernel_rfl) (by kernel_rfl) λx h=>Ad5 x.1 x.2.1 h
theorem Acx (xs:List Int) (c:List Int×Unit) (h:short xs/\short c.1/\Ha (List.length c.1) xs):fnW Cr (look [(118,rU)]) rO Try.f131 (xs,c,()) (λ(z:Bool)=>z=List.any xs (λy=>!decide (Ce c.1 y=y))):=by
 refine Eq.mp (Adn xs c _) ⟨_,if_pos h,?_⟩
 rw [Bool.eq_iff_iff,decide_eq_true_iff]
 exact Wx _ xs 0 (Int.le_refl 0)
theorem GW:Sound Try.prog 131 rO:=
 Sound.Cz Bo (Ah HE Ap) mixed Try.func131 (by kernel_rfl) (by kernel_rfl) λx h=>Acx x.1 x.2.1 h
theorem xk (g s:List Int) (h:short g/\short s/\Ha s.length g):fnW Cr (look [(131,rO)]) On Try.f121 (g,s,()) (λ(z:Bool)=>z=Wy g s):=by
 refine Eq.mp (yb g s _) ⟨_,if_pos h,?_⟩
 dsimp only
 unfold Wy
 rw [List.any_eq_not_all_not,Bool.not_not]
 simp only [Bool.not_not]
theorem lT:Sound Try.prog 121 On:=
 Sound.Cz Bo (Ah GW Ap) mixed Try.func121 (by kernel_rfl) (by kernel_rfl) λx h=>xk x.1 x.2.1 h
theorem jB {p:PP} {s:List Int} :Ni p s=true↔Bl p=true/\s∈Ab p:=by
 unfold Ni;rw [Bool.and_eq_true,decide_eq_true_iff]
theorem yV {p:PP} {s:List Int} :(Qu p s).2.2.1=Ni p s:=by
 unfold Qu Qb Ni
 by_cases hw:Bl p=true
 ·rw [if_pos hw,hw,Bool.true_and]
  by_cases hm:s∈Ab p
  ·rw [if_pos hm,decide_eq_true hm]
  ·rw [if_neg hm,decide_eq_false hm]
 ·rw [if_neg hw,Bool.not_eq_true _|>.mp hw,Bool.false_and]
theorem zN (p:PP) (h:Dn p):fnW Cr (look [(110,Ev),(124,Cj),(112,De)]) Rg Try.f75 (p,()) (λ(z:SS×Bool×Unit)=>z=az p):=by
 refine Eq.mp (BE p _) ⟨_,if_pos h,?_⟩
 show Br (!Ax p) _ _
 unfold az
 by_cases hv:Ax p=true
 ·rw [if_pos hv,hv]
  refine ⟨λhb=>by simp at hb,λ_=>?_⟩
  have hn:=(valid hv).n
  have hid:Cj.fn (p.1,())=some (upto p.1.toNat):=if_pos ⟨by show 0<=p.1;omega,by show p.1<=20;omega⟩
  have UQ: ∀y∈upto p.1.toNat,0<=y/\y<p.1:= λy hy=>by have:=Ir.1 hy;omega
  have wk:De.fn ((p.1,p.2.1,p.2.2.1,()),upto p.1.toNat,())=some (Dh p.2.2.1 (upto p.1.toNat)):=if_pos ⟨hv,by show (upto p.1.toNat).length<=20;rw [Py];omega,UQ⟩
  have hz:(((Dh p.2.2.1 (upto p.1.toNat)).1,(Dh p.2.2.1 (upto p.1.toNat)).2.1,(Dh p.2.2.1 (upto p.1.toNat)).2.2.1,(Dh p.2.2.1 (upto p.1.toNat)).2.2.2.1,()),(Dh p.2.2.1 (upto p.1.toNat)).2.2.2.1,())=(Dh p.2.2.1 (upto p.1.toNat),Bl p,()):=by
   unfold Bl
   rw [hv,Bool.true_and]
   rfl
  repeat' (first|exact hz|refine ⟨_,hid,?_⟩|refine ⟨_,wk,?_⟩|refine ⟨?_,?_⟩)
 ·rw [if_neg hv]
  refine ⟨λ_=>rfl,λhb=>?_⟩
  exact absurd (by simpa using hb) hv
theorem oF:Sound Try.prog 75 Rg:=
 Sound.Cz Bo (Ah Ri (Ah ow (Ah lp Ap))) mixed Try.func75 (by kernel_rfl) (by kernel_rfl) λx h=>zN x.1 h
theorem FX (p:PP) (f:SS) (s:List Int) (h:Dn p/\short s/\Ax p=true/\f=Dh p.2.2.1 (upto p.1.toNat)):fnW Cr (look [(103,Uo),(54,Kr)]) Ul Try.f53 (p,f,s,()) (λ(z:Bool)=>z=decide (s∈Ab p)):=by
 obtain ⟨hp,hs,hv,rfl⟩:=h
 refine Eq.mp (HX p _ s _) ⟨_,if_pos ⟨hp,hs⟩,?_⟩
 show Br (Ax p&&Em p.1 s) _ _
 rw [hv,Bool.true_and]
 refine Br.of (λhb=>?_) λhb=>?_
 ·have ET:=JT (valid hv) hb
  refine ⟨_,if_pos (by show Cx s.length (Ab p) (Tl (Ab p));rw [ET.1];exact (ur hv).ok),?_⟩
  show decide (bz (Ab p) s>=0)=_
  unfold bz
  split
  ·rename_i hm
   rw [decide_eq_true hm]
   exact decide_eq_true (by omega)
  ·rename_i hm
   rw [decide_eq_false hm]
   rfl
 ·exact (decide_eq_false λhm=>by rw [MZ hv hm] at hb;cases hb).symm
theorem qe:Sound Try.prog 53 Ul:=
 Sound.Cz Bo (Ah j5 (Ah aV Ap)) mixed Try.func53 (by kernel_rfl) (by kernel_rfl) λx h=>FX x.1 x.2.1 x.2.2.1 h
theorem tM (p:PP) (s:List Int) (h:Dn p/\short s):fnW Cr (look [(75,Rg),(53,Ul)]) Mf Try.f63 (p,s,()) (λ(z:Bool)=>z=Ni p s):=by
 refine Eq.mp (uR p s _) ⟨_,if_pos h.1,?_⟩
 dsimp only
 unfold Ni az
 by_cases hv:Ax p=true
 ·rw [if_pos hv]
  show Br (Bl p) _ _
  refine Br.of (λhw=>?_) λhw=>by rw [hw,Bool.false_and]
  rw [hw,Bool.true_and]
  exact ⟨_,if_pos ⟨h.1,h.2,hv,rfl⟩,rfl⟩
 ·rw [if_neg hv]
  refine ⟨λhb=>by simp at hb,λ_=>?_⟩
  have:Bl p=false:=by unfold Bl;rw [Bool.not_eq_true _|>.mp hv,Bool.false_and]
  rw [this,Bool.false_and]
theorem ku:Sound Try.prog 63 Mf:=
 Sound.Cz Bo (Ah oF (Ah qe Ap)) mixed Try.func63 (by kernel_rfl) (by kernel_rfl) λx h=>tM x.1 x.2.1 h
theorem HL {xs:List (List Int)} {room:Int} (hr:roomy room) (h: ¬Jt xs room<0):(Bf xs:Int)<=room-Jt xs room/\roomy (Jt xs room):=by
 have e2:=xN h
 have:=wO hr h
 exact ⟨by omega,this⟩
theorem sv {b:Bool} (h:(!b)=true):b=false:=by cases b<;>simp_all
theorem wW {p:PP} {gs:List (List Int)} (h:Jd p gs=true) {j:Nat} (hj:j<gs.length):Fg p.1 gs[j]=true:=by
 obtain ⟨_,_,h3,_⟩:=Fm.1 h
 exact (h3 j hj hj).1
theorem oL {p:PP} (hv:Ax p=true):(Ab p).length<=3000:=(ur hv).ok.pb
theorem eg {p:PP} {t s:List Int} (hv:Ax p=true) (hs:s∈Ab p) (ht:Dp p t=true):Ha s.length t:=by
 have h1:=(DK hv hs).1
 have hn:=(valid hv).n
 intro y hy
 have:=(Fw ht).2 y hy
 omega
end Go.Proofs.Ytjbdmibbbpdnnaa

namespace Go.Proofs.Ytjbdmibbbpdnnaa
open Go.RowKit
def Io (g:List (List Int)) (s w:List Int):List Int:=w.foldl (λq l=>Aa q (Af g l)) s
theorem FG {p:PP} (hV:Valid p) {l:Int} (hl:Es (List.length p.2.2.1) l):Pm p.1.toNat (Af p.2.2.1 l):=by
 have hn:=hV.n
 obtain ⟨k,hk,Iz⟩:=Mb hl
 have hp:Pm p.1.toNat (p.2.2.1[k]):=⟨by have:=hV.len _ (List.getElem_mem hk);omega,db (hV.perm _ (List.getElem_mem hk))⟩
 rcases Iz with rfl|rfl
 ·rw [Lq hk];exact hp
 ·rw [Lp hk];exact hp.inv
theorem vu {p:PP} (hV:Valid p): ∀(w s:List Int),(∀l∈w,Es (List.length p.2.2.1) l)->Pm p.1.toNat s->Pm p.1.toNat (Io p.2.2.1 s w)
 | [],s,_,hs=>hs
 |l::w,s,hl,hs=>by
  have h1:=FG hV (hl l (by simp))
  exact vu hV w _ (λl' h=>hl l' (List.mem_cons_of_mem _ h)) (hs.comp h1)
theorem yy {g:List (List Int)} {s w:List Int} {j:Nat} (h:j<w.length):Io g s (w.take (j+1))=Aa (Io g s (w.take j)) (Af g w[j]):=by
 unfold Io
 rw [List.take_add_one,List.getElem?_eq_getElem h,Option.toList_some,List.foldl_append]
 rfl
theorem YL {n:Nat} {q:List Int} (h:Pm n q):q.length<=20:=by have:=h.1;have:=h.n2;omega
theorem MN {p:PP} (hV:Valid p) {q:List Int} (h:Pm p.1.toNat q): ∀y∈q,0<=y/\y<p.1:= λy hy=>by
 have:=h.row y hy
 have:=hV.n
 omega
theorem PV {p:PP} (hv:Ax p=true) {g s:List Int} (hs:Pm p.1.toNat s) (hg:Fg p.1 g=true):Ha s.length g:=by
 have h1:=hs.1
 have hn:=(valid hv).n
 have h2:=Fw (p:=p) (t:=g) (Kd.2 ⟨hv,hg⟩)
 intro y hy
 have:=h2.2 y hy
 omega
end Go.Proofs.Ytjbdmibbbpdnnaa

namespace Go.Proofs.Ytjbdmibbbpdnnaa
open Go.RowKit
theorem map_take {α β:Type} (f:α->β) {xs:List α} {j:Nat} (h:j<xs.length):(xs.take (j+1)).map f=(xs.take j).map f++ [f xs[j]]:=by
 rw [List.take_add_one,List.getElem?_eq_getElem h,List.map_append];rfl
theorem Acn {p:PP} {s:List Int} (h:s∈Ab p):0<=(Qb p s).1/\(Qb p s).1<(Ab p).length/\(Ab p).getD (Qb p s).1.toNat []=s:=by
 unfold Qb
 rw [if_pos h]
 have h1:=List.idxOf_lt_length_of_mem h
 refine ⟨Int.natCast_nonneg _,by show ((List.idxOf s (Ab p):Nat):Int)<_;omega,?_⟩
 show (Ab p).getD ((List.idxOf s (Ab p):Nat):Int).toNat []=s
 rw [Int.toNat_natCast,Cy h1]
 exact List.getElem_idxOf h1
theorem NA {p:PP} (hv:Ax p=true):1<=(Ab p).length:=by
 obtain ⟨A,h⟩:=(Zj hv).first
 show 1<=(Ds p.2.2.1 (upto p.1.toNat)).1.length
 rw [h];simp
end Go.Proofs.Ytjbdmibbbpdnnaa
