/-
  Part 43 of the proof that the statement FnExactBestTableIndex holds.
-/
import Derived.Test.YtfolipnappekaaaGreatCBestTableIndex41
namespace Go.Proofs.YtfolipnappekaaaGreat
open Go.RowKit
def ap (p:List Int) (i:Nat):Nat:=(Ig p (i:Int)).toNat
def Pm (n:Nat) (p:List Int):Prop:=p.length=n/\Xj p
theorem Pm.n1 {n:Nat} {p:List Int} (h:Pm n p):1<=n:=h.1▸h.2.pos
theorem Pm.n2 {n:Nat} {p:List Int} (h:Pm n p):n<=20:=h.1▸h.2.len
theorem Pm.Tk {n:Nat} {p:List Int} (h:Pm n p) {i:Nat} (hi:i<n):Ig p (i:Int)=(ap p i:Int)/\ap p i<n:=by
 have mf:i<p.length:=by rw [h.1];exact hi
 have:=h.2.row _ (List.getElem_mem mf)
 unfold ap
 rw [Hl mf]
 have h1:=h.1
 omega
theorem Pm.lt {n:Nat} {p:List Int} (h:Pm n p) {i:Nat} (hi:i<n):ap p i<n:=(h.Tk hi).2
theorem Pm.ext {n:Nat} {p q:List Int} (h:Pm n p) (k:Pm n q) (e: ∀i,i<n->ap p i=ap q i):p=q:=by
 refine List.ext_getElem (by rw [h.1,k.1]) λi h1 h2=>?_
 have hi:i<n:=by rw [<-h.1];exact h1
 have a:=(h.Tk hi).1
 have b:=(k.Tk hi).1
 rw [Hl h1] at a
 rw [Hl h2] at b
 rw [a,b,e i hi]
theorem Pm.inj {n:Nat} {p:List Int} (h:Pm n p) {i j:Nat} (hi:i<n) (hj:j<n) (e:ap p i=ap p j):i=j:=
 h.2.inj i j (by rw [h.1];exact hi) (by rw [h.1];exact hj) e
theorem Pm.MC {n:Nat} {p:List Int} (h:Pm n p) {k:Nat} (hk:k<n): ∃i,i<n/\ap p i=k:=by
 obtain ⟨i,h1,h2⟩:=h.2.MC k (by rw [h.1];exact hk)
 exact ⟨i,by rw [<-h.1];exact h1,h2⟩
theorem Pm.of {n:Nat} {p:List Int} (hl:p.length=n) (h1:1<=n) (h2:n<=20) (f:Nat->Nat) (hf: ∀i,i<n->p[i]?=some (f i:Int)/\f i<n) (hi: ∀i j,i<n->j<n->f i=f j->i=j):Pm n p:=by
 refine ⟨hl,by omega,by omega,λy hy=>?_,?_⟩
 ·obtain ⟨i,hi,rfl⟩:=List.mem_iff_getElem.1 hy
  obtain ⟨h3,h4⟩:=hf i (by omega)
  rw [List.getElem?_eq_getElem hi] at h3
  rw [Option.some.inj h3]
  omega
 ·refine List.pairwise_iff_getElem.2 λi j h3 h4 h5 h6=>?_
  have a:=(hf i (by omega)).1
  have b:=(hf j (by omega)).1
  rw [List.getElem?_eq_getElem h3] at a
  rw [List.getElem?_eq_getElem h4] at b
  rw [Option.some.inj a,Option.some.inj b] at h6
  have:=hi i j (by omega) (by omega) (by omega)
  omega
theorem vZ {n:Nat} {p q:List Int} (hp:Pm n p) (hq:Pm n q) {i:Nat} (hi:i<n):(Aa p q)[i]?=some (ap q (ap p i):Int):=by
 have h1:i<p.length:=by rw [hp.1];exact hi
 unfold Aa
 rw [List.getElem?_map,List.getElem?_eq_getElem h1]
 have a:=(hp.Tk hi).1
 rw [Hl h1] at a
 simp only [Option.map_some,a]
 rw [(hq.Tk (hp.Tk hi).2).1]
theorem Pm.comp {n:Nat} {p q:List Int} (hp:Pm n p) (hq:Pm n q):Pm n (Aa p q):=
 Pm.of (by rw [Jn,hp.1]) hp.n1 hp.n2 (λi=>ap q (ap p i)) (λi hi=>⟨vZ hp hq hi,hq.lt (hp.lt hi)⟩) λi j hi hj e=>hp.inj hi hj (hq.inj (hp.lt hi) (hp.lt hj) e)
theorem JI {p:List Int} {i k:Nat} (h:p[i]?=some (k:Int)):ap p i=k:=by
 unfold ap Ig
 rw [Int.toNat_natCast,List.getD_eq_getElem?_getD,h]
 simp
theorem Gv {n:Nat} {p q:List Int} (hp:Pm n p) (hq:Pm n q) {i:Nat} (hi:i<n):ap (Aa p q) i=ap q (ap p i):=JI (vZ hp hq hi)
theorem pd {n i:Nat} (hi:i<n):(upto n)[i]?=some (i:Int):=by simp [upto,hi]
theorem eB {n i:Nat} (hi:i<n):ap (upto n) i=i:=JI (pd hi)
theorem Pm.id {n:Nat} (h1:1<=n) (h2:n<=20):Pm n (upto n):=Pm.of (by simp [upto]) h1 h2 (λi=>i) (λi hi=>⟨pd hi,hi⟩) λ_ _ _ _ e=>e
theorem DV {n:Nat} {p:List Int} (hp:Pm n p) {i:Nat} (hi:i<n):(Af p)[ap p i]?=some (i:Int):=LC hp.2 (by rw [hp.1];exact hi)
theorem dz {n:Nat} {p:List Int} (hp:Pm n p) {i:Nat} (hi:i<n):ap (Af p) (ap p i)=i:=JI (DV hp hi)
theorem sI {n:Nat} {p:List Int} (hp:Pm n p) {k:Nat} (hk:k<n):ap p (ap (Af p) k)=k:=by
 obtain ⟨i,hi,rfl⟩:=hp.MC hk
 rw [dz hp hi]
theorem Pm.inv {n:Nat} {p:List Int} (hp:Pm n p):Pm n (Af p):=by
 refine Pm.of (by rw [il,hp.1]) hp.n1 hp.n2 (λk=>ap (Af p) k) (λk hk=>?_) λi j hi hj e=>?_
 ·obtain ⟨i,hi,rfl⟩:=hp.MC hk
  rw [dz hp hi]
  exact ⟨DV hp hi,hi⟩
 ·rw [<-sI hp hi,<-sI hp hj,e]
theorem Fv {n:Nat} {p q r:List Int} (hp:Pm n p) (hq:Pm n q) (hr:Pm n r):Aa (Aa p q) r=Aa p (Aa q r):=
 ((hp.comp hq).comp hr).ext (hp.comp (hq.comp hr)) λi hi=>by rw [Gv (hp.comp hq) hr hi,Gv hp hq hi,Gv hp (hq.comp hr) hi,Gv hq hr (hp.lt hi)]
theorem comp_id {n:Nat} {p:List Int} (hp:Pm n p):Aa p (upto n)=p:=
 (hp.comp (Pm.id hp.n1 hp.n2)).ext hp λi hi=>by rw [Gv hp (Pm.id hp.n1 hp.n2) hi,eB (hp.lt hi)]
theorem id_comp {n:Nat} {p:List Int} (hp:Pm n p):Aa (upto n) p=p:=
 ((Pm.id hp.n1 hp.n2).comp hp).ext hp λi hi=>by rw [Gv (Pm.id hp.n1 hp.n2) hp hi,eB hi]
theorem gO {n:Nat} {p:List Int} (hp:Pm n p):Aa p (Af p)=upto n:=
 (hp.comp hp.inv).ext (Pm.id hp.n1 hp.n2) λi hi=>by rw [Gv hp hp.inv hi,dz hp hi,eB hi]
theorem Ys {n:Nat} {p:List Int} (hp:Pm n p):Aa (Af p) p=upto n:=
 (hp.inv.comp hp).ext (Pm.id hp.n1 hp.n2) λi hi=>by rw [Gv hp.inv hp hi,sI hp hi,eB hi]
theorem nG {n:Nat} {p q:List Int} (hp:Pm n p) (hq:Pm n q) (h:Aa p q=upto n):Af p=q:=by
 rw [<-comp_id hp.inv,<-h,<-Fv hp.inv hp hq,Ys hp,id_comp hq]
theorem inv_mul {n:Nat} {p q:List Int} (hp:Pm n p) (hq:Pm n q):Af (Aa p q)=Aa (Af q) (Af p):=
 nG (hp.comp hq) (hq.inv.comp hp.inv) (by
  rw [Fv hp hq (hq.inv.comp hp.inv),<-Fv hq hq.inv hp.inv,gO hq,id_comp hp.inv,gO hp])
theorem inv_inv {n:Nat} {p:List Int} (hp:Pm n p):Af (Af p)=p:=nG hp.inv hp (Ys hp)
theorem LD {n:Nat} (h1:1<=n) (h2:n<=20):Af (upto n)=upto n:=nG (Pm.id h1 h2) (Pm.id h1 h2) (comp_id (Pm.id h1 h2))
inductive Wc (n:Nat) (S:List Int->Prop):List Int->Prop where
 |id:Wc n S (upto n)
 |mul {p g:List Int} :Wc n S p->S g->Wc n S (Aa p g)
 |inv {p g:List Int} :Wc n S p->S g->Wc n S (Aa p (Af g))
def vD (n:Nat) (S:List Int->Prop):Prop:=(1<=n/\n<=20)/\ ∀g,S g->Pm n g
theorem Wc.pm {n:Nat} {S:List Int->Prop} (hS:vD n S) {p:List Int} (h:Wc n S p):Pm n p:=by
 induction h with
 |id=>exact Pm.id hS.1.1 hS.1.2
 |mul _ hg ih=>exact ih.comp (hS.2 _ hg)
 |inv _ hg ih=>exact ih.comp (hS.2 _ hg).inv
theorem Wc.comp {n:Nat} {S:List Int->Prop} (hS:vD n S) {p q:List Int} (hp:Wc n S p) (hq:Wc n S q):Wc n S (Aa p q):=by
 induction hq with
 |id=>rw [comp_id (hp.pm hS)];exact hp
 |mul hq hg ih=>rw [<-Fv (hp.pm hS) (hq.pm hS) (hS.2 _ hg)];exact .mul ih hg
 |inv hq hg ih=>rw [<-Fv (hp.pm hS) (hq.pm hS) (hS.2 _ hg).inv];exact .inv ih hg
theorem Wc.one {n:Nat} {S:List Int->Prop} (hS:vD n S) {g:List Int} (hg:S g):Wc n S g:=by
 have:=Wc.mul (n:=n) (S:=S) .id hg
 rwa [id_comp (hS.2 g hg)] at this
theorem Wc.XJ {n:Nat} {S:List Int->Prop} (hS:vD n S) {g:List Int} (hg:S g):Wc n S (Af g):=by
 have:=Wc.inv (n:=n) (S:=S) .id hg
 rwa [id_comp (hS.2 g hg).inv] at this
theorem Wc.mi {n:Nat} {S:List Int->Prop} (hS:vD n S) {p:List Int} (hp:Wc n S p):Wc n S (Af p):=by
 induction hp with
 |id=>rw [LD hS.1.1 hS.1.2];exact .id
 |mul hq hg ih=>rw [inv_mul (hq.pm hS) (hS.2 _ hg)];exact (Wc.XJ hS hg).comp hS ih
 |inv hq hg ih=>rw [inv_mul (hq.pm hS) (hS.2 _ hg).inv,inv_inv (hS.2 _ hg)];exact (Wc.one hS hg).comp hS ih
theorem Wc.trans {n:Nat} {S S':List Int->Prop} (VC:vD n S') (h: ∀g,S g->Wc n S' g) {p:List Int} (hp:Wc n S p):Wc n S' p:=by
 induction hp with
 |id=>exact .id
 |mul _ hg ih=>exact ih.comp VC (h _ hg)
 |inv _ hg ih=>exact ih.comp VC ((h _ hg).mi VC)
abbrev PO:=Option (List Int)
abbrev Row:=List PO
abbrev Av:=List Row
def Nz (row:Row):List Int:=(upto row.length).filter λy=>(row.getD y.toNat none).isSome
def Dy (T:Av):Nat->Nat->List Int->Bool
 |0,_,_=>true
 |k+1,i,p=>match (T.getD i []).getD (Ig p (i:Int)).toNat none with
  |none=>false
  |some t=>Dy T k (i+1) (Aa p (Af t))
def Gz (row:Row):Nat:=row.countP (·.isNone)
def Tm (x:Int) (s:Row×List Int) (o:PO):Row×List Int:=
 match s.1.getD (Ig (o.getD []) x).toNat none with
 |some _=>s
 |none=>(s.1.set (Ig (o.getD []) x).toNat (some (Aa ((s.1.getD x.toNat none).getD []) (o.getD []))),s.2++ [Ig (o.getD []) x])
def Tc (x:Int) (gs:List PO) (s:Row×List Int):Row×List Int:=gs.foldl (Tm x) s
def Sq (gs:List PO):Nat->List Int->Row->Row
 |0,_,row=>row
 |_+1,[],row=>row
 |f+1,x::q,row=>Sq gs f (Tc x gs (row,q)).2 (Tc x gs (row,q)).1
def Rp (gs:List PO) (row:Row):Row:=Sq gs 100 (Nz row) row
def Mz (row:Row) (y:Int) (g:PO):List Int:=
 Aa (Aa ((row.getD y.toNat none).getD []) (g.getD [])) (Af ((row.getD (Ig (g.getD []) y).toNat none).getD []))
def bl (row:Row) (gs:List PO):List (List Int):=(Nz row).flatMap λy=>gs.map λg=>Mz row y g
def Dm:Nat->Nat->List Int->Av×Av->Av×Av
 |0,_,_,s=>s
 |k+1,l,p,s=>
  if Dy s.2 (k+1) l p=true then s else
   (bl (Rp (s.1.getD l []++ [some p]) (s.2.getD l [])) (s.1.getD l []++ [some p])).foldl (λs q=>Dm k (l+1) q s)
    (s.1.set l (s.1.getD l []++ [some p]),s.2.set l (Rp (s.1.getD l []++ [some p]) (s.2.getD l [])))
def Fx (l:Nat) (p:List Int):Prop:= ∀i,i<l->ap p i=i
def Gn (n:Nat) (gs:List PO):List Int->Prop:=Wc n λg=>some g∈gs
structure PD (n l:Nat) (gs:List PO) (row:Row) (H:List Int->Prop):Prop where
 pg: ∀o∈gs,∃g,o=some g/\Pm n g/\Fx l g
 rl:row.length=n
 r0:row.getD l none=some (upto n)
 rt: ∀y t,row.getD y none=some t->Pm n t/\Fx l t/\ap t l=y/\Gn n gs t
 cl: ∀y t g,row.getD y none=some t->some g∈gs->row.getD (ap g y) none≠none
 sg: ∀y t g t',row.getD y none=some t->some g∈gs->row.getD (ap g y) none=some t'->H (Aa (Aa t g) (Af t'))
def ef (n:Nat):Nat->Nat->Av×Av->Prop
 |0,l,s=>s.1.getD l []= []
 |k+1,l,s=>ef n k (l+1) s/\PD n l (s.1.getD l []) (s.2.getD l []) (λq=>Dy s.2 k (l+1) q=true)/\ ∀g,some g∈s.1.getD (l+1) []->Gn n (s.1.getD l []) g
theorem RJ {l1 l2:List Nat} (hn:l1.Nodup) (hs: ∀x∈l1,x∈l2) (hl:l2.length<=l1.length): ∀x∈l2,x∈l1:=by
 induction l1 generalizing l2 with
 |nil=>
  intro x hx
  have:l2= []:=List.eq_nil_of_length_eq_zero (by simpa using hl)
  rw [this] at hx;cases hx
 |cons a l ih=>
  intro x hx
  obtain ⟨h1,h2⟩:=List.nodup_cons.1 hn
  have ha:=hs a (by simp)
  by_cases e:x=a
  ·subst e;simp
  ·refine List.mem_cons_of_mem _ (ih (l2:=l2.erase a) h2 (λy hy=>?_) ?_ x ((List.mem_erase_of_ne e).2 hx))
   ·have hya:y≠a:= λe'=>h1 (by rw [<-e'];exact hy)
    exact (List.mem_erase_of_ne hya).2 (hs y (by simp [hy]))
   ·rw [List.length_erase_of_mem ha]
    simp only [List.length_cons] at hl
    omega
theorem zY {n:Nat} {g:List Int} (hg:Pm n g) (D:Nat->Bool) (h: ∀y,y<n->D y=true->D (ap g y)=true) {y:Nat} (hy:y<n) (hD:D y=true): ∃x,x<n/\D x=true/\ap g x=y:=by
 have:=RJ (l1:=((List.range n).filter D).map (ap g)) (l2:=(List.range n).filter D) ?_ ?_ (by simp) y (List.mem_filter.2 ⟨List.mem_range.2 hy,hD⟩)
 ·obtain ⟨x,hx,e⟩:=List.mem_map.1 this
  obtain ⟨h1,h2⟩:=List.mem_filter.1 hx
  exact ⟨x,List.mem_range.1 h1,h2,e⟩
 ·refine List.pairwise_map.2 (List.Pairwise.imp_of_mem ?_ (List.nodup_range.filter D))
  intro a b ha hb Ex e
  exact Ex (hg.inj (List.mem_range.1 (List.mem_filter.1 ha).1) (List.mem_range.1 (List.mem_filter.1 hb).1) e)
 ·intro x hx
  obtain ⟨z,hz,rfl⟩:=List.mem_map.1 hx
  obtain ⟨h1,h2⟩:=List.mem_filter.1 hz
  exact List.mem_filter.2 ⟨List.mem_range.2 (hg.lt (List.mem_range.1 h1)),h z (List.mem_range.1 h1) h2⟩
theorem ia {row:Row} {y:Nat} {t:List Int} (h:row.getD y none=some t):y<row.length:=by
 rw [List.getD_eq_getElem?_getD] at h
 refine Classical.byContradiction λhn=>?_
 rw [List.getElem?_eq_none (by omega)] at h
 cases h
theorem PD.pms {n l:Nat} {gs:List PO} {row:Row} {H:List Int->Prop} (h:PD n l gs row H):vD n λg=>some g∈gs:=by
 refine ⟨?_,λg hg=>?_⟩
 ·have:=(h.rt l _ h.r0).1
  exact ⟨this.n1,this.n2⟩
 ·obtain ⟨g',e,h1,_⟩:=h.pg _ hg
  cases e;exact h1
theorem Fx.inv {n l:Nat} {p:List Int} (hp:Pm n p) (h:Fx l p) (hl:l<=n):Fx l (Af p):= λi hi=>by
 have:=dz hp (i:=i) (by omega)
 rwa [h i hi] at this
theorem Fx.comp {n l:Nat} {p q:List Int} (hp:Pm n p) (hq:Pm n q) (h1:Fx l p) (h2:Fx l q) (hl:l<=n):Fx l (Aa p q):= λi hi=>by
 rw [Gv hp hq (by omega),h1 i hi,h2 i hi]
theorem Fx.all {n:Nat} {p:List Int} (hp:Pm n p) (h:Fx n p):p=upto n:=hp.ext (Pm.id hp.n1 hp.n2) λi hi=>by rw [h i hi,eB hi]
theorem Fx.div {n l:Nat} {p t:List Int} (hp:Pm n p) (ht:Pm n t) (h1:Fx l p) (h2:Fx l t) (hl:l<n) (e:ap t l=ap p l):Fx (l+1) (Aa p (Af t)):= λi hi=>by
 rw [Gv hp ht.inv (by omega)]
 by_cases hil:i<l
 ·rw [h1 i hil];exact h2.inv ht (by omega) i hil
 ·have:i=l:=by omega
  subst this
  rw [<-e,dz ht hl]
theorem Nb {n:Nat} (h1:1<=n) (h2:n<=20): ∀(k l:Nat) (s:Av×Av),l+k=n->ef n k l s-> ∀p,Pm n p->Fx l p->(Dy s.2 k l p=true↔Gn n (s.1.getD l []) p)
 |0,l,s,hk,hc,p,hp,hf=>by
  have hl:l=n:=by omega
  subst hl
  rw [hf.all hp]
  exact ⟨λ_=> .id,λ_=>rfl⟩
 |k+1,l,s,hk,hc,p,hp,hf=>by
  obtain ⟨c1,c2,c3⟩:=hc
  have hS:=c2.pms
  have ih:=Nb h1 h2 k (l+1) s (by omega) c1
  have hS1:vD n λg=>some g∈s.1.getD (l+1) []:=⟨⟨h1,h2⟩,λg hg=>(c3 g hg).pm hS⟩
  have eO:l<n:=by omega
  constructor
  ·intro h
   simp only [Dy] at h
   rw [show (Ig p (l:Int)).toNat=ap p l from rfl] at h
   split at h
   ·cases h
   ·rename_i t ht
    obtain ⟨t1,t2,t3,t4⟩:=c2.rt _ _ ht
    have yI:=Fx.div hp t1 hf t2 eO t3
    have hg:=((ih _ (hp.comp t1.inv) yI).1 h).trans hS c3
    have:=Wc.comp hS hg t4
    rwa [Fv hp t1.inv t1,Ys t1,comp_id hp] at this
  ·intro h
   have key: ∀q,Gn n (s.1.getD l []) q-> ∃t,(s.2.getD l []).getD (ap q l) none=some t/\Gn n (s.1.getD (l+1) []) (Aa q (Af t)):=by
    intro q hq
    induction hq with
    |id=>
     refine ⟨upto n,by rw [eB eO];exact c2.r0,?_⟩
     rw [LD h1 h2,comp_id (Pm.id h1 h2)]
     exact .id
    | @mul q g hq hg ihq=>
     obtain ⟨t,e1,e2⟩:=ihq
     have TL:=Wc.pm hS hq
     have Mu:=hS.2 _ hg
     obtain ⟨t1,t2,t3,t4⟩:=c2.rt _ _ e1
     cases e3:(s.2.getD l []).getD (ap g (ap q l)) none with
     |none=>exact absurd e3 (c2.cl _ _ _ e1 hg)
     |some t'=>
      obtain ⟨u1,u2,u3,u4⟩:=c2.rt _ _ e3
      have hsg:=c2.sg _ _ _ _ e1 hg e3
      have hfg:Fx (l+1) (Aa (Aa t g) (Af t')):=Fx.div (t1.comp Mu) u1 (Fx.comp t1 Mu t2 (by obtain ⟨g',e,_,h⟩:=c2.pg _ hg;cases e;exact h) (by omega)) u2 eO (by rw [u3,Gv t1 Mu eO,t3])
      have yJ:=(ih _ ((t1.comp Mu).comp u1.inv) hfg).1 hsg
      refine ⟨t',by rw [Gv TL Mu eO];exact e3,?_⟩
      have:=Wc.comp hS1 e2 yJ
      rwa [show Aa (Aa q (Af t)) (Aa (Aa t g) (Af t'))=Aa (Aa q g) (Af t') by
       rw [Fv TL t1.inv ((t1.comp Mu).comp u1.inv),Fv t1 Mu u1.inv,<-Fv t1.inv t1 (Mu.comp u1.inv),Ys t1,id_comp (Mu.comp u1.inv),Fv TL Mu u1.inv]] at this
    | @inv q g hq hg ihq=>
     obtain ⟨t,e1,e2⟩:=ihq
     have TL:=Wc.pm hS hq
     have Mu:=hS.2 _ hg
     obtain ⟨t1,t2,t3,t4⟩:=c2.rt _ _ e1
     have hy:ap q l<n:=TL.lt eO
     obtain ⟨x,hx,hD,he⟩:=zY Mu (λy=>((s.2.getD l []).getD y none).isSome) (λy hy hd=>by
      obtain ⟨t0,ht0⟩:=Option.isSome_iff_exists.1 hd
      exact Option.ne_none_iff_isSome.1 (c2.cl _ _ _ ht0 hg)) hy (by rw [e1];rfl)
     obtain ⟨t',e3⟩:=Option.isSome_iff_exists.1 hD
     obtain ⟨u1,u2,u3,u4⟩:=c2.rt _ _ e3
     have hsg:=c2.sg _ _ _ _ e3 hg (by rw [he];exact e1)
     have hfg:Fx (l+1) (Aa (Aa t' g) (Af t)):=Fx.div (u1.comp Mu) t1 (Fx.comp u1 Mu u2 (by obtain ⟨g',e,_,h⟩:=c2.pg _ hg;cases e;exact h) (by omega)) t2 eO (by rw [t3,Gv u1 Mu eO,u3,he])
     have yJ:=Wc.mi hS1 ((ih _ ((u1.comp Mu).comp t1.inv) hfg).1 hsg)
     have hax:ap (Af g) (ap q l)=x:=by rw [<-he,dz Mu hx]
     refine ⟨t',by rw [Gv TL Mu.inv eO,hax];exact e3,?_⟩
     have:=Wc.comp hS1 e2 yJ
     rwa [show Aa (Aa q (Af t)) (Af (Aa (Aa t' g) (Af t)))=Aa (Aa q (Af g)) (Af t') by
      rw [inv_mul (u1.comp Mu) t1.inv,inv_inv t1,inv_mul u1 Mu,Fv TL t1.inv (t1.comp (Mu.inv.comp u1.inv)),<-Fv t1.inv t1 (Mu.inv.comp u1.inv),Ys t1,id_comp (Mu.inv.comp u1.inv),Fv TL Mu.inv u1.inv]] at this
   obtain ⟨t,e1,e2⟩:=key p h
   obtain ⟨t1,t2,t3,t4⟩:=c2.rt _ _ e1
   simp only [Dy]
   rw [show (Ig p (l:Int)).toNat=ap p l from rfl,e1]
   exact (ih _ (hp.comp t1.inv) (Fx.div hp t1 hf t2 eO t3)).2 e2
end Go.Proofs.YtfolipnappekaaaGreat

namespace Go.Proofs.YtfolipnappekaaaGreat
open Go.RowKit
theorem Gk {α:Type} (xs:List α) (i j:Nat) (x d:α):(xs.set i x).getD j d=if i=j/\i<xs.length then x else xs.getD j d:=by
 rw [List.getD_eq_getElem?_getD,List.getElem?_set,List.getD_eq_getElem?_getD]
 by_cases e:i=j
 ·subst e
  by_cases h:i<xs.length
  ·rw [if_pos rfl,if_pos h,if_pos ⟨rfl,h⟩];rfl
  ·rw [if_pos rfl,if_neg h,if_neg (λhh=>h hh.2),List.getElem?_eq_none (by omega)]
 ·rw [if_neg e,if_neg (λhh=>e hh.1)]
theorem Wc.mono {n:Nat} {S S':List Int->Prop} (h: ∀g,S g->S' g) {p:List Int} (hp:Wc n S p):Wc n S' p:=by
 induction hp with
 |id=>exact .id
 |mul _ hg ih=>exact .mul ih (h _ hg)
 |inv _ hg ih=>exact .inv ih (h _ hg)
structure Nu (n l:Nat) (gs:List PO) (row:Row):Prop where
 rl:row.length=n
 r0:row.getD l none=some (upto n)
 rt: ∀y t,row.getD y none=some t->Pm n t/\Fx l t/\ap t l=y/\Gn n gs t
def PG (n l:Nat) (gs:List PO):Prop:= ∀o∈gs,∃g,o=some g/\Pm n g/\Fx l g
structure Ext (n l:Nat) (gs:List PO) (row:Row) (q:List Int) (s':Row×List Int):Prop where
 ok:Nu n l gs s'.1
 mono: ∀y t,row.getD y none=some t->s'.1.getD y none=some t
 ZR:s'.2.length+Gz s'.1=q.length+Gz row
 py: ∀y∈q,y∈s'.2
 new: ∀y∈s'.2,y∈q\/ ∃yn:Nat,y=yn/\s'.1.getD yn none≠none
 src: ∀y:Nat,s'.1.getD y none≠none->row.getD y none≠none\/(y:Int)∈s'.2
theorem Ext.refl {n l:Nat} {gs:List PO} {row:Row} {q:List Int} (h:Nu n l gs row):Ext n l gs row q (row,q):=⟨h,λ_ _ h=>h,rfl,λ_ h=>h,λ_ h=> .inl h,λ_ h=> .inl h⟩
theorem an {a b:Row} (h: ∀y t,a.getD y none=some t->b.getD y none=some t) {y:Nat} (hy:a.getD y none≠none):b.getD y none≠none:=by
 cases e:a.getD y none with
 |none=>exact absurd e hy
 |some t=>rw [h y t e];simp
theorem Ext.trans {n l:Nat} {gs:List PO} {row:Row} {q:List Int} {s1 s2:Row×List Int} (h:Ext n l gs row q s1) (k:Ext n l gs s1.1 s1.2 s2):Ext n l gs row q s2:=by
 refine ⟨k.ok,λy t e=>k.mono y t (h.mono y t e),k.ZR.trans h.ZR,λy hy=>k.py y (h.py y hy),λy hy=>?_,λy hy=>?_⟩
 ·rcases k.new y hy with h1|h1
  ·rcases h.new y h1 with h2|⟨yn,h2,h3⟩
   ·exact .inl h2
   ·exact .inr ⟨yn,h2,an k.mono h3⟩
  ·exact .inr h1
 ·rcases k.src y hy with h1|h1
  ·exact (h.src y h1).imp id λh2=>k.py _ h2
  ·exact .inr h1
theorem jP {row:Row} {i:Nat} {t:List Int} (h:row.getD i none=none) (hi:i<row.length):Gz (row.set i (some t))+1=Gz row:=by
 unfold Gz
 have e:row[i]=none:=by
  rw [List.getD_eq_getElem?_getD,List.getElem?_eq_getElem hi] at h
  exact h
 have h1:=List.countP_set (p:= λo:PO=>o.isNone) (l:=row) (i:=i) (a:=some t) hi
 have FL:0<row.countP (·.isNone):=List.countP_pos_iff.2 ⟨row[i],List.getElem_mem hi,by rw [e];rfl⟩
 rw [h1,e]
 simp
 omega
theorem RI {n l:Nat} {gs:List PO} (eO:l<n) (hg:PG n l gs) {row:Row} {q:List Int} (h:Nu n l gs row) {x:Nat} {t:List Int} (hx:row.getD x none=some t) {g:List Int} (ho:some g∈gs):
  Ext n l gs row q (Tm (x:Int) (row,q) (some g))/\(Tm (x:Int) (row,q) (some g)).1.getD (ap g x) none≠none:=by
 obtain ⟨g',e,Mu,SY⟩:=hg _ ho
 cases e
 obtain ⟨t1,t2,t3,t4⟩:=h.rt _ _ hx
 have OZ:x<n:=by rw [<-h.rl];exact ia hx
 obtain ⟨a1,a2⟩:=Mu.Tk OZ
 unfold Tm
 simp only [Option.getD_some,a1,Int.toNat_natCast]
 cases e:row.getD (ap g x) none with
 |some u=>exact ⟨Ext.refl h,by simp only;rw [e];simp⟩
 |none=>
  simp only [hx,Option.getD_some]
  have hl:ap g x<row.length:=by rw [h.rl];exact a2
  have hS:vD n λg=>some g∈gs:=⟨⟨t1.n1,t1.n2⟩,λg Mf=>by obtain ⟨g',e,h1,_⟩:=hg _ Mf;cases e;exact h1⟩
  have Ad: ∀y,(row.set (ap g x) (some (Aa t g))).getD y none=if ap g x=y/\ap g x<row.length then some (Aa t g) else row.getD y none:= λy=>Gk _ _ _ _ _
  have Ex: ∀y u,row.getD y none=some u->ap g x≠y:= λy u hu e'=>by rw [<-e',e] at hu;cases hu
  refine ⟨⟨⟨by simp [h.rl],?_,λy u hu=>?_⟩,λy u hu=>?_,?_,λy hy=>List.mem_append_left _ hy,λy hy=>?_,λy hy=>?_⟩,?_⟩
  ·rw [Ad,if_neg (λhh=>Ex l _ h.r0 hh.1)];exact h.r0
  ·rw [Ad] at hu
   split at hu
   ·rename_i hc
    cases hu
    exact ⟨t1.comp Mu,Fx.comp t1 Mu t2 SY (by omega),by rw [Gv t1 Mu eO,t3];exact hc.1, .mul t4 ho⟩
   ·exact h.rt y u hu
  ·show (row.set (ap g x) (some (Aa t g))).getD y none=some u
   rw [Ad,if_neg (λhh=>Ex y u hu hh.1)];exact hu
  ·have:=jP (t:=Aa t g) e hl
   simp only [List.length_append,List.length_cons,List.length_nil]
   omega
  ·rcases List.mem_append.1 hy with hy|hy
   ·exact .inl hy
   ·simp only [List.mem_singleton] at hy
    exact .inr ⟨ap g x,hy,by show (row.set (ap g x) (some (Aa t g))).getD (ap g x) none≠none;rw [Ad,if_pos ⟨rfl,hl⟩];simp⟩
  ·have hy:(row.set (ap g x) (some (Aa t g))).getD y none≠none:=hy
   rw [Ad] at hy
   split at hy
   ·rename_i hc
    exact .inr (by show (y:Int)∈q++ [(ap g x:Int)];rw [<-hc.1];simp)
   ·exact .inl hy
  ·show (row.set (ap g x) (some (Aa t g))).getD (ap g x) none≠none
   rw [Ad,if_pos ⟨rfl,hl⟩];simp
theorem MN {n l:Nat} {gs:List PO} (eO:l<n) (hg:PG n l gs): ∀(SH:List PO) {row:Row} {q:List Int},(∀o∈SH,o∈gs)->Nu n l gs row-> ∀ {x:Nat} {t:List Int},row.getD x none=some t->
  Ext n l gs row q (Tc (x:Int) SH (row,q))/\ ∀g,some g∈SH->(Tc (x:Int) SH (row,q)).1.getD (ap g x) none≠none
 | [],row,q,_,h,x,t,hx=>⟨Ext.refl h,λg hg=>by cases hg⟩
 |o::SH,row,q,hs,h,x,t,hx=>by
  obtain ⟨g,rfl,_,_⟩:=hg o (hs o (by simp))
  obtain ⟨e1,e2⟩:=RI (q:=q) eO hg h hx (hs (some g) (by simp))
  obtain ⟨f1,f2⟩:=MN eO hg SH (q:=(Tm (x:Int) (row,q) (some g)).2) (λo ho=>hs o (by simp [ho])) e1.ok (e1.mono x t hx)
  have hb:Tc (x:Int) (some g::SH) (row,q)=Tc (x:Int) SH ((Tm (x:Int) (row,q) (some g)).1,(Tm (x:Int) (row,q) (some g)).2):=rfl
  rw [hb]
  refine ⟨e1.trans f1,λg' Mf=>?_⟩
  rcases List.mem_cons.1 Mf with e|Mf
  ·cases e;exact an f1.mono e2
  ·exact f2 g' Mf
def EM (gs:List PO) (q:List Int) (row:Row):Prop:=
 (∀y∈q,∃yn:Nat,y=yn/\row.getD yn none≠none)/\ ∀y:Nat,row.getD y none≠none->(y:Int)∈q\/ ∀g,some g∈gs->row.getD (ap g y) none≠none
theorem AO {n l:Nat} {gs:List PO} (eO:l<n) (hg:PG n l gs) {x:Int} {q:List Int} {row:Row} (h:Nu n l gs row) (hq:EM gs (x::q) row):
  Ext n l gs row q (Tc x gs (row,q))/\EM gs (Tc x gs (row,q)).2 (Tc x gs (row,q)).1/\ ∃(xn:Nat) (t:List Int),x=xn/\row.getD xn none=some t:=by
 obtain ⟨xn,rfl,hx⟩:=hq.1 x (by simp)
 cases e:row.getD xn none with
 |none=>exact absurd e hx
 |some t=>
  obtain ⟨e1,e2⟩:=MN eO hg gs (q:=q) (λo ho=>ho) h e
  refine ⟨e1,⟨λy hy=>?_,λy hy=>?_⟩,xn,t,rfl,e⟩
  ·rcases e1.new y hy with h1|h1
   ·obtain ⟨yn,h2,h3⟩:=hq.1 y (by simp [h1])
    exact ⟨yn,h2,an e1.mono h3⟩
   ·exact h1
  ·rcases e1.src y hy with h1|h1
   ·rcases hq.2 y h1 with h2|h2
    ·rcases List.mem_cons.1 h2 with h2|h2
     ·have:y=xn:=by omega
      subst this
      exact .inr λg Mf=>e2 g Mf
     ·exact .inl (e1.py _ h2)
    ·exact .inr λg Mf=>an e1.mono (h2 g Mf)
   ·exact .inl h1
theorem MV {n l:Nat} {gs:List PO} (eO:l<n) (hg:PG n l gs): ∀(f:Nat) (q:List Int) (row:Row),q.length+Gz row<=f->Nu n l gs row->EM gs q row->
  Nu n l gs (Sq gs f q row)/\(∀y t,row.getD y none=some t->(Sq gs f q row).getD y none=some t)/\ ∀y t g,(Sq gs f q row).getD y none=some t->some g∈gs->(Sq gs f q row).getD (ap g y) none≠none
 |0,q,row,hf,h,hq=>by
  have:q= []:=List.eq_nil_of_length_eq_zero (by omega)
  subst this
  exact ⟨h,λ_ _ h=>h,λy t g e Mf=>by
   rcases hq.2 y (by rw [show row.getD y none=some t from e];simp) with h1|h1
   ·cases h1
   ·exact h1 g Mf⟩
 |f+1,[],row,hf,h,hq=>⟨h,λ_ _ h=>h,λy t g e Mf=>by
   rcases hq.2 y (by rw [show row.getD y none=some t from e];simp) with h1|h1
   ·cases h1
   ·exact h1 g Mf⟩
 |f+1,x::q,row,hf,h,hq=>by
  obtain ⟨e1,e2,_⟩:=AO eO hg h hq
  obtain ⟨r1,r2,r3⟩:=MV eO hg f _ _ (by have:=e1.ZR;simp only [List.length_cons] at hf;omega) e1.ok e2
  exact ⟨r1,λy t e=>r2 y t (e1.mono y t e),r3⟩
theorem Tu {row:Row} {y:Int} :y∈Nz row↔ ∃yn:Nat,y=yn/\row.getD yn none≠none:=by
 unfold Nz
 rw [List.mem_filter,Sf]
 constructor
 ·rintro ⟨h1,h2⟩
  exact ⟨y.toNat,by omega,Option.ne_none_iff_isSome.2 h2⟩
 ·rintro ⟨yn,rfl,h⟩
  obtain ⟨t,ht⟩:=Option.ne_none_iff_exists'.1 h
  exact ⟨by have:=ia ht;omega,by simpa using Option.ne_none_iff_isSome.1 h⟩
theorem tT (row:Row):(Nz row).length<=row.length:=by
 unfold Nz
 refine Nat.le_trans (List.length_filter_le _ _) (by simp [upto])
theorem cF (row:Row):Gz row<=row.length:=List.countP_le_length
theorem xp {n l:Nat} {gs:List PO} (eO:l<n) (h2:n<=20) (hg:PG n l gs) {row:Row} (h:Nu n l gs row):
  Nu n l gs (Rp gs row)/\(∀y t,row.getD y none=some t->(Rp gs row).getD y none=some t)/\ ∀y t g,(Rp gs row).getD y none=some t->some g∈gs->(Rp gs row).getD (ap g y) none≠none:=
 MV eO hg 100 _ _ (by have:=tT row;have:=cF row;have:=h.rl;omega) h ⟨λy hy=>Tu.1 hy,λy hy=> .inl (Tu.2 ⟨y,rfl,hy⟩)⟩
theorem vT {n l:Nat} {gs:List PO} (eO:l<n) (hg:PG n l gs): ∀(f:Nat) (q:List Int) (row:Row),q.length+Gz row<=f->Nu n l gs row->EM gs q row->Sq gs f q row=Sq gs (q.length+Gz row) q row
 |0,q,row,hf,_,_=>by
  have:q.length+Gz row=0:=by omega
  rw [this]
 |f+1,[],row,hf,_,_=>by
  cases h:([]:List Int).length+Gz row with
  |zero=>rfl
  |succ m=>rfl
 |f+1,x::q,row,hf,h,hq=>by
  obtain ⟨e1,e2,_⟩:=AO eO hg h hq
  have QH:=e1.ZR
  have:(x::q).length+Gz row=(q.length+Gz row)+1:=by simp only [List.length_cons];omega
  rw [this]
  simp only [Sq]
  rw [vT eO hg f _ _ (by simp only [List.length_cons] at hf;omega) e1.ok e2,QH]
def pD (row:Row):Nat:=row.countP (·.isSome)
theorem jr: ∀(a b:Row),a.length=b.length->(∀y t,a.getD y none=some t->b.getD y none=some t)->pD a<=pD b/\(pD a=pD b->a=b)
 | [],[],_,_=>⟨Nat.le_refl _,λ_=>rfl⟩
 | [],_::_,h,_=>by simp at h
 |_::_,[],h,_=>by simp at h
 |x::a,y::b,h,hm=>by
  obtain ⟨h1,h2⟩:=jr a b (by simpa using h) λi t e=>by simpa using hm (i+1) t (by simpa using e)
  unfold pD at h1 h2⊢
  cases x with
  |none=>
   cases y with
   |none=>simp only [List.countP_cons];exact ⟨by simpa using h1,λe=>by rw [h2 (by simpa using e)]⟩
   |some u=>
    simp only [List.countP_cons,Option.isSome_none,Option.isSome_some]
    simp only [if_true,Bool.false_eq_true,if_false]
    exact ⟨by omega,λe=>by omega⟩
  |some t=>
   have:=hm 0 t (by simp)
   simp only [List.getD_cons_zero] at this
   subst this
   simp only [List.countP_cons]
   exact ⟨by simpa using h1,λe=>by rw [h2 (by simpa using e)]⟩
def cJ (T:Av):Nat->Nat->Nat
 |0,_=>0
 |k+1,l=>pD (T.getD l [])+cJ T k (l+1)
def YX:Nat->Nat->Av×Av->Prop
 |0,_,_=>True
 |k+1,l,s=>YX k (l+1) s/\(s.1.getD l []).length<=cJ s.2 (k+1) l
structure Ot (l0:Nat) (s s':Av×Av):Prop where
 Abt:s'.1.length=s.1.length
 nL:s'.2.length=s.2.length
 low: ∀i,i<l0->s'.1.getD i []=s.1.getD i []/\s'.2.getD i []=s.2.getD i []
 rk: ∀i o,o∈s.1.getD i []->o∈s'.1.getD i []
 pb: ∀i y t,(s.2.getD i []).getD y none=some t->(s'.2.getD i []).getD y none=some t
 MU: ∀i,(s'.2.getD i []).length=(s.2.getD i []).length
theorem Ot.refl (l0:Nat) (s:Av×Av):Ot l0 s s:=⟨rfl,rfl,λ_ _=>⟨rfl,rfl⟩,λ_ _ h=>h,λ_ _ _ h=>h,λ_=>rfl⟩
theorem Ot.trans {l0 l1:Nat} {a b c:Av×Av} (h:Ot l0 a b) (k:Ot l1 b c) (hl:l0<=l1):Ot l0 a c:=
 ⟨k.Abt.trans h.Abt,k.nL.trans h.nL,λi hi=>⟨(k.low i (by omega)).1.trans (h.low i hi).1,(k.low i (by omega)).2.trans (h.low i hi).2⟩,λi o ho=>k.rk i o (h.rk i o ho),λi y t e=>k.pb i y t (h.pb i y t e),λi=>(k.MU i).trans (h.MU i)⟩
theorem Ot.Ek {l0 l1:Nat} {a b:Av×Av} (h:Ot l1 a b) (hl:l0<=l1):Ot l0 a b:=(Ot.refl l0 a).trans h hl
theorem Wm {T T':Av} : ∀(k l:Nat) (p:List Int),(∀i,l<=i->i<l+k->T'.getD i []=T.getD i [])->Dy T' k l p=Dy T k l p
 |0,_,_,_=>rfl
 |k+1,l,p,h=>by
  simp only [Dy]
  rw [h l (Nat.le_refl _) (by omega)]
  split
  ·rfl
  ·exact Wm k (l+1) _ λi h1 h2=>h i (by omega) (by omega)
theorem Nl {n:Nat} {s s':Av×Av} : ∀(k l:Nat),(∀i,l<=i->s'.1.getD i []=s.1.getD i []/\s'.2.getD i []=s.2.getD i [])->ef n k l s->ef n k l s'
 |0,l,h,hc=>by simp only [ef] at hc⊢;rw [(h l (Nat.le_refl _)).1];exact hc
 |k+1,l,h,hc=>by
  simp only [ef] at hc⊢
  obtain ⟨c1,c2,c3⟩:=hc
  refine ⟨Nl k (l+1) (λi hi=>h i (by omega)) c1,?_,?_⟩
  ·rw [(h l (Nat.le_refl _)).1,(h l (Nat.le_refl _)).2]
   have e:(λq=>Dy s'.2 k (l+1) q=true)= λq=>Dy s.2 k (l+1) q=true:=funext λq=>by rw [Wm k (l+1) q λi h1 h2=>(h i (by omega)).2]
   rw [e];exact c2
  ·rw [(h (l+1) (by omega)).1,(h l (Nat.le_refl _)).1];exact c3
theorem s9 {T T':Av} : ∀(k l:Nat),(∀i,l<=i->T'.getD i []=T.getD i [])->cJ T' k l=cJ T k l
 |0,_,_=>rfl
 |k+1,l,h=>by simp only [cJ];rw [h l (Nat.le_refl _),s9 k (l+1) λi hi=>h i (by omega)]
theorem Va {s s':Av×Av} : ∀(k l:Nat),(∀i,l<=i->s'.1.getD i []=s.1.getD i []/\s'.2.getD i []=s.2.getD i [])->YX k l s->YX k l s'
 |0,_,_,_=>trivial
 |k+1,l,h,hg=>⟨Va k (l+1) (λi hi=>h i (by omega)) hg.1,by
  rw [(h l (Nat.le_refl _)).1,s9 (k+1) l λi hi=>(h i hi).2];exact hg.2⟩
theorem o8 {T T':Av} (hl: ∀i,(T'.getD i []).length=(T.getD i []).length) (hm: ∀i y t,(T.getD i []).getD y none=some t->(T'.getD i []).getD y none=some t):
  ∀(k l:Nat),cJ T k l<=cJ T' k l/\(cJ T k l=cJ T' k l-> ∀i,l<=i->i<l+k->T'.getD i []=T.getD i [])
 |0,l=>⟨Nat.le_refl _,λ_ i h1 h2=>by omega⟩
 |k+1,l=>by
  obtain ⟨h1,h2⟩:=o8 hl hm k (l+1)
  obtain ⟨h3,h4⟩:=jr (T.getD l []) (T'.getD l []) (hl l).symm (hm l)
  simp only [cJ]
  refine ⟨by omega,λe i g1 g2=>?_⟩
  by_cases hi:i=l
  ·subst hi;exact (h4 (by omega)).symm
  ·exact h2 (by omega) i (by omega) (by omega)
def V (n k l:Nat) (s:Av×Av):Prop:=s.1.length=n/\s.2.length=n/\ef n k l s/\YX k l s
structure IV (n k l:Nat) (s:Av×Av) (p:List Int) (s':Av×Av):Prop where
 v:V n k l s'
 grow:Ot l s s'
 WZ:Gn n (s'.1.getD l []) p
 gens: ∀o∈s'.1.getD l [],o∈s.1.getD l []\/o=some p
theorem PD.row {n l:Nat} {gs:List PO} {row:Row} {H:List Int->Prop} (h:PD n l gs row H):Nu n l gs row:=⟨h.rl,h.r0,h.rt⟩
theorem db {row:Row} {y:Nat} {t g t':List Int} (h1:row.getD y none=some t) (h2:row.getD (ap g y) none=some t'):Mz row (y:Int) (some g)=Aa (Aa t g) (Af t'):=by
 unfold Mz
 rw [Int.toNat_natCast,h1,Option.getD_some,Option.getD_some,show (Ig g (y:Int)).toNat=ap g y from rfl,h2,Option.getD_some]
theorem jM {n l:Nat} {gs:List PO} {row:Row} (hg:PG n l gs) (_h:Nu n l gs row) (hc: ∀y t g,row.getD y none=some t->some g∈gs->row.getD (ap g y) none≠none) {q:List Int} :
  q∈bl row gs↔ ∃(y:Nat) (t g t':List Int),row.getD y none=some t/\some g∈gs/\row.getD (ap g y) none=some t'/\q=Aa (Aa t g) (Af t'):=by
 unfold bl
 rw [List.mem_flatMap]
 constructor
 ·rintro ⟨y,hy,hq⟩
  obtain ⟨o,ho,rfl⟩:=List.mem_map.1 hq
  obtain ⟨yn,rfl,hyn⟩:=Tu.1 hy
  obtain ⟨t,ht⟩:=Option.ne_none_iff_exists'.1 hyn
  obtain ⟨g,rfl,Mu,_⟩:=hg o ho
  obtain ⟨t',rE⟩:=Option.ne_none_iff_exists'.1 (hc yn t g ht ho)
  exact ⟨yn,t,g,t',ht,ho,rE,db ht rE⟩
 ·rintro ⟨y,t,g,t',h1,h2,h3,rfl⟩
  obtain ⟨g',e,Mu,_⟩:=hg _ h2
  cases e
  exact ⟨(y:Int),Tu.2 ⟨y,rfl,by rw [h1];simp⟩,List.mem_map.2 ⟨some g,h2,db h1 h3⟩⟩
theorem sG {n:Nat} (h1:1<=n) (h2:n<=20): ∀(k l:Nat) (p:List Int) (s:Av×Av),l+k=n->V n k l s->Pm n p->Fx l p->IV n k l s p (Dm k l p s)
 |0,l,p,s,hk,hv,hp,hf=>by
  have hl:l=n:=by omega
  subst hl
  exact ⟨hv,Ot.refl _ _,by rw [hf.all hp];exact .id,λo ho=> .inl ho⟩
 |k+1,l,p,s,hk,hv,hp,hf=>by
  have eO:l<n:=by omega
  obtain ⟨v1,v2,hc,rz⟩:=hv
  have eL:=hc
  obtain ⟨c1,c2,c3⟩:=hc
  unfold Dm
  by_cases hh:Dy s.2 (k+1) l p=true
  ·rw [if_pos hh]
   exact ⟨⟨v1,v2,eL,rz⟩,Ot.refl _ _,(Nb h1 h2 (k+1) l s hk eL p hp hf).1 hh,λo ho=> .inl ho⟩
  rw [if_neg hh]
  generalize ig:s.1.getD l []++ [some p]=gs
  have Ss:some p∈gs:=by rw [<-ig];simp
  have Jy: ∀o∈s.1.getD l [],o∈gs:= λo ho=>by rw [<-ig];exact List.mem_append_left _ ho
  have hg:PG n l gs:= λo ho=>by
   rw [<-ig] at ho
   rcases List.mem_append.1 ho with ho|ho
   ·exact c2.pg o ho
   ·rw [List.mem_singleton] at ho;exact ⟨p,ho,hp,hf⟩
  have Ab8:Nu n l gs (s.2.getD l []):=⟨c2.rl,c2.r0,λy t e=>⟨(c2.rt y t e).1,(c2.rt y t e).2.1,(c2.rt y t e).2.2.1,(c2.rt y t e).2.2.2.mono λg hg=>Jy _ hg⟩⟩
  obtain ⟨r1,r2,r3⟩:=xp eO h2 hg Ab8
  generalize hR:Rp gs (s.2.getD l [])=R at r1 r2 r3
  have hS:vD n λg=>some g∈gs:=⟨⟨h1,h2⟩,λg Mf=>by obtain ⟨g',e,h,_⟩:=hg _ Mf;cases e;exact h⟩
  have oq: ∀i,((s.1.set l gs).getD i []=if i=l then gs else s.1.getD i [])/\(s.2.set l R).getD i []=if i=l then R else s.2.getD i []:= λi=>by
   rw [Gk,Gk]
   by_cases e:l=i
   ·subst e;rw [if_pos ⟨rfl,by omega⟩,if_pos rfl,if_pos ⟨rfl,by omega⟩,if_pos rfl];exact ⟨rfl,rfl⟩
   ·rw [if_neg (λhh=>e hh.1),if_neg (Ne.symm e),if_neg (λhh=>e hh.1),if_neg (Ne.symm e)];exact ⟨rfl,rfl⟩
  have rF: ∀i,l+1<=i->(s.1.set l gs).getD i []=s.1.getD i []/\(s.2.set l R).getD i []=s.2.getD i []:= λi hi=>by
   rw [(oq i).1,(oq i).2,if_neg (by omega),if_neg (by omega)];exact ⟨rfl,rfl⟩
  have gD:V n k (l+1) (s.1.set l gs,s.2.set l R):=⟨by simpa using v1,by simpa using v2,Nl k (l+1) rF c1,Va k (l+1) rF rz.1⟩
  have fR:Ot l s (s.1.set l gs,s.2.set l R):=by
   refine ⟨by simp,by simp,λi hi=>?_,λi o ho=>?_,λi y t e=>?_,λi=>?_⟩
   ·rw [(oq i).1,(oq i).2,if_neg (by omega),if_neg (by omega)];exact ⟨rfl,rfl⟩
   ·rw [(oq i).1]
    split
    ·rename_i hi;subst hi;exact Jy o ho
    ·exact ho
   ·rw [(oq i).2]
    split
    ·rename_i hi;subst hi;exact r2 y t e
    ·exact e
   ·rw [(oq i).2]
    split
    ·rename_i hi;subst hi;rw [r1.rl,c2.rl]
    ·rfl
  have hq: ∀q∈bl R gs,Pm n q/\Fx (l+1) q/\Gn n gs q:= λq hq=>by
   obtain ⟨y,t,g,t',e1,e2,e3,rfl⟩:=(jM hg r1 r3).1 hq
   obtain ⟨t1,t2,t3,t4⟩:=r1.rt _ _ e1
   obtain ⟨u1,u2,u3,u4⟩:=r1.rt _ _ e3
   obtain ⟨g',e,Mu,SY⟩:=hg _ e2
   cases e
   exact ⟨(t1.comp Mu).comp u1.inv,Fx.div (t1.comp Mu) u1 (Fx.comp t1 Mu t2 SY (by omega)) u2 eO (by rw [u3,Gv t1 Mu eO,t3]),Wc.comp hS (.mul t4 e2) (Wc.mi hS u4)⟩
  have fold: ∀(qs:List (List Int)) (s1:Av×Av),(∀q∈qs,Pm n q/\Fx (l+1) q)->V n k (l+1) s1->
    V n k (l+1) (qs.foldl (λs q=>Dm k (l+1) q s) s1)/\Ot (l+1) s1 (qs.foldl (λs q=>Dm k (l+1) q s) s1)/\
     (∀q∈qs,Gn n ((qs.foldl (λs q=>Dm k (l+1) q s) s1).1.getD (l+1) []) q)/\ ∀o∈(qs.foldl (λs q=>Dm k (l+1) q s) s1).1.getD (l+1) [],o∈s1.1.getD (l+1) []\/ ∃q∈qs,o=some q:=by
   intro qs
   induction qs with
   |nil=>exact λs1 _ hv=>⟨hv,Ot.refl _ _,(λq hq=>by cases hq),λo ho=>Or.inl ho⟩
   |cons q qs ih=>
    intro s1 FM hv
    have ha:=sG h1 h2 k (l+1) q s1 (by omega) hv (FM q (by simp)).1 (FM q (by simp)).2
    obtain ⟨g1,g2,g3,g4⟩:=ih (Dm k (l+1) q s1) (λq' fS=>FM q' (by simp [fS])) ha.v
    simp only [List.foldl_cons]
    refine ⟨g1,ha.grow.trans g2 (Nat.le_refl _),λq' fS=>?_,λo ho=>?_⟩
    ·rcases List.mem_cons.1 fS with rfl|fS
     ·exact ha.WZ.mono λg hg=>g2.rk _ _ hg
     ·exact g3 q' fS
    ·rcases g4 o ho with h|⟨q',fS,h⟩
     ·rcases ha.gens o h with h|h
      ·exact .inl h
      ·exact .inr ⟨q,by simp,h⟩
     ·exact .inr ⟨q',by simp [fS],h⟩
  obtain ⟨f1,f2,f3,f4⟩:=fold (bl R gs) (s.1.set l gs,s.2.set l R) (λq h=>⟨(hq q h).1,(hq q h).2.1⟩) gD
  generalize (bl R gs).foldl (λs q=>Dm k (l+1) q s) (s.1.set l gs,s.2.set l R)=s' at f1 f2 f3 f4
  obtain ⟨w1,w2,w3,w4⟩:=f1
  have ZW:s'.1.getD l []=gs:=by rw [(f2.low l (by omega)).1,(oq l).1,if_pos rfl]
  have el2:s'.2.getD l []=R:=by rw [(f2.low l (by omega)).2,(oq l).2,if_pos rfl]
  have nt:=fR.trans f2 (by omega)
  have VW:PD n l gs R (λq=>Dy s'.2 k (l+1) q=true):=⟨hg,r1.rl,r1.r0,r1.rt,r3,λy t g t' e1 e2 e3=>by
   have hm:=(jM hg r1 r3).2 ⟨y,t,g,t',e1,e2,e3,rfl⟩
   exact (Nb h1 h2 k (l+1) s' (by omega) w3 _ (hq _ hm).1 (hq _ hm).2.1).2 (f3 _ hm)⟩
  have wB:ef n (k+1) l s':=⟨w3,by rw [ZW,el2];exact VW,λg Mf=>by
   rw [ZW]
   rcases f4 _ Mf with h|⟨q,fS,h⟩
   ·rw [(rF (l+1) (Nat.le_refl _)).1] at h
    exact (c3 g h).mono λg hg=>Jy _ hg
   ·cases h;exact (hq _ fS).2.2⟩
  have cp:Gn n (s'.1.getD l []) p:=by rw [ZW];exact Wc.one hS Ss
  refine ⟨⟨w1,w2,wB,w4,?_⟩,nt,cp,λo ho=>?_⟩
  ·have hold:=rz.2
   obtain ⟨p1,p2⟩:=o8 nt.MU nt.pb (k+1) l
   have Ex:cJ s.2 (k+1) l≠cJ s'.2 (k+1) l:= λe=>by
    have:=Wm (k+1) l p (p2 e)
    rw [(Nb h1 h2 (k+1) l s' hk wB p hp hf).2 cp] at this
    exact hh this.symm
   rw [ZW,<-ig,List.length_append,List.length_singleton]
   omega
  ·rw [ZW,<-ig] at ho
   rcases List.mem_append.1 ho with ho|ho
   ·exact .inl ho
   ·rw [List.mem_singleton] at ho;exact .inr ho
end Go.Proofs.YtfolipnappekaaaGreat

namespace Go.Proofs.YtfolipnappekaaaGreat
open Go.RowKit
theorem ML {n l:Nat} {gs:List PO} {R:Row} (eO:l<n) (hg:PG n l gs) (r1:Nu n l gs R) (r3: ∀y t g,R.getD y none=some t->some g∈gs->R.getD (ap g y) none≠none): ∀q∈bl R gs,Pm n q/\Fx (l+1) q:=by
 intro q hq
 obtain ⟨y,t,g,t',e1,e2,e3,rfl⟩:=(jM hg r1 r3).1 hq
 obtain ⟨t1,t2,t3,t4⟩:=r1.rt _ _ e1
 obtain ⟨u1,u2,u3,u4⟩:=r1.rt _ _ e3
 obtain ⟨g',e,Mu,SY⟩:=hg _ e2
 cases e
 exact ⟨(t1.comp Mu).comp u1.inv,Fx.div (t1.comp Mu) u1 (Fx.comp t1 Mu t2 SY (by omega)) u2 eO (by rw [u3,Gv t1 Mu eO,t3])⟩
theorem V.lower {n k l:Nat} {s:Av×Av} (h:V n (k+1) l s) (gs:List PO) (R:Row):V n k (l+1) (s.1.set l gs,s.2.set l R):=by
 obtain ⟨v1,v2,hc,rz⟩:=h
 have rF: ∀i,l+1<=i->(s.1.set l gs).getD i []=s.1.getD i []/\(s.2.set l R).getD i []=s.2.getD i []:= λi hi=>by
  rw [Gk,Gk,if_neg (by omega),if_neg (by omega)];exact ⟨rfl,rfl⟩
 exact ⟨by simpa using v1,by simpa using v2,Nl k (l+1) rF hc.1,Va k (l+1) rF rz.1⟩
theorem DB {n k l:Nat} (h1:1<=n) (h2:n<=20) (hk:l+k=n): ∀(qs:List (List Int)) (s1:Av×Av),(∀q∈qs,Pm n q/\Fx l q)->V n k l s1->
  V n k l (qs.foldl (λs q=>Dm k l q s) s1)/\Ot l s1 (qs.foldl (λs q=>Dm k l q s) s1)
 | [],s1,_,hv=>⟨hv,Ot.refl _ _⟩
 |q::qs,s1,FM,hv=>by
  have ha:=sG h1 h2 k l q s1 hk hv (FM q (by simp)).1 (FM q (by simp)).2
  obtain ⟨g1,g2⟩:=DB h1 h2 hk qs (Dm k l q s1) (λq' fS=>FM q' (by simp [fS])) ha.v
  exact ⟨g1,ha.grow.trans g2 (Nat.le_refl _)⟩
theorem MM {n:Nat} {s:Av×Av} : ∀(k l:Nat),ef n k l s->cJ s.2 k l<=n*k
 |0,_,_=>by simp [cJ]
 |k+1,l,hc=>by
  have h1:=MM k (l+1) hc.1
  have h2:pD (s.2.getD l [])<=n:=by
   have:=hc.2.1.rl
   have h3:pD (s.2.getD l [])<=(s.2.getD l []).length:=List.countP_le_length
   omega
  simp only [cJ]
  rw [Nat.mul_succ]
  omega
theorem DF {n k l:Nat} {s:Av×Av} (h2:n<=20) (hk:l+(k+1)=n) (h:V n (k+1) l s):(s.1.getD l []).length<=400:=by
 have h3:=h.2.2.2.2
 have h4:=MM (k+1) l h.2.2.1
 have h5:n*(k+1)<=20*20:=Nat.mul_le_mul h2 (by omega)
 omega
theorem V.lvl {n k l:Nat} {s:Av×Av} (h:V n (k+1) l s):PD n l (s.1.getD l []) (s.2.getD l []) (λq=>Dy s.2 k (l+1) q=true):=h.2.2.1.2.1
theorem V.pg {n k l:Nat} {s:Av×Av} (h:V n (k+1) l s) {p:List Int} (hp:Pm n p) (hf:Fx l p):PG n l (s.1.getD l []++ [some p]):= λo ho=>by
 rcases List.mem_append.1 ho with ho|ho
 ·exact h.lvl.pg o ho
 ·rw [List.mem_singleton] at ho;exact ⟨p,ho,hp,hf⟩
theorem V.Ahc {n k l:Nat} {s:Av×Av} (h:V n (k+1) l s) (p:List Int):Nu n l (s.1.getD l []++ [some p]) (s.2.getD l []):=
 ⟨h.lvl.rl,h.lvl.r0,λy t e=>⟨(h.lvl.rt y t e).1,(h.lvl.rt y t e).2.1,(h.lvl.rt y t e).2.2.1,(h.lvl.rt y t e).2.2.2.mono λ_ hg=>List.mem_append_left _ hg⟩⟩
theorem ql {α:Type} (xs:List (List α)) (i:Nat) (h:i<xs.length):xs.set i (xs.getD i [])=xs:=by
 refine List.ext_getElem (by simp) λj h1 h2=>?_
 rw [List.getElem_set]
 split
 ·rename_i e;subst e;rw [List.getD_eq_getElem?_getD,List.getElem?_eq_getElem h];rfl
 ·rfl
theorem Xn {α:Type} (xs:List (List α)) (i:Nat) (h:i<xs.length) (r:List α):(xs.set i r).getD i []=r:=by
 rw [Gk,if_pos ⟨rfl,h⟩]
end Go.Proofs.YtfolipnappekaaaGreat

namespace Go.Proofs.YtfolipnappekaaaGreat
open Go.RowKit
noncomputable abbrev Qz:MSpec:=mn [none] [(false, .Ee RK)] false [none] [.row tI 2] (λx=>List.length x.1<=20) (λx=>((Nz x.1,()),()))
noncomputable abbrev Ez:Spec:=Co (.pair tL (.pair tL .unit)) tO false true (λx=>(0<x.1.length/\x.1.length<=20)/\Ho x.2.1.length x.1) (λx=>some (Aa x.1 x.2.1))
noncomputable abbrev Hr:Spec:=Co (.pair tL (.pair tL .unit)) tL false false (λx=>x.1.length<=20/\Ho x.2.1.length x.1) (λx=>Aa x.1 x.2.1)
noncomputable abbrev cY:Spec:=Co (.pair tI .unit) tL false true (λx=>0<=x.1/\x.1<=20) (λx=>upto x.1.toNat)
noncomputable abbrev Ju:Spec:=Co (.pair tI .unit) tO false true (λx=>1<=x.1/\x.1<=20) (λx=>some (upto x.1.toNat))
abbrev pz:TypeId:=22
structure Oo (N L:Nat) (n:Int) (G T:Av) (l:Int) (p:List Int):Prop where
 n1:1<=N
 n2:N<=20
 en:n=N
 el:l=L
 le:L<=N
 v:V N (N-L) L (G,T)
 pm:Pm N p
 fx:Fx L p
noncomputable abbrev iN:Spec:=Co (.pair (.ptr j8) (.pair tI (.pair tL .unit))) .bool false true (λx=> ∃N L,Oo N L x.1.1 x.1.2.1 x.1.2.2.1 x.2.1 x.2.2.1) (λx=>Dy x.1.2.2.1 (x.1.1-x.2.1).toNat x.2.1.toNat x.2.2.1)
noncomputable abbrev TV:MSpec:= {ptr:=some (141,3),Fb:= [none,none],ins:= [(false, .Ee tI),(false, .Ai tO pz true),(false, .Ai tO pz true),(false, .Ee tI),(false, .Ee tO)],Dh:=false,Ef:= [],outs:= [.Ee tI, .Ai tO pz false, .Ai tO pz false],fn:= λ_=>none,keeps:= [(1,1),(2,2)],Ci:= λx=>x.2.2.2.1.toNat}
noncomputable abbrev Pg (m:Nat):MSpec:=gF TV (λx=>(∃N L q,x.2.2.2.2.1=some q/\Oo N L x.1 x.2.1 x.2.2.1 x.2.2.2.1 q)/\(x.1-x.2.2.2.1).toNat<m)
 (λx=>((x.1,(Dm (x.1-x.2.2.2.1).toNat x.2.2.2.1.toNat (x.2.2.2.2.1.getD []) (x.2.1,x.2.2.1)).1,(Dm (x.1-x.2.2.2.1).toNat x.2.2.2.1.toNat (x.2.2.2.2.1.getD []) (x.2.1,x.2.2.1)).2,()),()))
theorem yo (n:Int) (P:List Int->Prop):(((0:Int)<=n/\n<(↑Bj:Int)+(1:Int))/\n=n/\0=0/\(List.replicate n.toNat (Int.ofNat (nat_lit 0))).length=(List.replicate n.toNat (Int.ofNat (nat_lit 0))).length/\Bk (λ(v2:Int×List Int×PUnit) (k3:Int×List Int×PUnit->Prop)=>Br (decide (v2.1<(↑(List.replicate n.toNat (Int.ofNat (nat_lit 0))).length:Int))) (((0:Int)<=v2.1/\v2.1<(↑v2.2.1.length:Int))/\0+v2.1.toNat<v2.2.1.length/\0=0/\v2.2.1.length=(v2.2.1.set (0+v2.1.toNat) v2.1).length/\k3 (IntKind.i64.wrap (v2.1+(1:Int)),v2.2.1.set (0+v2.1.toNat) v2.1,())) (P (List.take v2.2.1.length (List.drop 0 v2.2.1)))) ((0:Int),List.replicate n.toNat (Int.ofNat (nat_lit 0)),PUnit.unit))=fnW Cc (look []) cY Tryz.f105 (n,()) P:=by kernel_rfl
theorem ID (row:List (Option (List Int))) (P:(List Int×Unit)×Unit->Prop):(0=0/\0=([]:List Int).length/\Bk (λ(v2:Int×List Int×PUnit) (k3:Int×List Int×PUnit->Prop)=>Br (decide (v2.1<(↑row.length:Int))) (∃(y4:Option (List Int)),idx row v2.1=some y4/\Br (!y4.isNone) (0=0/\v2.2.1.length=v2.2.1.length/\v2.2.1.length+(List.take 1 (List.drop 0 [v2.1])).length<=Bj/\0=0/\(v2.2.1++List.take 1 (List.drop 0 [v2.1])).length=(v2.2.1++List.take 1 (List.drop 0 [v2.1])).length/\k3 (IntKind.i64.wrap (v2.1+(1:Int)),v2.2.1++List.take 1 (List.drop 0 [v2.1]),())) (0=0/\v2.2.1.length=v2.2.1.length/\k3 (IntKind.i64.wrap (v2.1+(1:Int)),v2.2.1,()))) (P ((List.take v2.2.1.length (List.drop 0 v2.2.1),()),()))) ((0:Int),[],PUnit.unit))=fnMW Wb (look []) Qz Tryz.f147 (row,()) P:=by kernel_rfl
theorem Acs (c:Int×List (List (Option (List Int)))×List (List (Option (List Int)))×Unit) (l:Int) (p:List Int) (P:Bool->Prop):(Bk (λ(v4:List Int×Int×PUnit) (k5:List Int×Int×PUnit->Prop)=>Br (decide (v4.2.1<c.1)) (∃(y6:List (Option (List Int))),idx c.2.2.1 v4.2.1=some y6/\ ∃(y7:Int),idx v4.1 v4.2.1=some y7/\ ∃(y8:Option (List Int)),idx y6 y7=some y8/\Br y8.isNone (P false) (∃(y9:List Int),Ck.fn (y8.getD [],())=some y9/\ ∃(Xy:List Int),Hr.fn (v4.1,y9,())=some Xy/\k5 (Xy,IntKind.i64.wrap (v4.2.1+(1:Int)),()))) (P true)) (p,l,PUnit.unit))=fnW Wb (look [(56,Ck),(121,Hr)]) iN Tryz.f99 (c,l,p,()) P:=by kernel_rfl
theorem Sound.loose {P:Program} {f:FuncId} {arg res:Ty} {pre:arg.den->Prop} {val:arg.den->res.den} (h:Sound P f (Go.Proofs.YtfolipnappekaaaGreat.Co arg res false true pre val)):Sound P f (Go.Proofs.YtfolipnappekaaaGreat.Co arg res false false pre val):=
 ⟨h.enter,λw S vs x y h1 h2 h3=>Calls.mono (h.calls w S vs x y h1 h2 h3) λe' w' hr=>by
  obtain ⟨v,g1,g2,g3⟩:=hr
  exact ⟨v,g1,g2,Bb.Ek (S:= λb=>S b\/(true=true/\b<w.heap.size)) g3 λk _ hk=>hk.elim .inl λhh=>absurd (show false=true from hh.1) (by simp)⟩⟩
theorem oG:Sound Tryz.prog 121 Hr:=Sound.loose Xa
theorem oH:Sound Tryz.prog 121 Ez:=Sound.YJ Xa λx h=>⟨⟨h.1.2,h.2⟩,λe=>by
 have:=Jn x.1 x.2.1
 rw [e] at this
 have:=h.1.1
 simp only [List.length_nil] at*
 omega⟩
theorem xt (n:Int) (h:0<=n/\n<=20):fnW Cc (look []) cY Tryz.f105 (n,()) (λ(z:List Int)=>z=upto n.toNat):=by
 refine Eq.mp (yo n _) ⟨⟨by omega,by show n<(4294967296:Int)+1;omega⟩,rfl,rfl,rfl,?_⟩
 refine Ah n.toNat (λv=>v.1) (λj v=>v.2.1.length=n.toNat/\v.2.1.take j=upto j) rfl ⟨by simp,by simp [upto]⟩ ?_
 rintro j ⟨i,ys,⟨⟩⟩ K hj hi ⟨h1,h2⟩ hK
 dsimp only at hi h1 h2⊢
 subst hi
 rw [List.length_replicate]
 simp only [Int.toNat_natCast,Nat.zero_add]
 refine Br.dec (λhl=>⟨⟨by omega,by omega⟩,by omega,trivial,by rw [List.length_set],?_⟩) λhl=>?_
 ·rw [Ag (by omega)]
  refine hK (by omega) _ rfl ⟨by rw [List.length_set];exact h1,?_⟩
  rw [List.take_add_one,List.take_set_of_le (by omega),h2,List.getElem?_set_self (by omega),ed]
  rfl
 ·have:j=ys.length:=by omega
  subst this
  rw [List.take_length] at h2
  rw [List.drop_zero,List.take_length,h2,h1]
theorem lO:Sound Tryz.prog 105 cY:=
 Sound.Co Bg Al mixed Tryz.func105 (by kernel_rfl) (by kernel_rfl) λx h=>xt x.1 h
theorem EL {n:Int} (h:1<=n/\n<=20):(0<=n/\n<=20)/\upto n.toNat≠ []:=⟨by omega,λe=>by
 have:=congrArg List.length e
 simp [upto] at this
 omega⟩
theorem lN:Sound Tryz.prog 105 Ju:=Sound.YJ lO λ_ h=>EL h
theorem xo {row:Row} {j:Nat} :(upto (j+1)).filter (λy=>(row.getD y.toNat none).isSome)=(upto j).filter (λy=>(row.getD y.toNat none).isSome)++if (row.getD j none).isSome=true then [(j:Int)] else []:=by
 rw [ed,List.filter_append]
 congr 1
 simp only [List.filter_cons,List.filter_nil,Int.toNat_natCast]
theorem GJ (row:List (Option (List Int))) (h:List.length row<=20):fnMW Wb (look []) Qz Tryz.f147 (row,()) (λ(z:(List Int×Unit)×Unit)=>z=((Nz row,()),())):=by
 refine Eq.mp (ID row _) ⟨rfl,rfl,?_⟩
 refine Ah row.length (λv=>v.1) (λj v=>v.2.1=(upto j).filter (λy=>(row.getD y.toNat none).isSome)) rfl rfl ?_
 rintro j ⟨i,ys,⟨⟩⟩ K hj hi h1 hK
 dsimp only at hi h1⊢
 subst hi
 refine Br.dec (λhl=>?_) λhl=>?_
 ·have hl:j<row.length:=by omega
  have hlen:ys.length<=j:=by rw [h1];refine Nat.le_trans (List.length_filter_le _ _) (by simp [upto])
  have hg:row.getD j none=row[j]:=by rw [List.getD_eq_getElem?_getD,List.getElem?_eq_getElem hl];rfl
  refine ⟨_,Ap hl,Br.of (λhb=>⟨rfl,rfl,?_,rfl,rfl,?_⟩) λhb=>⟨rfl,rfl,?_⟩⟩
  ·show ys.length+1<=4294967296
   omega
  ·rw [Ag (by omega)]
   refine hK hl _ rfl ?_
   show ys++ [(j:Int)]=_
   rw [xo,hg,h1,if_pos (by cases e:row[j] with
    |none=>rw [e] at hb;simp at hb
    |some t=>rfl)]
  ·rw [Ag (by omega)]
   refine hK hl _ rfl ?_
   show ys=_
   rw [xo,hg,h1,if_neg (by cases e:row[j] with
    |none=>simp
    |some t=>rw [e] at hb;simp at hb),List.append_nil]
 ·have:j=row.length:=by omega
  subst this
  rw [List.drop_zero,List.take_length,h1]
  rfl
theorem qw:Bf Tryz.prog 147 Qz:=
 Bf.mn p8 Al mixed Tryz.func147 (by kernel_rfl) (by kernel_rfl) λx h=>GJ x.1 h
theorem mT {n:Nat} {s:Av×Av} : ∀(k l:Nat),ef n k l s-> ∀i,l<=i->i<l+k->PD n i (s.1.getD i []) (s.2.getD i []) (λq=>Dy s.2 (l+k-i-1) (i+1) q=true)
 |0,_,_,i,h1,h2=>by omega
 |k+1,l,hc,i,h1,h2=>by
  obtain ⟨c1,c2,_⟩:=hc
  by_cases e:i=l
  ·subst e
   rw [show i+(k+1)-i-1=k by omega]
   exact c2
  ·have:=mT k (l+1) c1 i (by omega) (by omega)
   rwa [show l+1+k-i-1=l+(k+1)-i-1 by omega] at this
theorem SG {α:Type} {xs:List (List α)} {i:Nat} (h:i<xs.length):xs.getD i []=xs[i]:=by
 rw [List.getD_eq_getElem?_getD,List.getElem?_eq_getElem h];rfl
theorem wu {α:Type} {xs:List (Option α)} {i:Nat} (h:i<xs.length):xs.getD i none=xs[i]:=by
 rw [List.getD_eq_getElem?_getD,List.getElem?_eq_getElem h];rfl
theorem Pm.row {n:Nat} {p:List Int} (h:Pm n p):Ho n p:=by
 have:=h.2.row
 rwa [h.1] at this
theorem Ac3 (c:Int×List (List (Option (List Int)))×List (List (Option (List Int)))×Unit) (l:Int) (p:List Int) (h: ∃N L,Oo N L c.1 c.2.1 c.2.2.1 l p):
  fnW Wb (look [(56,Ck),(121,Hr)]) iN Tryz.f99 (c,l,p,()) (λ(z:Bool)=>z=Dy c.2.2.1 (c.1-l).toNat l.toNat p):=by
 obtain ⟨n,G,T,⟨⟩⟩:=c
 obtain ⟨N,L,h⟩:=h
 obtain ⟨n1,n2,en,el,hle,v,pm,fx⟩:=h
 dsimp only at en el v⊢
 subst en el
 refine Eq.mp (Acs ((N:Int),G,T,()) (L:Int) p _) ?_
 obtain ⟨v1,v2,v3,v4⟩:=v
 dsimp only at v1 v2
 refine ⟨λv=> ∃i:Nat,L<=i/\i<=N/\v.2.1=i/\Pm N v.1/\Fx i v.1/\Dy T (N-i) i v.1=Dy T (N-L) L p,λv=>N-v.2.1.toNat,⟨L,Nat.le_refl _,hle,rfl,pm,fx,rfl⟩,?_⟩
 rintro ⟨p',i',⟨⟩⟩ ⟨i,h1,h2,h3,h4,h5,h6⟩
 dsimp only at h3 h4 h5 h6⊢
 subst h3
 rw [show (((N:Int)-(L:Int)).toNat)=N-L by omega,show ((L:Int)).toNat=L by omega,<-h6]
 refine Br.dec (λhl=>?_) λhl=>?_
 ·have hl:i<N:=by omega
  have Ge:=mT (N-L) L v3 i h1 (by omega)
  obtain ⟨a1,a2⟩:=h4.Tk hl
  have hT:i<T.length:=by omega
  have hlen:T[i].length=N:=by have:=Ge.rl;dsimp only at this;rwa [SG hT] at this
  refine ⟨_,Ap hT,_,Ap (by rw [h4.1];exact hl),?_⟩
  have e1:p'[i]'(by rw [h4.1];exact hl)=(ap p' i:Int):=by rw [<-a1,Hl]
  rw [e1]
  refine ⟨_,Ap (by omega),?_⟩
  have e2:N-i=(N-i-1)+1:=by omega
  have e3:(T.getD i []).getD (Ig p' (i:Int)).toNat none=T[i][ap p' i]'(by omega):=by
   rw [SG hT];exact wu (by show ap p' i<_;omega)
  rw [e2]
  simp only [Dy,e3]
  refine Br.of (λhb=>?_) λhb=>?_
  ·cases e:T[i][ap p' i]'(by omega) with
   |none=>rfl
   |some t=>rw [e] at hb;simp at hb
  ·cases e:T[i][ap p' i]'(by omega) with
   |none=>rw [e] at hb;simp at hb
   |some t=>
    have ht:(T.getD i []).getD (ap p' i) none=some t:=by rw [<-e];exact e3
    obtain ⟨t1,t2,t3,t4⟩:=Ge.rt _ _ ht
    simp only [Option.getD_some]
    refine ⟨_,if_pos ⟨by show t.length<=20;rw [t1.1];exact n2,t1.2.row⟩,_,if_pos ⟨by show p'.length<=20;rw [h4.1];exact n2,by show Ho (Af t).length p';rw [il,t1.1];exact h4.row⟩,⟨i+1,by omega,by omega,Ag (by omega),h4.comp t1.inv,Fx.div h4 t1 h5 t2 hl t3,?_⟩,?_⟩
    ·rw [show N-(i+1)=N-i-1 by omega]
    ·show N-(IntKind.i64.wrap ((i:Int)+1)).toNat<N-((i:Int)).toNat
     rw [Ag (by omega)]
     omega
 ·rw [show N-i=0 by omega]
  rfl
theorem ss:Sound Tryz.prog 99 iN:=
 Sound.Co p8 (Ae Pl (Ae oG Al)) mixed Tryz.func99 (by kernel_rfl) (by kernel_rfl) λx h=>Ac3 x.1 x.2.1 x.2.2.1 h
end Go.Proofs.YtfolipnappekaaaGreat

namespace Go.Proofs.YtfolipnappekaaaGreat
open Go.RowKit
abbrev uL:Type:=Nat×Nat×Int×List (List (Option (List Int)))×Nat×List (List (Option (List Int)))×Nat×List Int×Int×PUnit
abbrev NK:Type:=Nat×Int×List (List (Option (List Int)))×Nat×List (List (Option (List Int)))×Nat×List Int×Int×PUnit
abbrev NL:Type:=Nat×List (List (Option (List Int)))×Nat×List (List (Option (List Int)))×Nat×List Int×Int×PUnit
abbrev Gp (G:List (List (Option (List Int)))) (l:Int) (p:Option (List Int)) (T:List (List (Option (List Int)))) (y7:Bool) (n:Int):Prop:=0=0/\(G.getD (0+l.toNat) []).length=(G.getD (0+l.toNat) []).length/\(G.getD (0+l.toNat) []).length+(List.take 1 (List.drop 0 [p])).length<=Bj/\((0:Int)<=l/\l<(↑G.length:Int))/\0=0/\(G.getD (0+l.toNat) []++List.take 1 (List.drop 0 [p])).length=(G.getD (0+l.toNat) []++List.take 1 (List.drop 0 [p])).length/\0+l.toNat=0+l.toNat/\ [(0,G.length),(0,G.length),(0,G.length),(0,T.length)]= [(0,G.length),(0,G.length),(0,G.length),(0,T.length)]/\(l,p,l,p,y7,l,l,0+l.toNat,p,List.take 1 (List.drop 0 [p]),0+l.toNat,G.set (0+l.toNat) (G.getD (0+l.toNat) []++List.take 1 (List.drop 0 [p])),min G.length (0+l.toNat),T,T.length,n,())=(l,p,l,p,y7,l,l,0+l.toNat,p,List.take 1 (List.drop 0 [p]),0+l.toNat,G.set (0+l.toNat) (G.getD (0+l.toNat) []++List.take 1 (List.drop 0 [p])),min G.length (0+l.toNat),T,T.length,n,PUnit.unit)
theorem Acn {m:Nat} (n:Int) (G T:List (List (Option (List Int)))) (l:Int) (p:Option (List Int)) (P:(Int×List (List (Option (List Int)))×List (List (Option (List Int)))×Unit)×Unit->Prop):(∃(y7:Bool),iN.fn ((n,List.take G.length (List.drop 0 G),List.take T.length (List.drop 0 T),()),l,p.getD [],())=some y7/\Br y7 ((0=0/\G.length=G.length)/\(0=0/\T.length=T.length)/\(Pg (m+1)).Ci (n,G,T,l,p,())<=G.length/\(Pg (m+1)).Ci (n,G,T,l,p,())<=T.length/\P ((n,G,T,()),())) (((0:Int)<=l/\l<(↑G.length:Int))/\0=0/\(G.getD (0+l.toNat) []).length=(G.getD (0+l.toNat) []).length/\(G.getD (0+l.toNat) []).length+(List.take 1 (List.drop 0 [p])).length<=Bj/\((0:Int)<=l/\l<(↑G.length:Int))/\0=0/\(G.getD (0+l.toNat) []++List.take 1 (List.drop 0 [p])).length=(G.getD (0+l.toNat) []++List.take 1 (List.drop 0 [p])).length/\0+l.toNat=0+l.toNat/\(((0:Int)<=l/\l<(↑T.length:Int))/\ ∃(y8:(List Int×PUnit)×PUnit),Qz.fn (T.getD (0+l.toNat) [],())=some y8/\0=0/\(List.take y8.1.1.length (List.drop 0 y8.1.1)).length=(List.take y8.1.1.length (List.drop 0 y8.1.1)).length/\0=0/\G.length=(G.set (0+l.toNat) (G.getD (0+l.toNat) []++List.take 1 (List.drop 0 [p]))).length/\0=0/\T.length=T.length/\Bk (λ(v9:NL) (k10:NL->Prop)=>Br (decide ((↑v9.2.2.2.2.2.1.length:Int)>(0:Int))) (((0:Int)<=l/\l<(↑v9.2.1.length:Int))/\0=0/\(List.take v9.2.2.2.2.2.1.length (List.drop 0 v9.2.2.2.2.2.1)).length=(List.take v9.2.2.2.2.2.1.length (List.drop 0 v9.2.2.2.2.2.1)).length/\0=0/\v9.2.1.length=v9.2.1.length/\0=0/\v9.2.2.2.1.length=v9.2.2.2.1.length/\Bk (λ(v11:uL) (k12:uL->Prop)=>Br (decide (v11.2.2.1<(↑(v9.2.1.getD (0+l.toNat) []).length:Int))) (((0:Int)<=v11.2.2.1/\v11.2.2.1<(↑(v11.2.2.2.1.getD v11.2.1 []).length:Int))/\((0:Int)<=(0:Int)/\(0:Int)<(↑v11.2.2.2.2.2.2.2.1.length:Int))/\ ∃(OM:Int),v11.2.2.2.2.2.2.2.1[0+Int.toNat (0:Int)]?=some OM/\ ∃(aS:Int),idx (((v11.2.2.2.1.getD v11.2.1 []).getD v11.2.2.1.toNat (none:Option (List Int))).getD []) OM=some aS/\((0:Int)<=aS/\aS<(↑(v11.2.2.2.2.2.1.getD v11.1 []).length:Int))/\Br ((v11.2.2.2.2.2.1.getD v11.1 []).getD aS.toNat (none:Option (List Int))).isNone (((0:Int)<=(0:Int)/\(0:Int)<(↑v11.2.2.2.2.2.2.2.1.length:Int))/\ ∃(pA:Int),v11.2.2.2.2.2.2.2.1[0+Int.toNat (0:Int)]?=some pA/\((0:Int)<=pA/\pA<(↑(v11.2.2.2.2.2.1.getD v11.1 []).length:Int))/\ ∃(vz:Option (List Int)),Ez.fn (((v11.2.2.2.2.2.1.getD v11.1 []).getD pA.toNat (none:Option (List Int))).getD [],((v11.2.2.2.1.getD v11.2.1 []).getD v11.2.2.1.toNat (none:Option (List Int))).getD [],())=some vz/\((0:Int)<=aS/\aS<(↑(v11.2.2.2.2.2.1.getD v11.1 []).length:Int))/\0=0/\v11.2.2.2.2.2.2.2.1.length=v11.2.2.2.2.2.2.2.1.length/\v11.2.2.2.2.2.2.2.1.length+(List.take 1 (List.drop 0 [aS])).length<=Bj/\0=0/\(List.take (v11.2.2.2.2.2.2.2.1++List.take 1 (List.drop 0 [aS])).length (List.drop 0 (v11.2.2.2.2.2.2.2.1++List.take 1 (List.drop 0 [aS])))).length=(List.take (v11.2.2.2.2.2.2.2.1++List.take 1 (List.drop 0 [aS])).length (List.drop 0 (v11.2.2.2.2.2.2.2.1++List.take 1 (List.drop 0 [aS])))).length/\0=0/\v11.2.2.2.1.length=v11.2.2.2.1.length/\0=0/\v11.2.2.2.2.2.1.length=(v11.2.2.2.2.2.1.set v11.1 ((v11.2.2.2.2.2.1.getD v11.1 []).set aS.toNat vz)).length/\k12 (v11.1,v11.2.1,IntKind.i64.wrap (v11.2.2.1+(1:Int)),v11.2.2.2.1,v11.2.2.2.2.1,v11.2.2.2.2.2.1.set v11.1 ((v11.2.2.2.2.2.1.getD v11.1 []).set aS.toNat vz),v11.2.2.2.2.2.2.1,List.take (v11.2.2.2.2.2.2.2.1++List.take 1 (List.drop 0 [aS])).length (List.drop 0 (v11.2.2.2.2.2.2.2.1++List.take 1 (List.drop 0 [aS]))),v11.2.2.2.2.2.2.2.2.1,())) (0=0/\(List.take v11.2.2.2.2.2.2.2.1.length (List.drop 0 v11.2.2.2.2.2.2.2.1)).length=(List.take v11.2.2.2.2.2.2.2.1.length (List.drop 0 v11.2.2.2.2.2.2.2.1)).length/\0=0/\v11.2.2.2.1.length=v11.2.2.2.1.length/\0=0/\v11.2.2.2.2.2.1.length=v11.2.2.2.2.2.1.length/\k12 (v11.1,v11.2.1,IntKind.i64.wrap (v11.2.2.1+(1:Int)),v11.2.2.2.1,v11.2.2.2.2.1,v11.2.2.2.2.2.1,v11.2.2.2.2.2.2.1,List.take v11.2.2.2.2.2.2.2.1.length (List.drop 0 v11.2.2.2.2.2.2.2.1),v11.2.2.2.2.2.2.2.2.1,()))) (((0:Int)<=(1:Int)/\(1:Int)<=(↑v11.2.2.2.2.2.2.2.1.length:Int)/\(↑v11.2.2.2.2.2.2.2.1.length:Int)<=(↑v11.2.2.2.2.2.2.2.1.length:Int))/\0=0/\(List.take ((↑v11.2.2.2.2.2.2.2.1.length:Int).toNat-Int.toNat (1:Int)) (List.drop (0+Int.toNat (1:Int)) v11.2.2.2.2.2.2.2.1)).length=(List.take ((↑v11.2.2.2.2.2.2.2.1.length:Int).toNat-Int.toNat (1:Int)) (List.drop (0+Int.toNat (1:Int)) v11.2.2.2.2.2.2.2.1)).length/\0=0/\v11.2.2.2.1.length=v11.2.2.2.1.length/\0=0/\v11.2.2.2.2.2.1.length=v11.2.2.2.2.2.1.length/\k10 (v11.1,v11.2.2.2.1,v11.2.2.2.2.1,v11.2.2.2.2.2.1,v11.2.2.2.2.2.2.1,List.take ((↑v11.2.2.2.2.2.2.2.1.length:Int).toNat-Int.toNat (1:Int)) (List.drop (0+Int.toNat (1:Int)) v11.2.2.2.2.2.2.2.1),v11.2.2.2.2.2.2.2.2.1,()))) (v9.1,0+l.toNat,(0:Int),v9.2.1,v9.2.2.1,v9.2.2.2.1,v9.2.2.2.2.1,List.take v9.2.2.2.2.2.1.length (List.drop 0 v9.2.2.2.2.2.1),v9.2.2.2.2.2.2.1,PUnit.unit)) (∃(qU:(List Int×PUnit)×PUnit),Qz.fn (v9.2.2.2.1.getD v9.1 [],())=some qU/\0=0/\qU.1.1.length=qU.1.1.length/\0=0/\v9.2.1.length=v9.2.1.length/\0=0/\v9.2.2.2.1.length=v9.2.2.2.1.length/\Bk (λ(It:NK) (k13:NK->Prop)=>Br (decide (It.2.1<(↑qU.1.1.length:Int))) (((0:Int)<=It.2.1/\It.2.1<(↑It.2.2.2.2.2.2.1.length:Int))/\ ∃(aS:Int),It.2.2.2.2.2.2.1[0+It.2.1.toNat]?=some aS/\((0:Int)<=l/\l<(↑It.2.2.1.length:Int))/\0=0/\It.2.2.2.2.2.2.1.length=It.2.2.2.2.2.2.1.length/\0=0/\It.2.2.1.length=It.2.2.1.length/\0=0/\It.2.2.2.2.1.length=It.2.2.2.2.1.length/\Bk (λ(La:uL) (k16:uL->Prop)=>Br (decide (La.2.2.1<(↑(It.2.2.1.getD (0+l.toNat) []).length:Int))) (((0:Int)<=La.2.2.1/\La.2.2.1<(↑(La.2.2.2.1.getD La.2.1 []).length:Int))/\((0:Int)<=aS/\aS<(↑(La.2.2.2.2.2.1.getD La.1 []).length:Int))/\ ∃(RX:Option (List Int)),Ez.fn (((La.2.2.2.2.2.1.getD La.1 []).getD aS.toNat (none:Option (List Int))).getD [],((La.2.2.2.1.getD La.2.1 []).getD La.2.2.1.toNat (none:Option (List Int))).getD [],())=some RX/\ ∃(IM:Int),idx (((La.2.2.2.1.getD La.2.1 []).getD La.2.2.1.toNat (none:Option (List Int))).getD []) aS=some IM/\((0:Int)<=IM/\IM<(↑(La.2.2.2.2.2.1.getD La.1 []).length:Int))/\ ∃(y19:List Int),Ck.fn (((La.2.2.2.2.2.1.getD La.1 []).getD IM.toNat (none:Option (List Int))).getD [],())=some y19/\ ∃(UI:Option (List Int)),Ez.fn (RX.getD [],y19,())=some UI/\0=0/\La.2.2.2.1.length=La.2.2.2.1.length/\0=0/\La.2.2.2.2.2.1.length=La.2.2.2.2.2.1.length/\ ∃(IU:(Int×List (List (Option (List Int)))×List (List (Option (List Int)))×PUnit)×PUnit),(Pg m).fn (La.2.2.2.2.2.2.2.2.1,La.2.2.2.1,La.2.2.2.2.2.1,IntKind.i64.wrap (l+(1:Int)),UI,())=some IU/\(La.1<(Pg m).Ci (La.2.2.2.2.2.2.2.2.1,La.2.2.2.1,La.2.2.2.2.2.1,IntKind.i64.wrap (l+(1:Int)),UI,())/\La.1<(List.length IU.1.2.2.1))/\(La.2.1<(Pg m).Ci (La.2.2.2.2.2.2.2.2.1,La.2.2.2.1,La.2.2.2.2.2.1,IntKind.i64.wrap (l+(1:Int)),UI,())/\La.2.1<(List.length IU.1.2.1))/\(La.1<(Pg m).Ci (La.2.2.2.2.2.2.2.2.1,La.2.2.2.1,La.2.2.2.2.2.1,IntKind.i64.wrap (l+(1:Int)),UI,())/\La.1<(List.length IU.1.2.2.1))/\(La.1<(Pg m).Ci (La.2.2.2.2.2.2.2.2.1,La.2.2.2.1,La.2.2.2.2.2.1,IntKind.i64.wrap (l+(1:Int)),UI,())/\La.1<(List.length IU.1.2.2.1))/\0=0/\La.2.2.2.2.2.2.2.1.length=La.2.2.2.2.2.2.2.1.length/\0=0/\IU.1.2.1.length=IU.1.2.1.length/\0=0/\IU.1.2.2.1.length=IU.1.2.2.1.length/\k16 (La.1,La.2.1,IntKind.i64.wrap (La.2.2.1+(1:Int)),IU.1.2.1,min La.2.2.2.2.1 ((Pg m).Ci (La.2.2.2.2.2.2.2.2.1,La.2.2.2.1,La.2.2.2.2.2.1,IntKind.i64.wrap (l+(1:Int)),UI,())),IU.1.2.2.1,min La.2.2.2.2.2.2.1 ((Pg m).Ci (La.2.2.2.2.2.2.2.2.1,La.2.2.2.1,La.2.2.2.2.2.1,IntKind.i64.wrap (l+(1:Int)),UI,())),La.2.2.2.2.2.2.2.1,IU.1.1,())) (0=0/\La.2.2.2.2.2.2.2.1.length=La.2.2.2.2.2.2.2.1.length/\0=0/\La.2.2.2.1.length=La.2.2.2.1.length/\0=0/\La.2.2.2.2.2.1.length=La.2.2.2.2.2.1.length/\k13 (La.1,IntKind.i64.wrap (It.2.1+(1:Int)),La.2.2.2.1,La.2.2.2.2.1,La.2.2.2.2.2.1,La.2.2.2.2.2.2.1,La.2.2.2.2.2.2.2.1,La.2.2.2.2.2.2.2.2.1,()))) (It.1,0+l.toNat,(0:Int),It.2.2.1,It.2.2.2.1,It.2.2.2.2.1,It.2.2.2.2.2.1,It.2.2.2.2.2.2.1,It.2.2.2.2.2.2.2.1,PUnit.unit)) ((0=0/\It.2.2.1.length=It.2.2.1.length)/\(0=0/\It.2.2.2.2.1.length=It.2.2.2.2.1.length)/\(Pg (m+1)).Ci (n,G,T,l,p,())<=It.2.2.2.1/\(Pg (m+1)).Ci (n,G,T,l,p,())<=It.2.2.2.2.2.1/\P ((It.2.2.2.2.2.2.2.1,It.2.2.1,It.2.2.2.2.1,()),()))) (v9.1,(0:Int),v9.2.1,v9.2.2.1,v9.2.2.2.1,v9.2.2.2.2.1,qU.1.1,v9.2.2.2.2.2.2.1,PUnit.unit))) (0+l.toNat,G.set (0+l.toNat) (G.getD (0+l.toNat) []++List.take 1 (List.drop 0 [p])),min G.length (0+l.toNat),T,T.length,List.take y8.1.1.length (List.drop 0 y8.1.1),n,PUnit.unit))/\(((((0:Int)<=l/\l<(↑G.length:Int))/\((Gp G l p T y7 n))/\(Gp G l p T y7 n))/\((0:Int)<=l/\l<(↑G.length:Int))/\(Gp G l p T y7 n))/\((0:Int)<=l/\l<(↑G.length:Int))/\(Gp G l p T y7 n))/\(((((0:Int)<=l/\l<(↑G.length:Int))/\((Gp G l p T y7 n))/\(Gp G l p T y7 n))/\((0:Int)<=l/\l<(↑G.length:Int))/\(Gp G l p T y7 n))/\(((0:Int)<=l/\l<(↑G.length:Int))/\(((Gp G l p T y7 n))/\(Gp G l p T y7 n))/\(((Gp G l p T y7 n))/\((Gp G l p T y7 n))/\(Gp G l p T y7 n))/\((Gp G l p T y7 n))/\((Gp G l p T y7 n))/\(Gp G l p T y7 n))/\(((0:Int)<=l/\l<(↑G.length:Int))/\(Gp G l p T y7 n))/\((0:Int)<=l/\l<(↑G.length:Int))/\((Gp G l p T y7 n))/\((Gp G l p T y7 n))/\(Gp G l p T y7 n))/\(((0:Int)<=l/\l<(↑G.length:Int))/\(Gp G l p T y7 n))/\(((0:Int)<=l/\l<(↑G.length:Int))/\(Gp G l p T y7 n))/\((0:Int)<=l/\l<(↑G.length:Int))/\((Gp G l p T y7 n))/\((Gp G l p T y7 n))/\(Gp G l p T y7 n)))=fnMW (NQ [Lo+7]) (look [(99,iN),(147,Qz),(121,Ez),(56,Ck),(130,Up.m (Pg m))]) (Pg (m+1)) Tryz.f130 (n,G,T,l,p,()) P:=by kernel_rfl
theorem vJ {k l:Nat} {p:List Int} {s:Av×Av} (h:Dy s.2 k l p=true):Dm k l p s=s:=by
 cases k with
 |zero=>rfl
 |succ k=>unfold Dm;rw [if_pos h]
theorem vI (k l:Nat) (p:List Int) (s:Av×Av):Dm (k+1) l p s=if Dy s.2 (k+1) l p=true then s else
   (bl (Rp (s.1.getD l []++ [some p]) (s.2.getD l [])) (s.1.getD l []++ [some p])).foldl (λs q=>Dm k (l+1) q s)
    (s.1.set l (s.1.getD l []++ [some p]),s.2.set l (Rp (s.1.getD l []++ [some p]) (s.2.getD l []))):=rfl
theorem tu {n:Nat} {p:List Int} (h:Pm n p) {i:Nat} (hi:i<n):idx p (i:Int)=some (ap p i:Int):=by
 have mf:i<p.length:=by rw [h.1];exact hi
 rw [Ap mf,<-(h.Tk hi).1,Hl mf]
theorem yT {x:Int} {gs:List PO} {j:Nat} (hj:j<gs.length) (s:Row×List Int):Tc x (gs.take (j+1)) s=Tm x (Tc x (gs.take j) s) gs[j]:=by
 unfold Tc
 rw [List.take_add_one,List.getElem?_eq_getElem hj,Option.toList_some,List.foldl_append]
 rfl
theorem yU {gs:List PO} {f:Nat} {row:Row} :Sq gs f [] row=row:=by cases f<;>rfl
theorem Qa {n:Nat} {p:List Int} (h:Pm n p):0<p.length/\p.length<=20:=⟨by rw [h.1];exact h.n1,by rw [h.1];exact h.n2⟩
theorem jY {n:Nat} {p q:List Int} (h:Pm n p) (k:Pm n q):Ho q.length p:=by rw [k.1];exact h.row
theorem Aby {m:Nat} (n:Int) (G T:List (List (Option (List Int)))) (l:Int) (p:Option (List Int)) (h:(∃N L q,p=some q/\Oo N L n G T l q)/\(n-l).toNat<m+1):
  fnMW (NQ [Lo+7]) (look [(99,iN),(147,Qz),(121,Ez),(56,Ck),(130,Up.m (Pg m))]) (Pg (m+1)) Tryz.f130 (n,G,T,l,p,()) (λ(z:(Int×List (List (Option (List Int)))×List (List (Option (List Int)))×Unit)×Unit)=>z=((n,(Dm (n-l).toNat l.toNat (p.getD []) (G,T)).1,(Dm (n-l).toNat l.toNat (p.getD []) (G,T)).2,()),())):=by
 obtain ⟨⟨N,L,q,rfl,h⟩,hm⟩:=h
 have h':=h
 obtain ⟨n1,n2,en,el,hle,v,pm,fx⟩:=h
 subst en el
 have hk:((N:Int)-(L:Int)).toNat=N-L:=by omega
 rw [hk,Int.toNat_natCast]
 refine Eq.mp (Acn (N:Int) G T (L:Int) (some q) _) ⟨_,if_pos ⟨N,L,?a⟩,?b⟩
 case a=>
  simp only [List.drop_zero,List.take_length,Option.getD_some]
  exact h'
 obtain ⟨v1,v2,v3,v4⟩:=v
 dsimp only at v1 v2
 have hw:IntKind.i64.wrap ((L:Int)+1)=((L+1:Nat):Int):=Ag (by omega)
 simp only [Gp]
 simp only [List.drop_zero,List.take_length,Option.getD_some,hk,Int.toNat_natCast,Nat.zero_add,eq_self,true_and,and_true,List.take_succ_cons,List.take_zero,List.length_cons,List.length_nil,List.length_set,hw]
 refine Br.of (λhh=>⟨by show Int.toNat (L:Int)<=G.length;omega,by show Int.toNat (L:Int)<=T.length;omega,?_⟩) λhh=>?_
 ·rw [vJ (s:=(G,T)) hh]
 obtain ⟨k,hNk⟩: ∃k,N-L=k+1:=by
  cases e:N-L with
  |zero=>rw [e] at hh;simp [Dy] at hh
  |succ k=>exact ⟨k,rfl⟩
 have hLN:L<N:=by omega
 have hv:V N (k+1) L (G,T):=by rw [<-hNk];exact ⟨v1,v2,v3,v4⟩
 rw [hNk] at hh⊢
 have e1:(0:Int)<=(L:Int)/\(L:Int)<(G.length:Int):=by omega
 have e1':(0:Int)<=(L:Int)/\(L:Int)<(T.length:Int):=by omega
 have hgl:(G.getD L []).length<=400:=DF n2 (by omega) hv
 have e2:(G.getD L []).length+1<=Bj:=by show _<=4294967296;omega
 simp only [e1,e1',e2,and_self,true_and,and_true]
 generalize ig:G.getD L []++ [some q]=gs
 have Ak8:gs.length<=401:=by rw [<-ig,List.length_append,List.length_singleton];omega
 have hg:PG N L gs:=by rw [<-ig];exact hv.pg pm fx
 have WH:Nu N L gs (T.getD L []):=by rw [<-ig];exact hv.Ahc q
 obtain ⟨r1,r2,r3⟩:=xp hLN n2 hg WH
 generalize hR:Rp gs (T.getD L [])=R at r1 r2 r3
 have nC:Dm (k+1) L q (G,T)=(bl R gs).foldl (λs q=>Dm k (L+1) q s) (G.set L gs,T.set L R):=by
  rw [vI,if_neg (by rw [hh];simp)]
  dsimp only
  rw [ig,hR]
 rw [nC]
 have hTl:L<T.length:=by omega
 have hGl:L<G.length:=by omega
 have UZ:(G.set L gs).getD L []=gs:=Xn G L hGl gs
 have hT1: ∀row:Row,(T.set L row).getD L []=row:=Xn T L hTl
 refine ⟨_,if_pos (by show (T.getD L []).length<=20;rw [WH.rl];exact n2),?_⟩
 dsimp only
 have hn0:(Nz (T.getD L [])).length+Gz (T.getD L [])<=40:=by have:=tT (T.getD L []);have:=cF (T.getD L []);have:=WH.rl;omega
 have hq0:EM gs (Nz (T.getD L [])) (T.getD L []):=⟨λy hy=>Tu.1 hy,λy hy=> .inl (Tu.2 ⟨y,rfl,hy⟩)⟩
 refine ⟨λv=> ∃(row:Row) (qu:List Int) (kg kt:Nat),v=(L,G.set L gs,kg,T.set L row,kt,qu,(N:Int),())/\L<=kg/\L<=kt/\qu.length+Gz row<=40/\Nu N L gs row/\EM gs qu row/\Sq gs (qu.length+Gz row) qu row=R,
  fun v=>v.2.2.2.2.2.1.length+Gz (v.2.2.2.1.getD v.1 []),⟨T.getD L [],Nz (T.getD L []),min G.length L,T.length,?_,by omega,by omega,hn0,WH,hq0,?_⟩,?_⟩
 ·rw [ql T L hTl]
 ·rw [<-vT hLN hg 100 _ _ (by omega) WH hq0];exact hR
 rintro v ⟨row,qu,kg,kt,rfl,VS,OT,hb,KN,hqi,JW⟩
 dsimp only
 simp only [UZ,hT1,List.length_set]
 refine Br.dec (λhl=>⟨e1.2,?_⟩) λhl=>?_
 ·cases qu with
  |nil=>simp at hl
  |cons x qu=>
  obtain ⟨p1,p2,xn,t,rfl,ht⟩:=AO hLN hg KN hqi
  have OZ:xn<N:=by rw [<-KN.rl];exact ia ht
  refine Ah gs.length (λv=>v.2.2.1) (λj v=> ∃kg kt:Nat,v=(L,L,(j:Int),G.set L gs,kg,T.set L (Tc (xn:Int) (gs.take j) (row,qu)).1,kt,(xn:Int)::(Tc (xn:Int) (gs.take j) (row,qu)).2,(N:Int),())/\L<=kg/\L<=kt) rfl ⟨kg,kt,rfl,VS,OT⟩ ?_
  rintro j v K hj hi ⟨kg,kt,rfl,h1,h2⟩ hK
  dsimp only
  simp only [UZ,hT1,Int.toNat_natCast]
  refine Br.dec (λhl=>?_) λhl=>?_
  ·have hl:j<gs.length:=by omega
   obtain ⟨x1,x2⟩:=MN hLN hg (gs.take j) (q:=qu) (λo ho=>List.mem_of_mem_take ho) KN ht
   have Te:=yT (x:=(xn:Int)) hl (row,qu)
   generalize Tc (xn:Int) (gs.take j) (row,qu)=s at x1 x2 Te⊢
   obtain ⟨r,qq⟩:=s
   dsimp only at x1 x2⊢
   obtain ⟨g,jg,Mu,SY⟩:=hg gs[j] (List.getElem_mem hl)
   have htx:r.getD xn none=some t:=x1.mono _ _ ht
   obtain ⟨t1,t2,t3,t4⟩:=x1.ok.rt _ _ htx
   have TO:r.length=N:=x1.ok.rl
   have hgj:gs.getD j none=some g:=by rw [wu hl];exact jg
   have hy:=Mu.lt OZ
   have hga:=(Mu.Tk OZ).1
   have QH:qq.length+Gz r=qu.length+Gz row:=x1.ZR
   simp only [List.length_cons] at hb
   simp only [hgj,Option.getD_some]
   refine ⟨⟨by omega,by omega⟩,⟨by omega,by simp only [List.length_cons];omega⟩,_,rfl,_,tu Mu OZ,⟨by omega,by omega⟩,?_⟩
   rw [jg] at Te
   unfold Tm at Te
   dsimp only at Te
   rw [Option.getD_some,hga,Int.toNat_natCast,Int.toNat_natCast,htx,Option.getD_some] at Te
   rw [Int.toNat_natCast]
   refine Br.of (λhn=>?_) λhn=>?_
   ·have hn:r.getD (ap g xn) none=none:=by
     cases e:r.getD (ap g xn) none with
     |none=>rfl
     |some u=>rw [e] at hn;simp at hn
    rw [hn] at Te
    refine ⟨⟨by omega,by simp only [List.length_cons];omega⟩,_,rfl,⟨by omega,by omega⟩,some (Aa t g),?_,⟨by omega,by omega⟩,?_,?_⟩
    ·rw [Int.toNat_natCast,htx,Option.getD_some]
     exact if_pos ⟨Qa t1,jY t1 Mu⟩
    ·show qq.length+1+1<=4294967296
     omega
    ·rw [Ag (by omega)]
     refine hK hl _ rfl ⟨kg,kt,?_,h1,h2⟩
     rw [Te,List.set_set]
     rfl
   ·have hn: ∃u,r.getD (ap g xn) none=some u:=by
     cases e:r.getD (ap g xn) none with
     |none=>rw [e] at hn;simp at hn
     |some u=>exact ⟨u,rfl⟩
    obtain ⟨u,hn⟩:=hn
    rw [hn] at Te
    rw [Ag (by omega)]
    refine hK hl _ rfl ⟨kg,kt,?_,h1,h2⟩
    rw [Te]
  ·have:j=gs.length:=by omega
   subst this
   rw [List.take_length]
   generalize hs:Tc (xn:Int) gs (row,qu)=s at p1 p2⊢
   obtain ⟨r,qq⟩:=s
   dsimp only at p1 p2⊢
   have QH:qq.length+Gz r=qu.length+Gz row:=p1.ZR
   simp only [List.length_cons] at hb JW
   refine ⟨⟨by omega,by simp only [List.length_cons];omega,Int.le_refl _⟩,⟨r,qq,kg,kt,?_,h1,h2,by omega,p1.ok,p2,?_⟩,?_⟩
   ·simp
   ·rw [show qu.length+1+Gz row=(qu.length+Gz row)+1 by omega] at JW
    simp only [Sq,hs] at JW
    rw [QH]
    exact JW
   ·simp only [List.length_cons]
    have:(List.take (qq.length+1-Int.toNat 1) (List.drop (Int.toNat 1) ((xn:Int)::qq))).length=qq.length:=by simp
    rw [this]
    omega
 ·have:qu= []:=List.eq_nil_of_length_eq_zero (by omega)
  subst this
  rw [yU] at JW
  subst JW
  have hpr:=ML hLN hg KN r3
  have hvl:=hv.lower gs row
  have SX: ∀qs:List (List Int),(∀q∈qs,q∈bl row gs)->V N k (L+1) (qs.foldl (λs q=>Dm k (L+1) q s) (G.set L gs,T.set L row))/\Ot (L+1) (G.set L gs,T.set L row) (qs.foldl (λs q=>Dm k (L+1) q s) (G.set L gs,T.set L row)):=
   fun qs FM=>DB n1 n2 (by omega) qs _ (λq hq=>hpr q (FM q hq)) hvl
  refine ⟨_,if_pos (by show row.length<=20;rw [KN.rl];exact n2),?_⟩
  dsimp only
  have hol:=tT row
  have TO:=KN.rl
  refine Ah (Nz row).length (λv=>v.2.1) (λi v=> ∃(s:Av×Av) (kg kt:Nat),v=(L,(i:Int),s.1,kg,s.2,kt,Nz row,(N:Int),())/\L<=kg/\L<=kt/\s=(((Nz row).take i).flatMap λy=>gs.map (Mz row y)).foldl (λs q=>Dm k (L+1) q s) (G.set L gs,T.set L row)) rfl ⟨_,kg,kt,rfl,VS,OT,rfl⟩ ?_
  rintro i v K hi mf ⟨s,kg,kt,rfl,h1,h2,hs⟩ hK
  dsimp only
  have Jy: ∀q∈((Nz row).take i).flatMap (λy=>gs.map (Mz row y)),q∈bl row gs:= λq hq=>by
   obtain ⟨y,hy,hq⟩:=List.mem_flatMap.1 hq
   exact List.mem_flatMap.2 ⟨y,List.mem_of_mem_take hy,hq⟩
  refine Br.dec (λhl=>?_) λhl=>?_
  ·have hl:i<(Nz row).length:=by omega
   obtain ⟨f1,f2⟩:=SX _ Jy
   rw [<-hs] at f1 f2
   have g1:s.1.getD L []=gs:=by rw [(f2.low L (by omega)).1];exact UZ
   have g2:s.1.length=N:=f1.1
   obtain ⟨yn,hyn,hyr⟩:=Tu.1 (List.getElem_mem hl)
   obtain ⟨t,ht⟩:=Option.ne_none_iff_exists'.1 hyr
   have hyN:yn<N:=by rw [<-TO];exact ia ht
   obtain ⟨t1,t2,t3,t4⟩:=KN.rt _ _ ht
   refine ⟨⟨by omega,by omega⟩,(yn:Int),by rw [Int.toNat_natCast,List.getElem?_eq_getElem hl,hyn],by omega,?_⟩
   rw [g1]
   refine Ah gs.length (λv=>v.2.2.1) (λj v=> ∃(s':Av×Av) (kg kt:Nat),v=(L,L,(j:Int),s'.1,kg,s'.2,kt,Nz row,(N:Int),())/\L<=kg/\L<=kt/\s'=(((Nz row).take i).flatMap (λy=>gs.map (Mz row y))++(gs.take j).map (Mz row (yn:Int))).foldl (λs q=>Dm k (L+1) q s) (G.set L gs,T.set L row)) rfl ⟨s,kg,kt,rfl,h1,h2,by simpa using hs⟩ ?_
   rintro j v K' hj th ⟨s',kg,kt,rfl,h1,h2,wI⟩ PU
   dsimp only
   refine Br.dec (λFz=>?_) λFz=>?_
   ·have Fz:j<gs.length:=by omega
    have DS: ∀q∈((Nz row).take i).flatMap (λy=>gs.map (Mz row y))++(gs.take j).map (Mz row (yn:Int)),q∈bl row gs:= λq hq=>by
     rcases List.mem_append.1 hq with hq|hq
     ·exact Jy q hq
     ·obtain ⟨o,ho,rfl⟩:=List.mem_map.1 hq
      exact List.mem_flatMap.2 ⟨(yn:Int),Tu.2 ⟨yn,rfl,hyr⟩,List.mem_map.2 ⟨o,List.mem_of_mem_take ho,rfl⟩⟩
    obtain ⟨ZA,f2'⟩:=SX _ DS
    rw [<-wI] at ZA f2'
    obtain ⟨G',T'⟩:=s'
    dsimp only at ZA f2'⊢
    have g1':G'.getD L []=gs:=by have:=(f2'.low L (by omega)).1;dsimp only at this;rw [this];exact UZ
    have g3':T'.getD L []=row:=by have:=(f2'.low L (by omega)).2;dsimp only at this;rw [this];exact hT1 row
    have g4':G'.length=N:=ZA.1
    have g5':T'.length=N:=ZA.2.1
    obtain ⟨g,jg,Mu,SY⟩:=hg gs[j] (List.getElem_mem Fz)
    have hgj:gs.getD j none=some g:=by rw [wu Fz];exact jg
    have vn:some g∈gs:=by rw [<-jg];exact List.getElem_mem Fz
    have hy:=Mu.lt hyN
    obtain ⟨t',rE⟩:=Option.ne_none_iff_exists'.1 (r3 yn t g ht vn)
    obtain ⟨u1,u2,u3,u4⟩:=KN.rt _ _ rE
    have Aba:Mz row (yn:Int) gs[j]=Aa (Aa t g) (Af t'):=by rw [jg];exact db ht rE
    have TK:=hpr _ (List.mem_flatMap.2 ⟨(yn:Int),Tu.2 ⟨yn,rfl,hyr⟩,List.mem_map.2 ⟨gs[j],List.getElem_mem Fz,Aba⟩⟩)
    simp only [g1',g3',Int.toNat_natCast,hgj,ht,Option.getD_some]
    have ny:L<Int.toNat ((L+1:Nat):Int):=by omega
    have JU:=sG n1 n2 k (L+1) _ (G',T') (by omega) ZA TK.1 TK.2
    have Ai1:((Dm k (L+1) (Aa (Aa t g) (Af t')) (G',T')).1).length=N:=JU.v.1
    have Ai2:((Dm k (L+1) (Aa (Aa t g) (Af t')) (G',T')).2).length=N:=JU.v.2.1
    have OS:((N:Int)-((L+1:Nat):Int)).toNat=k:=by omega
    refine ⟨⟨by omega,by omega⟩,⟨by omega,by omega⟩,some (Aa t g),if_pos ⟨Qa t1,jY t1 Mu⟩,_,tu Mu hyN,⟨by omega,by omega⟩,Af t',?_,some (Aa (Aa t g) (Af t')),?_,_,if_pos ⟨⟨N,L+1,_,rfl,?pr⟩,?lt⟩,⟨ny,?k1⟩,⟨ny,?k2⟩,⟨ny,?k3⟩,⟨ny,?k4⟩,?go⟩
    case pr=>exact ⟨n1,n2,rfl,rfl,by omega,by rw [show N-(L+1)=k by omega];exact ZA,TK.1,TK.2⟩
    case lt=>
     show ((N:Int)-((L+1:Nat):Int)).toNat<m
     omega
    case go=>
     dsimp only
     rw [Ag (by omega)]
     refine PU Fz _ rfl ⟨_,_,_,rfl,?_,?_,?_⟩
     ·show L<=min kg (Int.toNat ((L+1:Nat):Int));omega
     ·show L<=min kt (Int.toNat ((L+1:Nat):Int));omega
     ·rw [List.take_add_one,List.getElem?_eq_getElem Fz,Option.toList_some,List.map_append,<-List.append_assoc,List.foldl_append,<-wI]
      simp only [List.map_cons,List.map_nil,List.foldl_cons,List.foldl_nil,Aba,OS,Int.toNat_natCast,Option.getD_some]
    case k1=>simp only [OS,Int.toNat_natCast,Option.getD_some];omega
    case k2=>simp only [OS,Int.toNat_natCast,Option.getD_some];omega
    case k3=>simp only [OS,Int.toNat_natCast,Option.getD_some];omega
    case k4=>simp only [OS,Int.toNat_natCast,Option.getD_some];omega
    ·rw [Int.toNat_natCast,rE,Option.getD_some]
     exact if_pos ⟨by show t'.length<=20;rw [u1.1];exact n2,u1.2.row⟩
    ·exact if_pos ⟨Qa (t1.comp Mu),jY (t1.comp Mu) u1.inv⟩
   ·have:j=gs.length:=by omega
    subst this
    rw [Ag (by omega)]
    refine hK hl _ rfl ⟨s',kg,kt,rfl,h1,h2,?_⟩
    rw [wI,List.take_length,List.take_add_one,List.getElem?_eq_getElem hl,Option.toList_some,List.flatMap_append,hyn]
    simp
  ·have:i=(Nz row).length:=by omega
   subst this
   rw [List.take_length] at hs
   refine ⟨h1,h2,?_⟩
   rw [hs]
   rfl
theorem NB {m:Nat} (WY:Bf Tryz.prog 130 (Pg m)):Bf Tryz.prog 130 (Pg (m+1)):=
 Bf.gF (RN [Lo+7]) (Ae ss (Fq qw (Ae oH (Ae Pl (Fq WY Al))))) mixed Tryz.func130 (by kernel_rfl) (by kernel_rfl) λx h=>Aby x.1 x.2.1 x.2.2.1 x.2.2.2.1 x.2.2.2.2.1 h
theorem BG:Bf Tryz.prog 130 (Pg 0):=
 Bf.gF p8 Al mixed Tryz.func130 (by kernel_rfl) (by kernel_rfl) λ_ h=>absurd h.2 (Nat.not_lt_zero _)
theorem oD: ∀m,Bf Tryz.prog 130 (Pg m)
 |0=>BG
 |m+1=>NB (oD m)
noncomputable abbrev um:MSpec:=gF TV (λx=> ∃N L q,x.2.2.2.2.1=some q/\Oo N L x.1 x.2.1 x.2.2.1 x.2.2.2.1 q)
 (λx=>((x.1,(Dm (x.1-x.2.2.2.1).toNat x.2.2.2.1.toNat (x.2.2.2.2.1.getD []) (x.2.1,x.2.2.1)).1,(Dm (x.1-x.2.2.2.1).toNat x.2.2.2.1.toNat (x.2.2.2.2.1.getD []) (x.2.1,x.2.2.1)).2,()),()))
theorem BH:Bf Tryz.prog 130 um:=Bf.TY (λx=>(x.1-x.2.2.2.1).toNat) oD
end Go.Proofs.YtfolipnappekaaaGreat

namespace Go.Proofs.YtfolipnappekaaaGreat
open Go.RowKit
def Mq (n:Nat):Av:=List.replicate n []
def Vv (n i:Nat):Row:=(List.replicate n none).set i (some (upto n))
def Rg (n:Nat):Av:=(List.range n).map λi=>Vv n i
def Nj (n:Nat) (gens:List PO):Av×Av:=gens.foldl (λs o=>Dm n 0 (o.getD []) s) (Mq n,Rg n)
noncomputable abbrev zC:MSpec:= {Fb:= [none,none],ins:= [(false, .Ee tI),(false, .Ee RK)],Dh:=false,Ef:= [none,none,none],outs:= [.Ee tI, .Ai tO pz false, .Ai tO pz false],fn:= λ_=>none,rp:=some 141}
noncomputable abbrev cZ:MSpec:=gF zC (λx=>(1<=x.1/\x.1<=20)/\List.length x.2.1<=4294967296/\ ∀o∈(x.2.1:List PO),∃g,o=some g/\Pm x.1.toNat g)
 (λx=>((x.1,(Nj x.1.toNat x.2.1).1,(Nj x.1.toNat x.2.1).2,()),()))
abbrev Tx:Type:=Int×List (List (Option (List Int)))×Int×List (List (Option (List Int)))×PUnit
theorem yx (n:Int) (gens:List (Option (List Int))) (P:(Int×List (List (Option (List Int)))×List (List (Option (List Int)))×Unit)×Unit->Prop):(((0:Int)<=n/\n<(↑Bj:Int)+(1:Int))/\n=n/\0=0/\(List.replicate n.toNat ([]:List (Option (List Int)))).length=(List.replicate n.toNat ([]:List (Option (List Int)))).length/\0=0/\0=([]:List Int).length/\Bk (λ(v3:Tx) (k4:Tx->Prop)=>Br (decide (v3.1<n)) (((0:Int)<=n/\n<(↑Bj:Int)+(1:Int))/\n=n/\ ∃(y5:Option (List Int)),Ju.fn (n,())=some y5/\((0:Int)<=v3.1/\v3.1<(↑(List.replicate n.toNat (none:Option (List Int))).length:Int))/\0+v3.1.toNat<(List.replicate n.toNat (none:Option (List Int))).length/\0=0/\(List.replicate n.toNat (none:Option (List Int))).length=((List.replicate n.toNat (none:Option (List Int))).set (0+v3.1.toNat) y5).length/\(0=0/\v3.2.2.2.1.length=v3.2.2.2.1.length)/\(0=0/\1= [(List.replicate n.toNat (none:Option (List Int))).set (0+v3.1.toNat) y5].length)/\0< [(List.replicate n.toNat (none:Option (List Int))).set (0+v3.1.toNat) y5].length/\v3.2.2.2.1.length+ [(List.replicate n.toNat (none:Option (List Int))).set (0+v3.1.toNat) y5].length<=Bj/\0=0/\v3.2.1.length=v3.2.1.length/\0=0/\(v3.2.2.2.1++ [(List.replicate n.toNat (none:Option (List Int))).set (0+v3.1.toNat) y5]).length=(v3.2.2.2.1++ [(List.replicate n.toNat (none:Option (List Int))).set (0+v3.1.toNat) y5]).length/\k4 (IntKind.i64.wrap (v3.1+(1:Int)),v3.2.1,v3.2.2.1,v3.2.2.2.1++ [(List.replicate n.toNat (none:Option (List Int))).set (0+v3.1.toNat) y5],())) (0=0/\v3.2.1.length=v3.2.1.length/\0=0/\v3.2.2.2.1.length=v3.2.2.2.1.length/\Bk (λ(v5:Tx) (k6:Tx->Prop)=>Br (decide (v5.1<(↑gens.length:Int))) (∃(y7:Option (List Int)),idx gens v5.1=some y7/\0=0/\v5.2.1.length=v5.2.1.length/\0=0/\v5.2.2.2.1.length=v5.2.2.2.1.length/\ ∃(y8:(Int×List (List (Option (List Int)))×List (List (Option (List Int)))×PUnit)×PUnit),um.fn (v5.2.2.1,v5.2.1,v5.2.2.2.1,(0:Int),y7,())=some y8/\0=0/\y8.1.2.1.length=y8.1.2.1.length/\0=0/\y8.1.2.2.1.length=y8.1.2.2.1.length/\k6 (IntKind.i64.wrap (v5.1+(1:Int)),y8.1.2.1,y8.1.1,y8.1.2.2.1,())) ((0=0/\v5.2.1.length=v5.2.1.length)/\(0=0/\v5.2.2.2.1.length=v5.2.2.2.1.length)/\P ((v5.2.2.1,v5.2.1,v5.2.2.2.1,()),()))) ((0:Int),v3.2.1,v3.2.2.1,v3.2.2.2.1,PUnit.unit))) ((0:Int),List.replicate n.toNat ([]:List (Option (List Int))),n,[],PUnit.unit))=fnMW Wb (look [(105,Ju),(130,um)]) cZ Tryz.f98 (n,gens,()) P:=by kernel_rfl
theorem Rf (n i:Nat):(Mq n).getD i []= []:=by
 unfold Mq
 rw [List.getD_eq_getElem?_getD,List.getElem?_replicate]
 split<;>rfl
theorem gx {n i:Nat} (h:i<n):(Rg n).getD i []=Vv n i:=by
 unfold Rg
 rw [List.getD_eq_getElem?_getD,List.getElem?_map,List.getElem?_range h]
 rfl
theorem j0 {n i y:Nat} (h:i<n):(Vv n i).getD y none=if i=y then some (upto n) else none:=by
 unfold Vv
 rw [Gk,List.length_replicate]
 by_cases e:i=y
 ·rw [if_pos ⟨e,h⟩,if_pos e]
 ·rw [if_neg (λhh=>e hh.1),if_neg e,List.getD_eq_getElem?_getD,List.getElem?_replicate]
  split<;>rfl
theorem oX {n:Nat} (h1:1<=n) (h2:n<=20): ∀(k l:Nat),l+k=n->ef n k l (Mq n,Rg n)
 |0,l,hk=>Rf n l
 |k+1,l,hk=>by
  have hl:l<n:=by omega
  have hg: ∀(g:List Int) (j:Nat),some g∈(Mq n).getD j []->False:= λg j hg=>by rw [Rf] at hg;cases hg
  refine ⟨oX h1 h2 k (l+1) (by omega),⟨λo ho=>?_,?_,?_,λy t e0=>?_,λy t g _ Mf=>(hg _ _ Mf).elim,λy t g t' _ Mf=>(hg _ _ Mf).elim⟩,λg Mf=>(hg _ _ Mf).elim⟩
  ·have ho:o∈(Mq n).getD l []:=ho
   rw [Rf] at ho;cases ho
  ·show ((Rg n).getD l []).length=n
   rw [gx hl];simp [Vv]
  ·show ((Rg n).getD l []).getD l none=_
   rw [gx hl,j0 hl,if_pos rfl]
  ·replace e0:((Rg n).getD l []).getD y none=some t:=e0
   rw [gx hl,j0 hl] at e0
   by_cases hy:l=y
   ·rw [if_pos hy] at e0
    have e1:=Option.some.inj e0
    subst e1 hy
    exact ⟨Pm.id h1 h2,λi hi=>eB (by omega),eB hl, .id⟩
   ·rw [if_neg hy] at e0;cases e0
theorem xY (n:Nat): ∀(k l:Nat),YX k l (Mq n,Rg n)
 |0,_=>trivial
 |k+1,l=>⟨xY n k (l+1),by show ((Mq n).getD l []).length<=_;rw [Rf];exact Nat.zero_le _⟩
theorem mq {n:Nat} (h1:1<=n) (h2:n<=20):V n n 0 (Mq n,Rg n):=⟨by simp [Mq],by simp [Rg],oX h1 h2 n 0 (by omega),xY n n 0⟩
def UK (n:Nat) (gens:List PO):Prop:= ∀o∈gens,∃g,o=some g/\Pm n g
theorem vH {n:Nat} {gens:List PO} {j:Nat} (hj:j<gens.length):Nj n (gens.take (j+1))=Dm n 0 (gens[j].getD []) (Nj n (gens.take j)):=by
 unfold Nj
 rw [List.take_add_one,List.getElem?_eq_getElem hj,Option.toList_some,List.foldl_append]
 rfl
theorem jl {n:Nat} (h1:1<=n) (h2:n<=20): ∀(gens:List PO) (s:Av×Av),UK n gens->V n n 0 s->V n n 0 (gens.foldl (λs o=>Dm n 0 (o.getD []) s) s)/\
  Ot 0 s (gens.foldl (λs o=>Dm n 0 (o.getD []) s) s)/\(∀g,some g∈gens->Gn n ((gens.foldl (λs o=>Dm n 0 (o.getD []) s) s).1.getD 0 []) g)/\ ∀o∈(gens.foldl (λs o=>Dm n 0 (o.getD []) s) s).1.getD 0 [],o∈s.1.getD 0 []\/o∈gens
 | [],s,_,hv=>⟨hv,Ot.refl _ _,(λ_ hg=>by cases hg),λ_ ho=> .inl ho⟩
 |o::gens,s,hg,hv=>by
  obtain ⟨g,rfl,Mu⟩:=hg o (by simp)
  have ha:=sG h1 h2 n 0 g s (by omega) hv Mu (λi hi=>absurd hi (Nat.not_lt_zero _))
  obtain ⟨a1,a2,a3,a4⟩:=jl h1 h2 gens (Dm n 0 g s) (λo ho=>hg o (by simp [ho])) ha.v
  refine ⟨a1,ha.grow.trans a2 (Nat.le_refl _),λg' Mf=>?_,λo ho=>?_⟩
  ·rcases List.mem_cons.1 Mf with e|Mf
   ·cases e;exact ha.WZ.mono λg hg=>a2.rk _ _ hg
   ·exact a3 g' Mf
  ·rcases a4 o ho with h|h
   ·rcases ha.gens o h with h|h
    ·exact .inl h
    ·exact .inr (by simp [h])
   ·exact .inr (by simp [h])
theorem vG {n:Nat} (h1:1<=n) (h2:n<=20) {gens:List PO} (hg:UK n gens):V n n 0 (Nj n gens):=(jl h1 h2 gens _ hg (mq h1 h2)).1
theorem nk {n:Nat} (h1:1<=n) (h2:n<=20) {gens:List PO} (hg:UK n gens) {p:List Int} (hp:Pm n p):Dy (Nj n gens).2 n 0 p=true↔Gn n gens p:=by
 obtain ⟨a1,a2,a3,a4⟩:=jl h1 h2 gens _ hg (mq h1 h2)
 have hS:vD n λg=>some g∈gens:=⟨⟨h1,h2⟩,λg Mf=>by obtain ⟨g',e,h⟩:=hg _ Mf;cases e;exact h⟩
 have Jy: ∀g,some g∈(Nj n gens).1.getD 0 []->some g∈gens:= λg Mf=>by
  rcases a4 _ Mf with h|h
  ·have h:some g∈(Mq n).getD 0 []:=h
   rw [Rf] at h;cases h
  ·exact h
 have VC:vD n λg=>some g∈(Nj n gens).1.getD 0 []:=⟨⟨h1,h2⟩,λg Mf=>hS.2 g (Jy g Mf)⟩
 refine (Nb h1 h2 n 0 (Nj n gens) (by omega) a1.2.2.1 p hp λi hi=>absurd hi (Nat.not_lt_zero _)).trans ⟨λh=>h.mono Jy,λh=>h.trans VC λg Mf=>a3 g Mf⟩
theorem xB (n:Int) (gens:List (Option (List Int))) (h:(1<=n/\n<=20)/\List.length gens<=4294967296/\ ∀o∈(gens:List PO),∃g,o=some g/\Pm n.toNat g):
  fnMW Wb (look [(105,Ju),(130,um)]) cZ Tryz.f98 (n,gens,()) (λ(z:(Int×List (List (Option (List Int)))×List (List (Option (List Int)))×Unit)×Unit)=>z=((n,(Nj n.toNat gens).1,(Nj n.toNat gens).2,()),())):=by
 obtain ⟨⟨h1,h2⟩,h3,hg⟩:=h
 obtain ⟨N,rfl⟩: ∃N:Nat,n=N:=⟨n.toNat,by omega⟩
 rw [Int.toNat_natCast] at hg⊢
 have h1:1<=N:=by omega
 have h2:N<=20:=by omega
 refine Eq.mp (yx (N:Int) gens _) ?_
 have hm:((0:Int)<=(N:Int)/\(N:Int)<(Bj:Int)+1):=⟨by omega,by show (N:Int)<(4294967296:Int)+1;omega⟩
 simp only [hm,and_self,eq_self,true_and,Int.toNat_natCast,Nat.zero_add,List.length_nil,List.length_set,List.length_replicate,List.length_cons,Nat.lt_add_one,List.length_append]
 refine Ah N (λv=>v.1) (λj v=>v=((j:Int),Mq N,(N:Int),(List.range j).map (Vv N),())) rfl rfl ?_
 rintro j v K hj hi rfl hK
 dsimp only
 refine Br.dec (λhl=>?_) λhl=>?_
 ·refine ⟨_,if_pos ⟨by show (1:Int)<=N;omega,by show (N:Int)<=20;omega⟩,⟨by omega,by omega⟩,by rw [Int.toNat_natCast];omega,?_,?_⟩
  ·show _<=4294967296
   simp only [List.length_map,List.length_range]
   omega
  ·rw [Ag (by omega)]
   refine hK (by omega) _ rfl ?_
   rw [List.range_succ,List.map_append]
   rfl
 ·have:j=N:=by omega
  subst this
  refine Ah gens.length (λv=>v.1) (λi v=>v=((i:Int),(Nj j (gens.take i)).1,(j:Int),(Nj j (gens.take i)).2,())) rfl rfl ?_
  rintro i v K' mf Afq rfl PU
  dsimp only
  refine Br.dec (λFz=>?_) λFz=>?_
  ·have Fz:i<gens.length:=by omega
   obtain ⟨g,jg,Mu⟩:=hg gens[i] (List.getElem_mem Fz)
   have hv:=vG h1 h2 (gens:=gens.take i) λo ho=>hg o (List.mem_of_mem_take ho)
   refine ⟨_,Ap Fz,_,if_pos ⟨j,0,g,jg,h1,h2,rfl,rfl,Nat.zero_le _,hv,Mu,λi hi=>absurd hi (Nat.not_lt_zero _)⟩,?_⟩
   rw [Ag (by omega)]
   refine PU Fz _ rfl ?_
   rw [vH Fz]
   simp only [Int.sub_zero,Int.toNat_natCast]
   rfl
  ·have:i=gens.length:=by omega
   subst this
   rw [List.take_length]
theorem lV:Bf Tryz.prog 98 cZ:=
 Bf.gF p8 (Ae lN (Fq BH Al)) mixed Tryz.func98 (by kernel_rfl) (by kernel_rfl) λx h=>xB x.1 x.2.1 h
end Go.Proofs.YtfolipnappekaaaGreat

namespace Go.Proofs.YtfolipnappekaaaGreat
open Go.RowKit
noncomputable abbrev wQ:MSpec:= {Fb:= [none,none],ins:= [(false, .Ee tI),(false, .Ee e8)],Dh:=false,Ef:= [none,none,none],outs:= [.Ee tI, .Ai tO pz false, .Ai tO pz false],fn:= λ_=>none,rp:=some 141}
def Zx (n:Int) (g:List (List Int)):Av×Av:=Nj n.toNat (g.map some)
noncomputable abbrev Qy:MSpec:=gF wQ (λx=>(1<=x.1/\x.1<=20)/\List.length x.2.1<=4294967296/\ ∀g∈(x.2.1:List (List Int)),Pm x.1.toNat g)
 (λx=>((x.1,(Zx x.1 x.2.1).1,(Zx x.1 x.2.1).2,()),()))
noncomputable def Ka (p:PP) (s:List Int):Bool:=(Bv p&&Da p.1 s)&&Dy (Zx p.1 p.2.2.1).2 p.1.toNat 0 s
noncomputable abbrev Ic:Spec:=Co (.pair Dc (.pair tL .unit)) .bool false true (λx=>Cl x.1/\short x.2.1) (λx=>Ka x.1 x.2.1)
theorem Cells.told {w:World} {S:Nat->Prop} {e:Ty} {cs:List Value} {xs:List e.den} (h:Cells w S (.slice e) cs xs): ∃o:Option (List e.den),Cells w S (.oslice e) cs o/\o.getD []=xs:=by
 simp only [Cells] at h
 obtain ⟨a,len,cap,rfl,h1,h2,h3⟩:=h
 cases a with
 |none=>
  rcases h3 with rfl|⟨g,o,h,_⟩
  ·refine ⟨none,?_,rfl⟩
   simp only [Cells]
   exact .inl ⟨trivial,cap,by rw [h1];rfl⟩
  ·cases h
 |some ad=>
  refine ⟨some xs,?_,rfl⟩
  simp only [Cells]
  exact .inr ⟨xs,ad,len,cap,rfl,rfl,h1,h2,h3.imp id λ⟨g,o,h,h4⟩=>⟨g,o,Option.some.inj h,h4⟩⟩
theorem yQ {α β:Type} (Q:Nat->α->β->Prop): ∀(xs:List α),(∀i x,xs[i]?=some x-> ∃y,Q i x y)-> ∃ys:List β,ys.length=xs.length/\ ∀i x y,xs[i]?=some x->ys[i]?=some y->Q i x y:=by
 intro xs h
 refine ⟨List.ofFn λi:Fin xs.length=>Classical.choose (h i xs[i] (List.getElem?_eq_getElem i.2)),by simp,λi x y h1 h2=>?_⟩
 obtain ⟨hi,rfl⟩:=List.getElem?_eq_some_iff.1 h1
 obtain ⟨mf,rfl⟩:=List.getElem?_eq_some_iff.1 h2
 rw [List.getElem_ofFn]
 exact Classical.choose_spec (h i xs[i] (List.getElem?_eq_getElem hi))
theorem Bb.UG {w:World} {S:Nat->Prop} {e:Ty} {v:Value} {xs:List (List e.den)} (h:Bb w S (.slice (.slice e)) v xs): ∃os:List (Option (List e.den)),Bb w S (.slice (.oslice e)) v os/\os.map (·.getD [])=xs:=by
 obtain ⟨cs,hc,rfl⟩:=h
 simp only [Cells] at hc
 obtain ⟨a,len,cap,rfl,h1,h2,h3⟩:=hc
 rcases h3 with rfl|⟨g,o,rfl,hg,hS,h4⟩
 ·refine ⟨[],⟨_,?_,rfl⟩,rfl⟩
  simp only [Cells]
  exact ⟨a,len,cap,rfl,h1,h2, .inl trivial⟩
 ·obtain ⟨os,e1,e2⟩:=yQ (λi (x:List e.den) (y:Option (List e.den))=>y.getD []=x/\ ∃es:List Value,es.length=1/\(∀j u,es[j]?=some u->w.cell? ⟨g,o+i*1+j,none⟩=some u)/\Cells w S (.oslice e) es y) xs λi x hx=>by
   obtain ⟨es,k1,k2,k3⟩:=h4 i x hx
   obtain ⟨y,k4,k5⟩:=Cells.told (e:=e) (by simp only [Cells];exact k3)
   exact ⟨y,k5,es,k1,k2,k4⟩
  refine ⟨os,⟨_,?_,rfl⟩,?_⟩
  ·simp only [Cells]
   refine ⟨_,len,cap,rfl,by rw [h1,e1],h2, .inr ⟨g,o,rfl,hg,hS,λi y hy=>?_⟩⟩
   obtain ⟨hi,_⟩:=List.getElem?_eq_some_iff.1 hy
   obtain ⟨_,es,k1,k2,k3⟩:=e2 i _ y (List.getElem?_eq_getElem (by omega)) hy
   simp only [Cells] at k3
   exact ⟨es,k1,k2,k3⟩
  ·refine List.ext_getElem (by simp [e1]) λi g1 g2=>?_
   rw [List.getElem_map]
   exact (e2 i _ _ (List.getElem?_eq_getElem g2) (List.getElem?_eq_getElem (by omega))).1
theorem oO:Bf Tryz.prog 98 Qy:=by
 have h:=lV
 refine ⟨h.enter,λw S π us x r o g vs h1 hg h2 h3 hS h4 h5=>?_⟩
 obtain ⟨n,gens,⟨⟩⟩:=x
 match us,h2 with
 |u1::u2::us,h2=>
  obtain ⟨h6,⟨h7,h8⟩,h9⟩:=h2
  obtain ⟨os,jf,bB⟩:=Bb.UG (e:=tI) h8
  have bB:os.map (·.getD [])=(gens:List (List Int)):=bB
  have Xo:(1<=n/\n<=20)/\List.length gens<=4294967296/\ ∀g∈(gens:List (List Int)),Pm n.toNat g:=Classical.byContradiction λhn=>by
   have:Qy.fn (n,gens,())=none:=if_neg hn
   rw [this] at h5;cases h5
  have VZ:os=gens.map some:=by
   rw [<-bB,List.map_map]
   refine (List.map_id os).symm.trans (List.map_congr_left λx hx=>?_)
   cases x with
   |some y=>rfl
   |none=>
    have:=Xo.2.2 [] (by rw [<-bB];exact List.mem_map.2 ⟨none,hx,rfl⟩)
    have h1:=this.n1
    have h2:=this.1
    simp at h2
    omega
  have hv:Qy.fn (n,gens,())=some ((n,(Zx n gens).1,(Zx n gens).2,()),()):=if_pos Xo
  rw [hv] at h5
  have h5:=Option.some.inj h5
  refine h.calls w S π (u1::u2::us) (n,os,()) r o g vs h1 hg ⟨h6,⟨h7,jf⟩,h9⟩ h3 hS h4 ?_
  refine (if_pos ⟨Xo.1,by rw [VZ,List.length_map];exact Xo.2.1,λy hy=>?pp⟩).trans (congrArg some ?qq)
  case pp=>
   replace hy:y∈os:=hy
   rw [VZ] at hy
   obtain ⟨g,hg,rfl⟩:=List.mem_map.1 hy
   exact ⟨g,rfl,Xo.2.2 g hg⟩
  case qq=>subst VZ;exact h5
theorem bT {p:PP} (hv:Valid p):(1<=p.1/\p.1<=20)/\List.length p.2.2.1<=4294967296/\ ∀g∈p.2.2.1,Pm p.1.toNat g:=
 ⟨hv.n,by have:=hv.sX;omega,λg hg=>⟨by have:=hv.len g hg;omega,aw (hv.perm g hg)⟩⟩
theorem cI {n:Nat} {g:List (List Int)} (h: ∀x∈g,Pm n x):UK n (g.map some):= λo ho=>by
 obtain ⟨x,hx,rfl⟩:=List.mem_map.1 ho
 exact ⟨x,rfl,h x hx⟩
theorem PK {p:PP} (hv:Valid p):V p.1.toNat p.1.toNat 0 (Zx p.1 p.2.2.1):=by
 have:=hv.n
 exact vG (by omega) (by omega) (cI (bT hv).2.2)
end Go.Proofs.YtfolipnappekaaaGreat

namespace Go.Proofs.YtfolipnappekaaaGreat
open Go.RowKit
theorem xR {g:List (List Int)} {x:List Int} :some x∈g.map some↔x∈g:=by simp
theorem Ws {n k:Nat} (hk:k<n):(k:Int)+1∈Cj n/\ -((k:Int)+1)∈Cj n:=by
 unfold Cj
 exact ⟨List.mem_flatMap.2 ⟨k,List.mem_range.2 hk,by simp⟩,List.mem_flatMap.2 ⟨k,List.mem_range.2 hk,by simp⟩⟩
theorem Dg.nodup {m:Nat} {L:List (List Int)} {Hw:List Int} (h:Dg m L Hw):L.Nodup:=
 List.pairwise_iff_getElem.2 λi j hi hj jF e=>by have:=h.inj hi hj e;omega
end Go.Proofs.YtfolipnappekaaaGreat

namespace Go.Proofs.YtfolipnappekaaaGreat
open Go.RowKit
theorem Ff {α:Type} {xs ys:List α} {i:Nat} {d:α} (h:i<xs.length):(xs++ys).getD i d=xs.getD i d:=by
 rw [List.getD_eq_getElem?_getD,List.getD_eq_getElem?_getD,List.getElem?_append_left h]
theorem dE {α:Type} {xs:List α} {x d:α} :(xs++ [x]).getD xs.length d=x:=by
 rw [List.getD_eq_getElem?_getD,List.getElem?_append_right (Nat.le_refl _),Nat.sub_self];rfl
theorem Tr {α:Type} {xs:List α} {i:Nat} {d:α} (h:i<xs.length):xs.getD i d=xs[i]:=by
 rw [List.getD_eq_getElem?_getD,List.getElem?_eq_getElem h];rfl
structure Lv (g:List (List Int)) (ls:List Int) (k:Nat) (L:List (List Int)) (D:List Int):Prop where
 len:D.length=L.length
 pos:0<L.length
 mono: ∀i j,i<=j->j<L.length->D.getD i 0<=D.getD j 0
 LZ:k<L.length-> ∀j,j<L.length->D.getD j 0<=D.getD k 0+1
 par: ∀j,0<j->j<L.length-> ∃i l,i<j/\l∈ls/\L.getD j []=Aa (L.getD i []) (An g l)/\D.getD j 0=D.getD i 0+1
 zero:D.getD 0 0=0
theorem Lv.add {g:List (List Int)} {ls:List Int} {k:Nat} {L:List (List Int)} {D:List Int} (h:Lv g ls k L D) (hk:k<L.length) {l:Int} (hl:l∈ls):
  Lv g ls k (L++ [Aa (L.getD k []) (An g l)]) (D++ [D.getD k 0+1]):=by
 have hlen:=h.len
 have hD: ∀i,i<L.length->(D++ [D.getD k 0+1]).getD i 0=D.getD i 0:= λi hi=>Ff (by omega)
 have SJ:(D++ [D.getD k 0+1]).getD L.length 0=D.getD k 0+1:=by rw [<-hlen];exact dE
 refine ⟨by simp [hlen],by simp,λi j jF hj=>?_,λ_ j hj=>?_,λj h0 hj=>?_,?_⟩
 ·rw [List.length_append,List.length_singleton] at hj
  by_cases e:j=L.length
  ·subst e
   rw [SJ]
   by_cases e':i=L.length
   ·subst e';rw [SJ];exact Int.le_refl _
   ·rw [hD i (by omega)]
    exact h.LZ hk i (by omega)
  ·rw [hD i (by omega),hD j (by omega)]
   exact h.mono i j jF (by omega)
 ·rw [List.length_append,List.length_singleton] at hj
  rw [hD k hk]
  by_cases e:j=L.length
  ·subst e;rw [SJ];exact Int.le_refl _
  ·rw [hD j (by omega)];exact h.LZ hk j (by omega)
 ·rw [List.length_append,List.length_singleton] at hj
  by_cases e:j=L.length
  ·subst e
   exact ⟨k,l,hk,hl,by rw [dE,Ff hk],by rw [SJ,hD k hk]⟩
  ·obtain ⟨i,l',h1,h2,h3,h4⟩:=h.par j h0 (by omega)
   exact ⟨i,l',h1,h2,by rw [Ff (by omega),Ff (by omega)];exact h3,by rw [hD j (by omega),hD i (by omega)];exact h4⟩
 ·rw [hD 0 h.pos];exact h.zero
theorem mN {g:List (List Int)} {ls:List Int} {k:Nat} : ∀(DY:List Int) (L:List (List Int)) (D:List Int),(∀l∈DY,l∈ls)->Lv g ls k L D->k<L.length-> ∀ {x:List Int} {d:Int},x=L.getD k []->d=D.getD k 0->
  Lv g ls k (Hg g x d DY L D).1 (Hg g x d DY L D).2.1/\(∃A,(Hg g x d DY L D).1=L++A)/\(∃A,(Hg g x d DY L D).2.1=D++A)/\
  ((Hg g x d DY L D).2.2=true-> ∀l∈DY,∃j,j<(Hg g x d DY L D).1.length/\(Hg g x d DY L D).1.getD j []=Aa x (An g l)/\(Hg g x d DY L D).2.1.getD j 0<=d+1)
 | [],L,D,_,h,_,x,d,_,_=>⟨h,⟨[],by simp [Hg]⟩,⟨[],by simp [Hg]⟩,λ_ l hl=>by cases hl⟩
 |l::DY,L,D,hs,h,hk,x,d,hx,hd=>by
  have wI: ∀l∈DY,l∈ls:= λl' h'=>hs l' (List.mem_cons_of_mem _ h')
  have hlen:=h.len
  simp only [Hg]
  split
  ·rename_i hm
   obtain ⟨a1,⟨A,a2⟩,⟨A',a3⟩,a4⟩:=mN DY L D wI h hk hx hd
   refine ⟨a1,⟨A,a2⟩,⟨A',a3⟩,λe l' Fz=>?_⟩
   rcases List.mem_cons.1 Fz with rfl|Fz
   ·obtain ⟨j,hj,hjx⟩:=List.mem_iff_getElem.1 hm
    refine ⟨j,by rw [a2,List.length_append];omega,by rw [a2,Ff hj,Tr hj];exact hjx,?_⟩
    rw [a3,Ff (by omega),hd]
    exact h.LZ hk j hj
   ·exact a4 e l' Fz
  ·split
   ·exact ⟨h,⟨[],by simp⟩,⟨[],by simp⟩,λe=>by cases e⟩
   ·have JU:=h.add hk (hs l (by simp))
    rw [<-hx,<-hd] at JU
    obtain ⟨a1,⟨A,a2⟩,⟨A',a3⟩,a4⟩:=mN DY (L++ [Aa x (An g l)]) (D++ [d+1]) wI JU (by rw [List.length_append];omega) (x:=x) (d:=d) (by rw [Ff hk];exact hx) (by rw [Ff (by omega)];exact hd)
    refine ⟨a1,⟨_::A,by rw [a2,List.append_assoc];rfl⟩,⟨_::A',by rw [a3,List.append_assoc];rfl⟩,λe l' Fz=>?_⟩
    rcases List.mem_cons.1 Fz with rfl|Fz
    ·refine ⟨L.length,by rw [a2,List.length_append,List.length_append];simp only [List.length_singleton];omega,?_,?_⟩
     ·rw [a2,Ff (by simp),dE]
     ·rw [a3,Ff (by simp [hlen]),<-hlen,dE]
      exact Int.le_refl _
    ·exact a4 e l' Fz
structure yN (g:List (List Int)) (ls:List Int) (L:List (List Int)) (D:List Int):Prop where
 len:D.length=L.length
 pos:0<L.length
 zero:D.getD 0 0=0
 par: ∀j,0<j->j<L.length-> ∃i l,i<j/\l∈ls/\L.getD j []=Aa (L.getD i []) (An g l)/\D.getD j 0=D.getD i 0+1
 step: ∀i,i<L.length-> ∀l∈ls,∃j,j<L.length/\L.getD j []=Aa (L.getD i []) (An g l)/\D.getD j 0<=D.getD i 0+1
theorem vR {g:List (List Int)} {ls:List Int} : ∀(f k:Nat) (L:List (List Int)) (D:List Int),3001<=f+k->Lv g ls k L D->k<=L.length->
  (∀i,i<k-> ∀l∈ls,∃j,j<L.length/\L.getD j []=Aa (L.getD i []) (An g l)/\D.getD j 0<=D.getD i 0+1)->
  (Lb g ls f k L D).2.2=true->(Lb g ls f k L D).1.length<=3000->yN g ls (Lb g ls f k L D).1 (Lb g ls f k L D).2.1
 |0,k,L,D,hf,h,VQ,hc,hw,h3=>by
  simp only [Lb] at h3⊢
  omega
 |f+1,k,L,D,hf,h,VQ,hc,hw,h3=>by
  simp only [Lb] at hw h3⊢
  split
  ·rename_i hk
   rw [if_pos hk] at hw h3
   obtain ⟨a1,⟨A,a2⟩,⟨A',a3⟩,a4⟩:=mN (x:=L.getD k []) (d:=D.getD k 0) ls L D (λ_ h=>h) h hk rfl rfl
   have hlen:=h.len
   split
   ·rename_i L' D' he
    rw [he] at a1 a2 a3 a4
    simp only [he] at hw h3
    have a2:L'=L++A:=a2
    have a3:D'=D++A':=a3
    have a4:=a4 rfl
    dsimp only at a4
    have hLl:L.length<=L'.length:=by rw [a2,List.length_append];omega
    refine vR f (k+1) L' D' (by omega) ⟨a1.len,a1.pos,a1.mono,λhk1 j hj=>?_,a1.par,a1.zero⟩ (by omega) (λi hi l hl=>?_) hw h3
    ·have h1:D'.getD j 0<=D'.getD k 0+1:=a1.LZ (show k<L'.length by omega) j hj
     have h2:D'.getD k 0<=D'.getD (k+1) 0:=a1.mono k (k+1) (by omega) hk1
     omega
    ·by_cases e:i=k
     ·subst e
      obtain ⟨j,b1,b2,b3⟩:=a4 l hl
      refine ⟨j,b1,?_,?_⟩
      ·rw [b2,a2,Ff (by omega)]
      ·rw [show D'.getD i 0=D.getD i 0 by rw [a3,Ff (by omega)]];exact b3
     ·obtain ⟨j,b1,b2,b3⟩:=hc i (by omega) l hl
      refine ⟨j,by omega,?_,?_⟩
      ·rw [a2,Ff (by omega),Ff (by omega)];exact b2
      ·rw [a3,Ff (by omega),Ff (by omega)];exact b3
   ·rename_i L' D' he
    simp only [he] at hw
    cases hw
  ·rename_i hk
   exact ⟨h.len,h.pos,h.zero,h.par,λi hi=>hc i (by have hi:i<L.length:=hi;omega)⟩
theorem yV {p:PP} {s:List Int} (hv:Bv p=true) (hs:s.length<=20) (hr: ∀y∈s,0<=y/\y<p.1) (hw:(Gf p.2.2.1 s).2.2=true):
  yN p.2.2.1 (Cj p.2.2.1.length) (Gf p.2.2.1 s).1 (Gf p.2.2.1 s).2.1:=by
 have hb:=(yW hv hs hr).1.ok.sX
 refine vR 3001 0 [s] [0] (by omega) ⟨rfl,by simp,λi j jF hj=>?_,λ_ j hj=>?_,λj h0 hj=>?_,rfl⟩ (Nat.zero_le _) (λi hi=>absurd hi (Nat.not_lt_zero _)) hw hb
 ·have:j=0:=by simpa using hj
  subst this
  have:i=0:=by omega
  subst this
  exact Int.le_refl _
 ·have:j=0:=by simpa using hj
  subst this
  simp
 ·have:j=0:=by simpa using hj
  omega
theorem x4 {p:PP} (hV:Valid p) {x:List Int} (hx: ∀y∈x,0<=y/\y<p.1) {l:Int} (hl:l∈Cj p.2.2.1.length):
  -l∈Cj p.2.2.1.length/\Aa (Aa x (An p.2.2.1 l)) (An p.2.2.1 (-l))=x:=by
 obtain ⟨k,hk,Ls⟩:=Tt (Wt hl)
 have hg:=aw (hV.perm _ (List.getElem_mem hk))
 have hgl:=hV.len _ (List.getElem_mem hk)
 have hn:=hV.n
 have hp:Pm p.1.toNat (p.2.2.1[k]):=⟨by omega,hg⟩
 have key: ∀q r:List Int,Pm p.1.toNat q->Pm p.1.toNat r->Aa q r=upto p.1.toNat->Aa (Aa x q) r=x:= λq r hq hr he=>by
  refine List.ext_getElem (by rw [Jn,Jn]) λi h1 h2=>?_
  have hxi:=hx _ (List.getElem_mem h2)
  obtain ⟨xi,TQ⟩:=Int.eq_ofNat_of_zero_le hxi.1
  have OZ:xi<p.1.toNat:=by omega
  have e1:ap (Aa q r) xi=ap (upto p.1.toNat) xi:=congrArg (λz=>ap z xi) he
  rw [Gv hq hr OZ,eB OZ] at e1
  simp only [Aa,List.getElem_map,TQ]
  have h3:=(hq.Tk OZ).1
  have h4:=(hr.Tk (hq.lt OZ)).1
  rw [h3,h4,e1]
 rcases Ls with rfl|rfl
 ·refine ⟨(Ws hk).2,?_⟩
  rw [Qn hk,Qm hk]
  exact key _ _ hp hp.inv (gO hp)
 ·refine ⟨by rw [Int.neg_neg];exact (Ws hk).1,?_⟩
  rw [Int.neg_neg,Qn hk,Qm hk]
  exact key _ _ hp.inv hp (Ys hp)
structure Oq (g:List (List Int)) (ls:List Int) (L:List (List Int)) (S:List Int->Prop) (d:List Int->Int):Prop where
 nn: ∀x∈L,0<=d x
 zero: ∀x∈L,d x=0↔S x
 step: ∀x∈L,∀l∈ls,d (Aa x (An g l))<=d x+1
 down: ∀x∈L,0<d x-> ∃l∈ls,d (Aa x (An g l))=d x-1
structure mw (g:List (List Int)) (ls:List Int) (L:List (List Int)):Prop where
 next: ∀x∈L,∀l∈ls,Aa x (An g l)∈L
 back: ∀x∈L,∀l∈ls,-l∈ls/\Aa (Aa x (An g l)) (An g (-l))=x
theorem Oq.le {g:List (List Int)} {ls:List Int} {L:List (List Int)} {S:List Int->Prop} {d d':List Int->Int} (hc:mw g ls L) (h:Oq g ls L S d) (h':Oq g ls L S d'):
  ∀(n:Nat) (x:List Int),x∈L->d' x=n->d x<=n
 |0,x,hx,e=>by
  have:=(h.zero x hx).2 ((h'.zero x hx).1 e)
  omega
 |n+1,x,hx,e=>by
  obtain ⟨l,hl,hd⟩:=h'.down x hx (by omega)
  obtain ⟨b1,b2⟩:=hc.back x hx l hl
  have h1:=Oq.le hc h h' n _ (hc.next x hx l hl) (by omega)
  have h2:=h.step _ (hc.next x hx l hl) _ b1
  rw [b2] at h2
  omega
theorem Oq.eq {g:List (List Int)} {ls:List Int} {L:List (List Int)} {S:List Int->Prop} {d d':List Int->Int} (hc:mw g ls L) (h:Oq g ls L S d) (h':Oq g ls L S d') {x:List Int} (hx:x∈L):d x=d' x:=by
 have n1:=h.nn x hx
 have n2:=h'.nn x hx
 have h1:=Oq.le hc h h' (d' x).toNat x hx (by omega)
 have h2:=Oq.le hc h' h (d x).toNat x hx (by omega)
 omega
theorem Oq.LZ {g:List (List Int)} {ls:List Int} {L:List (List Int)} {S:List Int->Prop} {d:List Int->Int} (hc:mw g ls L) (h:Oq g ls L S d) {x:List Int} (hx:x∈L) {l:Int} (hl:l∈ls):
  d x-1<=d (Aa x (An g l)):=by
 obtain ⟨b1,b2⟩:=hc.back x hx l hl
 have h2:=h.step _ (hc.next x hx l hl) _ b1
 rw [b2] at h2
 omega
theorem zw {L:List (List Int)} (hn:L.Nodup) {j:Nat} (hj:j<L.length):L.idxOf (L.getD j [])=j:=by
 rw [Tr hj]
 exact hn.idxOf_getElem j hj
theorem JR {L:List (List Int)} {j:Nat} (hj:j<L.length):L.getD j []∈L:=by rw [Tr hj];exact List.getElem_mem hj
theorem pT {p:PP} (hV:Valid p) {m:Nat} {L:List (List Int)} {D:List Int} (hb:Ta p m L D) (h:yN p.2.2.1 (Cj p.2.2.1.length) L D):mw p.2.2.1 (Cj p.2.2.1.length) L where
 next x hx l hl:=by
  obtain ⟨i,hi,rfl⟩:=List.mem_iff_getElem.1 hx
  obtain ⟨j,h1,h2,_⟩:=h.step i hi l hl
  rw [Tr hi] at h2
  rw [<-h2]
  exact JR h1
 back x hx l hl:=x4 hV (hb.row x hx) hl
end Go.Proofs.YtfolipnappekaaaGreat

namespace Go.Proofs.YtfolipnappekaaaGreat
open Go.RowKit
noncomputable abbrev Ui:Spec:=Co (.pair tL (.pair tL .unit)) tL false true (λx=>short x.2.1/\Ho (List.length x.1) x.2.1) (λx=>Bx x.1 x.2.1)
theorem IF (xs is:List Int) (P:List Int->Prop):(((0:Int)<=(↑is.length:Int)/\(↑is.length:Int)<(↑Bj:Int)+(1:Int))/\(↑is.length:Int)=(↑is.length:Int)/\0=0/\(List.replicate (↑is.length:Int).toNat (Int.ofNat (nat_lit 0))).length=(List.replicate (↑is.length:Int).toNat (Int.ofNat (nat_lit 0))).length/\Bk (λ(v3:Int×List Int×PUnit) (k4:Int×List Int×PUnit->Prop)=>Br (decide (v3.1<(↑is.length:Int))) (∃(y5:Int),idx is v3.1=some y5/\ ∃(y6:Int),idx xs y5=some y6/\((0:Int)<=v3.1/\v3.1<(↑v3.2.1.length:Int))/\0+v3.1.toNat<v3.2.1.length/\0=0/\v3.2.1.length=(v3.2.1.set (0+v3.1.toNat) y6).length/\k4 (IntKind.i64.wrap (v3.1+(1:Int)),v3.2.1.set (0+v3.1.toNat) y6,())) (P (List.take v3.2.1.length (List.drop 0 v3.2.1)))) ((0:Int),List.replicate (↑is.length:Int).toNat (Int.ofNat (nat_lit 0)),PUnit.unit))=fnW Cc (look []) Ui Tryz.f80 (xs,is,()) P:=by kernel_rfl
theorem wo {p:PP} (hV:Valid p):vD p.1.toNat λg=>some g∈p.2.2.1.map some:=
 ⟨by have:=hV.n;omega,λg Mf=>by obtain ⟨g',e,h⟩:=cI (bT hV).2.2 _ Mf;cases e;exact h⟩
theorem UW {p:PP} (_hV:Valid p) {x:List Int} (h:Da p.1 x=true):Pm p.1.toNat x:=by
 obtain ⟨h1,h2⟩:=Eb.1 h
 exact ⟨by omega,aw h2⟩
theorem GL (xs is:List Int) (h:short is/\Ho xs.length is):fnW Cc (look []) Ui Tryz.f80 (xs,is,()) (λ(z:List Int)=>z=Bx xs is):=by
 obtain ⟨h,hr⟩:=h
 unfold short at h
 have Ly:(Bx xs is).length=is.length:=o6 xs is
 refine Eq.mp (IF xs is _) ⟨⟨by omega,by show (is.length:Int)<(4294967296:Int)+1;omega⟩,rfl,rfl,rfl,?_⟩
 refine Ah is.length (λv=>v.1) (λj v=>v.2.1.length=(Bx xs is).length/\v.2.1.take j=(Bx xs is).take j) rfl ⟨by rw [Ly];simp,by simp⟩ ?_
 rintro j ⟨i,ys,⟨⟩⟩ K hj hi ⟨h1,h2⟩ hK
 dsimp only at hi h1 h2⊢
 subst hi
 refine Br.dec (λhl=>?_) λhl=>?_
 ·have hl:j<is.length:=by omega
  have hx:=hr _ (List.getElem_mem hl)
  obtain ⟨xn,TQ⟩:=Int.eq_ofNat_of_zero_le hx.1
  have Fz:j<(Bx xs is).length:=by rw [Ly];exact hl
  have e:xs[xn]'(by omega)=(Bx xs is)[j]:=by
   simp only [Bx,List.getElem_map,Ig,TQ,Int.toNat_natCast]
   rw [Tr]
  refine ⟨_,Ap hl,xs[xn]'(by omega),by rw [TQ];exact Ap (by omega),⟨by omega,by omega⟩,by rw [Int.toNat_natCast,Nat.zero_add];omega,rfl,by rw [List.length_set],?_⟩
  rw [Ag (by omega),Int.toNat_natCast,Nat.zero_add,e]
  refine hK hl _ rfl ⟨by rw [List.length_set];exact h1,?_⟩
  rw [List.take_add_one,List.take_set_of_le (by omega),h2,List.getElem?_set_self (by omega),List.take_add_one,List.getElem?_eq_getElem Fz]
 ·have:j=is.length:=by omega
  subst this
  rw [Bi,<-List.take_length (l:=ys),h1,Ly,h2,<-Ly,List.take_length]
theorem qy:Sound Tryz.prog 80 Ui:=
 Sound.Co Bg Al mixed Tryz.func80 (by kernel_rfl) (by kernel_rfl) λx h=>GL x.1 x.2.1 h
end Go.Proofs.YtfolipnappekaaaGreat

namespace Go.Proofs.YtfolipnappekaaaGreat
open Go.RowKit
theorem map_take {α β:Type} (f:α->β) {xs:List α} {j:Nat} (h:j<xs.length):(xs.take (j+1)).map f=(xs.take j).map f++ [f xs[j]]:=by
 rw [List.take_add_one,List.getElem?_eq_getElem h,List.map_append];rfl
end Go.Proofs.YtfolipnappekaaaGreat

namespace Go.Proofs.YtfolipnappekaaaGreat
open Go.RowKit
theorem rH {α:Type} {P:α->Bool} : ∀(l:List α) (i:Nat),l.any P=true-> ∃k,∃h:k<l.length,Ds P l (i:Int)=((i+k:Nat):Int)/\P l[k]=true/\ ∀j (h:j<k),P (l[j]'(by omega))=false
 | [],i,h=>by simp at h
 |y::r,i,h=>by
  simp only [Ds]
  by_cases hy:P y=true
  ·rw [if_pos hy]
   exact ⟨0,by simp,rfl,hy,λj hj=>absurd hj (Nat.not_lt_zero _)⟩
  ·rw [if_neg hy]
   have hr:r.any P=true:=by
    rw [List.any_cons,Bool.or_eq_true] at h
    exact h.resolve_left hy
   obtain ⟨k,hk,h1,h2,h3⟩:=rH r (i+1) hr
   refine ⟨k+1,by simpa using hk,?_,h2,λj hj=>?_⟩
   ·rw [show ((i:Int)+1)=((i+1:Nat):Int) by push_cast;rfl,h1]
    congr 1
    omega
   ·cases j with
    |zero=>exact Bool.not_eq_true _|>.mp hy
    |succ j=>exact h3 j (by omega)
end Go.Proofs.YtfolipnappekaaaGreat

namespace Go.Proofs.YtfolipnappekaaaGreat
open Go.RowKit
theorem cH {s q t:List Int} (h:Ho s.length t):Bx (Aa s q) t=Aa (Bx s t) q:=by
 unfold Bx Aa
 rw [List.map_map]
 refine List.map_congr_left λy hy=>?_
 obtain ⟨h1,h2⟩:=h y hy
 have hy':y.toNat<s.length:=by omega
 show Ig (s.map (Ig q)) y=Ig q (Ig s y)
 unfold Ig
 rw [Tr (by rw [List.length_map];exact hy'),List.getElem_map,Tr hy']
 try rfl
theorem GR {n:Nat} {t:List Int} (h: ∀y∈t,0<=y/\y<(n:Int)):Bx (upto n) t=t:=by
 unfold Bx
 refine (List.map_congr_left λy hy=>?_).trans (List.map_id t)
 obtain ⟨h1,h2⟩:=h y hy
 obtain ⟨k,rfl⟩:=Int.eq_ofNat_of_zero_le h1
 have hk:k<n:=by omega
 show Ig (upto n) (k:Int)=(k:Int)
 unfold Ig
 rw [Int.toNat_natCast,List.getD_eq_getElem?_getD,pd hk]
 rfl
noncomputable def fZ (p:PP) (t:List Int):List (List Int):=(Gf p.2.2.1 t).1
noncomputable def LR (p:PP) (t:List Int):List Int:=(Gf p.2.2.1 t).2.1
theorem yh {p:PP} {t:List Int} (ht:Ct p t=true): ∀y∈t,0<=y/\y<((p.1.toNat:Nat):Int):= λy hy=>by
 have h1:=(Et ht).2 y hy
 have:=(valid (Lq.1 ht).1).n
 omega
theorem Oq.congr {g:List (List Int)} {ls:List Int} {L:List (List Int)} {S S':List Int->Prop} {d:List Int->Int} (h:Oq g ls L S d) (e: ∀x∈L,S x↔S' x):Oq g ls L S' d:=
 ⟨h.nn,λx hx=>(h.zero x hx).trans (e x hx),h.step,h.down⟩
theorem GQ {p:PP} {t:List Int} (ht:Ct p t=true):(fZ p t).getD 0 []=t/\t∈fZ p t:=by
 obtain ⟨_,A,h⟩:=yW (Lq.1 ht).1 (Et ht).1 (Et ht).2
 have h:fZ p t=t::A:=h
 rw [h]
 exact ⟨rfl,by simp⟩
end Go.Proofs.YtfolipnappekaaaGreat

namespace Go.Proofs.YtfolipnappekaaaGreat
open Go.RowKit
def known (row:Row):List (List Int):=row.filterMap id
mutual
def eh (n:Nat):Nat->Nat->List Int->Av×Av->Av×Av
 |0,_,_,s=>s
 |f+1,k,p,s=>if Dy s.2 (n-k) k p=true then s else
   ((known (s.2.getD k [])).map λu=>Aa u p).foldl (λs q=>aW n f k q s) (s.1.set k (s.1.getD k []++ [some p]),s.2)
def aW (n:Nat):Nat->Nat->List Int->Av×Av->Av×Av
 |0,_,_,s=>s
 |f+1,k,p,s=>match (s.2.getD k []).getD (ap p k) none with
  |some t=>eh n f (k+1) (Aa p (Af t)) s
  |none=>((s.1.getD k []).map λo=>Aa p (o.getD [])).foldl (λs q=>aW n f k q s) (s.1,s.2.set k ((s.2.getD k []).set (ap p k) (some p)))
end
structure Part (n k:Nat) (s:Av×Av):Prop where
 l1:s.1.length=n
 l2:s.2.length=n
 pg:PG n k (s.1.getD k [])
 row:Nu n k (s.1.getD k []) (s.2.getD k [])
 comp:ef n (n-(k+1)) (k+1) s
 gb:YX (n-(k+1)) (k+1) s
 sub: ∀g,some g∈s.1.getD (k+1) []->Gn n (s.1.getD k []) g
def Hd (n k:Nat) (s:Av×Av) (q:List Int):Prop:= ∃t,(s.2.getD k []).getD (ap q k) none=some t/\Dy s.2 (n-(k+1)) (k+1) (Aa q (Af t))=true
structure Wd (n k:Nat) (s s':Av×Av):Prop where
 grow:Ot k s s'
 same:s'.1.getD k []=s.1.getD k []
 part:Part n k s'
 Ci: ∀q,Pm n q->Fx k q->Hd n k s q->Hd n k s' q
 new: ∀y t,(s'.2.getD k []).getD y none=some t->(s.2.getD k []).getD y none=some t\/ ∀g,some g∈s.1.getD k []->Hd n k s' (Aa t g)
theorem Wd.refl {n k:Nat} {s:Av×Av} (h:Part n k s):Wd n k s s:=⟨Ot.refl _ _,rfl,h,λ_ _ _ h=>h,λ_ _ h=> .inl h⟩
theorem Part.tg {n k:Nat} {s:Av×Av} (h:Part n k s) (hk:k<n) {y:Nat} {t g:List Int} (ht:(s.2.getD k []).getD y none=some t) (hg:some g∈s.1.getD k []):Pm n (Aa t g)/\Fx k (Aa t g)/\ap (Aa t g) k=ap g y:=by
 obtain ⟨t1,t2,t3,t4⟩:=h.row.rt _ _ ht
 obtain ⟨g',e,g1,g2⟩:=h.pg _ hg
 cases e
 exact ⟨t1.comp g1,Fx.comp t1 g1 t2 g2 (by omega),by rw [Gv t1 g1 hk,t3]⟩
theorem Wd.trans {n k:Nat} {a b c:Av×Av} (hk:k<n) (h:Wd n k a b) (h':Wd n k b c):Wd n k a c:=by
 refine ⟨h.grow.trans h'.grow (Nat.le_refl _),h'.same.trans h.same,h'.part,λq h1 h2 h3=>h'.Ci q h1 h2 (h.Ci q h1 h2 h3),λy t e=>?_⟩
 rcases h'.new y t e with e1|e1
 ·rcases h.new y t e1 with e2|e2
  ·exact .inl e2
  ·refine .inr λg hg=>?_
   obtain ⟨p1,p2,_⟩:=h.part.tg hk e1 (by rw [h.same];exact hg)
   exact h'.Ci _ p1 p2 (e2 g hg)
 ·exact .inr λg hg=>e1 g (by rw [h.same];exact hg)
theorem Part.pms {n k:Nat} {s:Av×Av} (h1:1<=n) (h2:n<=20) (h:Part n k s):vD n λg=>some g∈s.1.getD k []:=⟨⟨h1,h2⟩,λg hg=>by obtain ⟨g',e,h,_⟩:=h.pg _ hg;cases e;exact h⟩
theorem Part.v {n k:Nat} {s:Av×Av} (h:Part n k s):V n (n-(k+1)) (k+1) s:=⟨h.l1,h.l2,h.comp,h.gb⟩
theorem re (row:Row):pD row+Gz row=row.length:=by
 induction row with
 |nil=>rfl
 |cons o r ih=>
  unfold pD Gz at*
  cases o<;>simp [List.countP_cons]<;>omega
theorem zS {a b:Row} (hl:b.length=a.length) (h: ∀y t,a.getD y none=some t->b.getD y none=some t):Gz b<=Gz a:=by
 have h1:=(jr a b hl.symm h).1
 have h2:=re a
 have h3:=re b
 omega
def EA (n k:Nat):Nat:=(n-k)*(n+2)+(n+1)
def gG (n k:Nat) (s:Av×Av):Nat:=(n-k)*(n+2)+Gz (s.2.getD k [])
theorem Wd.mu {n k:Nat} {s s':Av×Av} (h:Wd n k s s'):gG n k s'<=gG n k s:=by
 have:=zS (h.grow.MU k) (h.grow.pb k)
 unfold gG;omega
theorem dC {n k f:Nat} (hk:k<n) {gs:List PO}
  (IH: ∀q s,Part n k s->s.1.getD k []=gs->Pm n q->Fx k q->Gn n gs q->gG n k s<=f->(Wd n k s (aW n f k q s)/\Hd n k (aW n f k q s) q)/\ ∀f',f<=f'->aW n f' k q s=aW n f k q s):
  ∀(qs:List (List Int)) (s:Av×Av),Part n k s->s.1.getD k []=gs->(∀q∈qs,Pm n q/\Fx k q/\Gn n gs q)->gG n k s<=f->
   Wd n k s (qs.foldl (λs q=>aW n f k q s) s)/\(∀q∈qs,Hd n k (qs.foldl (λs q=>aW n f k q s) s) q)/\ ∀f',f<=f'->qs.foldl (λs q=>aW n f' k q s) s=qs.foldl (λs q=>aW n f k q s) s
 | [],s,hp,_,_,_=>⟨Wd.refl hp,λq hq=>(by cases hq),λ_ _=>rfl⟩
 |q::qs,s,hp,hg,hq,hm=>by
  obtain ⟨q1,q2,q3⟩:=hq q (by simp)
  obtain ⟨⟨a1,a2⟩,a3⟩:=IH q s hp hg q1 q2 q3 hm
  obtain ⟨b1,b2,b3⟩:=dC hk IH qs (aW n f k q s) a1.part (a1.same.trans hg) (λq' h=>hq q' (List.mem_cons_of_mem _ h)) (Nat.le_trans a1.mu hm)
  simp only [List.foldl_cons]
  refine ⟨a1.trans hk b1,λq' fS=>?_,λf' hf=>?_⟩
  ·rcases List.mem_cons.1 fS with rfl|fS
   ·exact b1.Ci _ q1 q2 a2
   ·exact b2 q' fS
  ·rw [a3 f' hf];exact b3 f' hf
theorem wz {n k:Nat} (h1:1<=n) (h2:n<=20) (hk:k<n) {s s':Av×Av} (hs:ef n (n-(k+1)) (k+1) s) (wI:ef n (n-(k+1)) (k+1) s') (hg:Ot k s s') {x:List Int} (hx:Pm n x) (hf:Fx (k+1) x)
  (h:Dy s.2 (n-(k+1)) (k+1) x=true):Dy s'.2 (n-(k+1)) (k+1) x=true:=
 (Nb h1 h2 _ (k+1) s' (by omega) wI x hx hf).2 (((Nb h1 h2 _ (k+1) s (by omega) hs x hx hf).1 h).mono λg vn=>hg.rk _ _ vn)
theorem dP {row:Row} {u:List Int} :u∈known row↔ ∃y,row.getD y none=some u:=by
 unfold known
 rw [List.mem_filterMap]
 constructor
 ·rintro ⟨o,ho,e⟩
  obtain ⟨y,hy,rfl⟩:=List.mem_iff_getElem.1 ho
  exact ⟨y,by rw [List.getD_eq_getElem?_getD,List.getElem?_eq_getElem hy];exact e⟩
 ·rintro ⟨y,hy⟩
  have hl:=ia hy
  rw [List.getD_eq_getElem?_getD,List.getElem?_eq_getElem hl] at hy
  exact ⟨row[y],List.getElem_mem hl,hy⟩
theorem CU {n:Nat} (h1:1<=n) (h2:n<=20): ∀f:Nat,
  (∀k p s,k<=n->V n (n-k) k s->Pm n p->Fx k p->EA n k<=f->IV n (n-k) k s p (eh n f k p s)/\ ∀f',f<=f'->eh n f' k p s=eh n f k p s)/\
  (∀k q s,k<n->Part n k s->Pm n q->Fx k q->Gn n (s.1.getD k []) q->gG n k s<=f->(Wd n k s (aW n f k q s)/\Hd n k (aW n f k q s) q)/\ ∀f',f<=f'->aW n f' k q s=aW n f k q s)
 |0=>⟨λk p s _ _ _ _ h=>by unfold EA at h;omega,λk q s hk _ _ _ _ h=>by
   unfold gG at h
   have:1*(n+2)<=(n-k)*(n+2):=Nat.mul_le_mul_right _ (by omega)
   omega⟩
 |f+1=>by
  obtain ⟨ihG,ihP⟩:=CU h1 h2 f
  refine ⟨λk p s hk hv hp hf OX=>?_,λk q s hk Vz hq hf yJ OX=>?_⟩
  ·
   have wM: ∀f',f+1<=f'-> ∃yG,f'=yG+1/\f<=yG:= λf' h=>⟨f'-1,by omega,by omega⟩
   by_cases hh:Dy s.2 (n-k) k p=true
   ·have e: ∀f',eh n (f'+1) k p s=s:= λf'=>by simp only [eh];rw [if_pos hh]
    rw [e f]
    refine ⟨⟨hv,Ot.refl _ _,(Nb h1 h2 _ k s (by omega) hv.2.2.1 p hp hf).1 hh,λo ho=> .inl ho⟩,λf' yI=>?_⟩
    obtain ⟨yG,rfl,_⟩:=wM f' yI
    exact e yG
   have KH:k<n:=by
    refine Nat.lt_of_le_of_ne hk λe=>hh ?_
    subst e
    rw [Nat.sub_self];rfl
   obtain ⟨v1,v2,hc,rz⟩:=hv
   have eL:=hc
   have Ak7:=rz
   obtain ⟨m,hm⟩: ∃m,n-k=m+1:=⟨n-k-1,by omega⟩
   have wF:n-(k+1)=m:=by omega
   rw [hm] at hc rz
   obtain ⟨c1,c2,c3⟩:=hc
   generalize ig:s.1.getD k []++ [some p]=gs
   have Ss:some p∈gs:=by rw [<-ig];simp
   have Jy: ∀o∈s.1.getD k [],o∈gs:= λo ho=>by rw [<-ig];exact List.mem_append_left _ ho
   have hg:PG n k gs:= λo ho=>by
    rw [<-ig] at ho
    rcases List.mem_append.1 ho with ho|ho
    ·exact c2.pg o ho
    ·rw [List.mem_singleton] at ho;exact ⟨p,ho,hp,hf⟩
   have hS:vD n λg=>some g∈gs:=⟨⟨h1,h2⟩,λg Mf=>by obtain ⟨g',e,h,_⟩:=hg _ Mf;cases e;exact h⟩
   have oq: ∀i,(s.1.set k gs).getD i []=if i=k then gs else s.1.getD i []:= λi=>by
    rw [Gk]
    by_cases e:k=i
    ·subst e;rw [if_pos ⟨rfl,by omega⟩,if_pos rfl]
    ·rw [if_neg (λhh=>e hh.1),if_neg (Ne.symm e)]
   have rF: ∀i,k+1<=i->(s.1.set k gs).getD i []=s.1.getD i []/\s.2.getD i []=s.2.getD i []:= λi hi=>⟨by rw [oq i,if_neg (by omega)],rfl⟩
   have wG:Part n k (s.1.set k gs,s.2):=by
    refine ⟨by simpa using v1,v2,?_,?_,?_,?_,λg Mf=>?_⟩
    ·show PG n k ((s.1.set k gs).getD k []);rw [oq k,if_pos rfl];exact hg
    ·show Nu n k ((s.1.set k gs).getD k []) _
     rw [oq k,if_pos rfl]
     exact ⟨c2.rl,c2.r0,λy t e=>⟨(c2.rt y t e).1,(c2.rt y t e).2.1,(c2.rt y t e).2.2.1,(c2.rt y t e).2.2.2.mono λg hg=>Jy _ hg⟩⟩
    ·rw [wF];exact Nl m (k+1) rF c1
    ·rw [wF];exact Va m (k+1) rF rz.1
    ·have Mf:some g∈(s.1.set k gs).getD (k+1) []:=Mf
     rw [(rF (k+1) (Nat.le_refl _)).1] at Mf
     show Gn n ((s.1.set k gs).getD k []) g
     rw [oq k,if_pos rfl]
     exact (c3 g Mf).mono λg hg=>Jy _ hg
   have dI:((s.1.set k gs,s.2):Av×Av).1.getD k []=gs:=by show (s.1.set k gs).getD k []=gs;rw [oq k,if_pos rfl]
   have fR:Ot k s (s.1.set k gs,s.2):=by
    refine ⟨by simp,rfl,λi hi=>⟨?_,rfl⟩,λi o ho=>?_,λi y t e=>e,λi=>rfl⟩
    ·show (s.1.set k gs).getD i []=_;rw [oq i,if_neg (by omega)]
    ·show o∈(s.1.set k gs).getD i []
     rw [oq i]
     split
     ·rename_i hi;subst hi;exact Jy o ho
     ·exact ho
   have hmP:gG n k (s.1.set k gs,s.2)<=f:=by
    have hn:=cF (s.2.getD k [])
    have hr:=c2.rl
    unfold gG
    unfold EA at OX
    show (n-k)*(n+2)+Gz (s.2.getD k [])<=f
    omega
   have FM: ∀q∈(known (s.2.getD k [])).map (λu=>Aa u p),Pm n q/\Fx k q/\Gn n gs q:= λq hq=>by
    obtain ⟨u,hu,rfl⟩:=List.mem_map.1 hq
    obtain ⟨y,hy⟩:=dP.1 hu
    obtain ⟨t1,t2,t3,t4⟩:=c2.rt _ _ hy
    exact ⟨t1.comp hp,Fx.comp t1 hp t2 hf hk, .mul (t4.mono λg hg=>Jy _ hg) Ss⟩
   obtain ⟨r1,r2,r3⟩:=dC KH (gs:=gs) (λq s ij Mf a b c d=>ihP k q s KH ij a b (by rw [Mf];exact c) d) ((known (s.2.getD k [])).map λu=>Aa u p) (s.1.set k gs,s.2) wG dI FM hmP
   have e: ∀f',eh n (f'+1) k p s=((known (s.2.getD k [])).map λu=>Aa u p).foldl (λs q=>aW n f' k q s) (s.1.set k gs,s.2):= λf'=>by simp only [eh];rw [if_neg hh,ig]
   refine ⟨?_,λf' yI=>by obtain ⟨yG,rfl,KA⟩:=wM f' yI;rw [e yG,e f];exact r3 yG KA⟩
   rw [e f]
   generalize ((known (s.2.getD k [])).map λu=>Aa u p).foldl (λs q=>aW n f k q s) (s.1.set k gs,s.2)=s' at r1 r2
   have ij:=r1.part
   have zm:s'.1.getD k []=gs:=r1.same.trans dI
   have hHd: ∀y t g,(s'.2.getD k []).getD y none=some t->some g∈gs->Hd n k s' (Aa t g):= λy t g ht vn=>by
    rcases r1.new y t ht with e1|e1
    ·have e1:(s.2.getD k []).getD y none=some t:=e1
     by_cases Mu:g=p
     ·subst Mu
      exact r2 _ (List.mem_map.2 ⟨t,dP.2 ⟨y,e1⟩,rfl⟩)
     ·have hg0:some g∈s.1.getD k []:=by
       rw [<-ig] at vn
       rcases List.mem_append.1 vn with h|h
       ·exact h
       ·rw [List.mem_singleton] at h;cases h;exact absurd rfl Mu
      obtain ⟨x1,x2,x3⟩:=wG.tg KH e1 (by rw [dI];exact vn)
      refine r1.Ci _ x1 x2 ?_
      obtain ⟨t',rE⟩:=Option.ne_none_iff_exists'.1 (c2.cl y t g e1 hg0)
      refine ⟨t',by show (s.2.getD k []).getD _ none=_;rw [x3];exact rE,?_⟩
      show Dy s.2 (n-(k+1)) (k+1) _=true
      rw [wF]
      exact c2.sg y t g t' e1 hg0 rE
    ·exact e1 g (by rw [dI];exact vn)
   have VW:PD n k gs (s'.2.getD k []) (λq=>Dy s'.2 m (k+1) q=true):=by
    have hr:=ij.row
    rw [zm] at hr
    refine ⟨hg,hr.rl,hr.r0,hr.rt,λy t g ht vn=>?_,λy t g t' ht vn rE=>?_⟩
    ·obtain ⟨t',rE,_⟩:=hHd y t g ht vn
     obtain ⟨_,_,x3⟩:=ij.tg KH ht (by rw [zm];exact vn)
     rw [<-x3,rE];simp
    ·obtain ⟨t'',Abe,hx⟩:=hHd y t g ht vn
     obtain ⟨_,_,x3⟩:=ij.tg KH ht (by rw [zm];exact vn)
     rw [x3,rE] at Abe
     cases Abe
     rw [<-wF];exact hx
   have wB:ef n (m+1) k s':=⟨by rw [<-wF];exact ij.comp,by rw [zm];exact VW,λg vn=>ij.sub g vn⟩
   have cp:Gn n (s'.1.getD k []) p:=by rw [zm];exact Wc.one hS Ss
   have nt:=fR.trans r1.grow (Nat.le_refl _)
   rw [hm]
   refine ⟨⟨ij.l1,ij.l2,wB,by rw [<-wF];exact ij.gb,?_⟩,nt,cp,λo ho=>?_⟩
   ·have hold:=rz.2
    obtain ⟨p1,p2⟩:=o8 nt.MU nt.pb (m+1) k
    have Ex:cJ s.2 (m+1) k≠cJ s'.2 (m+1) k:= λe=>by
     have:=Wm (m+1) k p (p2 e)
     rw [(Nb h1 h2 (m+1) k s' (by omega) wB p hp hf).2 cp] at this
     rw [hm] at hh
     exact hh this.symm
    rw [zm,<-ig,List.length_append,List.length_singleton]
    omega
   ·rw [zm,<-ig] at ho
    rcases List.mem_append.1 ho with ho|ho
    ·exact .inl ho
    ·rw [List.mem_singleton] at ho;exact .inr ho
  ·
   have wM: ∀f',f+1<=f'-> ∃yG,f'=yG+1/\f<=yG:= λf' h=>⟨f'-1,by omega,by omega⟩
   have hS:=Vz.pms h1 h2
   have hmul:(n-k)*(n+2)=(n-(k+1))*(n+2)+(n+2):=by
    rw [show n-k=n-(k+1)+1 by omega,Nat.add_mul,Nat.one_mul]
   cases Ge:(s.2.getD k []).getD (ap q k) none with
   |some t=>
    have e: ∀f',aW n (f'+1) k q s=eh n f' (k+1) (Aa q (Af t)) s:= λf'=>by simp only [aW];rw [Ge]
    obtain ⟨t1,t2,t3,t4⟩:=Vz.row.rt _ _ Ge
    have hx:=hq.comp t1.inv
    have hfx:=Fx.div hq t1 hf t2 hk t3
    have hxg:Gn n (s.1.getD k []) (Aa q (Af t)):=Wc.comp hS yJ (Wc.mi hS t4)
    obtain ⟨a1,a2⟩:=ihG (k+1) _ s (by omega) Vz.v hx hfx (by unfold EA;unfold gG at OX;omega)
    refine ⟨?_,λf' yI=>by obtain ⟨yG,rfl,KA⟩:=wM f' yI;rw [e yG,e f];exact a2 yG KA⟩
    rw [e f]
    generalize eh n f (k+1) (Aa q (Af t)) s=s' at a1
    obtain ⟨av,ag,ai,ags⟩:=a1
    obtain ⟨w1,w2,w3,w4⟩:=av
    obtain ⟨lo1,lo2⟩:=ag.low k (by omega)
    have Agd:Part n k s':=⟨w1,w2,by rw [lo1];exact Vz.pg,by rw [lo1,lo2];exact Vz.row,w3,w4,λg vn=>by
     rw [lo1]
     rcases ags _ vn with h|h
     ·exact Vz.sub g h
     ·cases h;exact hxg⟩
    refine ⟨⟨ag.Ek (by omega),lo1,Agd,λq' q1 q2 ⟨t',e1,e2⟩=>?_,λy t e=> .inl (by rw [lo2] at e;exact e)⟩,t,by rw [lo2];exact Ge,?_⟩
    ·obtain ⟨u1,u2,u3,_⟩:=Vz.row.rt _ _ e1
     exact ⟨t',by rw [lo2];exact e1,wz h1 h2 hk Vz.comp w3 (ag.Ek (by omega)) (q1.comp u1.inv) (Fx.div q1 u1 q2 u2 hk u3) e2⟩
    ·exact (Nb h1 h2 _ (k+1) s' (by omega) w3 _ hx hfx).2 ai
   |none=>
    have e: ∀f',aW n (f'+1) k q s=((s.1.getD k []).map λo=>Aa q (o.getD [])).foldl (λs q=>aW n f' k q s) (s.1,s.2.set k ((s.2.getD k []).set (ap q k) (some q))):= λf'=>by simp only [aW];rw [Ge]
    have hy:ap q k<n:=hq.lt hk
    have TO:=Vz.row.rl
    have hyk:ap q k≠k:= λh=>by rw [h,Vz.row.r0] at Ge;cases Ge
    have pv:=Vz.l2
    generalize kQ:(s.2.getD k []).set (ap q k) (some q)=Ps
    have Zl: ∀y,Ps.getD y none=if ap q k=y then some q else (s.2.getD k []).getD y none:= λy=>by
     rw [<-kQ,Gk]
     by_cases h:ap q k=y
     ·rw [if_pos ⟨h,by omega⟩,if_pos h]
     ·rw [if_neg λhh=>h hh.1,if_neg h]
    have UB: ∀i,(s.2.set k Ps).getD i []=if i=k then Ps else s.2.getD i []:= λi=>by
     rw [Gk]
     by_cases e:k=i
     ·subst e;rw [if_pos ⟨rfl,by omega⟩,if_pos rfl]
     ·rw [if_neg (λhh=>e hh.1),if_neg (Ne.symm e)]
    have rF: ∀i,k+1<=i->s.1.getD i []=s.1.getD i []/\(s.2.set k Ps).getD i []=s.2.getD i []:= λi hi=>⟨rfl,by rw [UB i,if_neg (by omega)]⟩
    have KE:((s.1,s.2.set k Ps):Av×Av).2.getD k []=Ps:=by show (s.2.set k Ps).getD k []=Ps;rw [UB k,if_pos rfl]
    have wG:Part n k (s.1,s.2.set k Ps):=by
     refine ⟨Vz.l1,by simpa using pv,Vz.pg,?_,Nl _ (k+1) rF Vz.comp,Va _ (k+1) rF Vz.gb,Vz.sub⟩
     rw [KE]
     refine ⟨by rw [<-kQ,List.length_set];exact TO,by rw [Zl k,if_neg hyk];exact Vz.row.r0,λy t e=>?_⟩
     rw [Zl y] at e
     split at e
     ·rename_i h
      cases e
      exact ⟨hq,hf,h,yJ⟩
     ·exact Vz.row.rt y t e
    have fR:Ot k s (s.1,s.2.set k Ps):=by
     refine ⟨rfl,by simp,λi hi=>⟨rfl,?_⟩,λi o ho=>ho,λi y t et=>?_,λi=>?_⟩
     ·show (s.2.set k Ps).getD i []=_;rw [UB i,if_neg (by omega)]
     ·show ((s.2.set k Ps).getD i []).getD y none=some t
      rw [UB i]
      split
      ·rename_i hi
       subst hi
       rw [Zl y]
       split
       ·rename_i h;rw [<-h,Ge] at et;cases et
       ·exact et
      ·exact et
     ·show ((s.2.set k Ps).getD i []).length=_
      rw [UB i]
      split
      ·rename_i hi;subst hi;rw [<-kQ,List.length_set]
      ·rfl
    have hnn:Gz Ps+1=Gz (s.2.getD k []):=by rw [<-kQ];exact jP Ge (by omega)
    have hmP:gG n k (s.1,s.2.set k Ps)<=f:=by
     unfold gG
     rw [KE]
     unfold gG at OX
     omega
    have FM: ∀x∈(s.1.getD k []).map (λo=>Aa q (o.getD [])),Pm n x/\Fx k x/\Gn n (s.1.getD k []) x:= λx hx=>by
     obtain ⟨o,ho,rfl⟩:=List.mem_map.1 hx
     obtain ⟨g,rfl,g1,g2⟩:=Vz.pg o ho
     exact ⟨hq.comp g1,Fx.comp hq g1 hf g2 (by omega), .mul yJ ho⟩
    obtain ⟨r1,r2,r3⟩:=dC hk (gs:=s.1.getD k []) (λq s ij Mf a b c d=>ihP k q s hk ij a b (by rw [Mf];exact c) d) ((s.1.getD k []).map λo=>Aa q (o.getD [])) (s.1,s.2.set k Ps) wG rfl FM hmP
    have e': ∀f',aW n (f'+1) k q s=((s.1.getD k []).map λo=>Aa q (o.getD [])).foldl (λs q=>aW n f' k q s) (s.1,s.2.set k Ps):= λf'=>by rw [e f',kQ]
    refine ⟨?_,λf' yI=>by obtain ⟨yG,rfl,KA⟩:=wM f' yI;rw [e' yG,e' f];exact r3 yG KA⟩
    rw [e' f]
    generalize ((s.1.getD k []).map λo=>Aa q (o.getD [])).foldl (λs q=>aW n f k q s) (s.1,s.2.set k Ps)=s' at r1 r2
    have wK:s'.1.getD k []=s.1.getD k []:=r1.same
    have VR: ∀x,Pm n x->Fx k x->Hd n k s x->Hd n k (s.1,s.2.set k Ps) x:= λx x1 x2 ⟨t',e1,e2⟩=>by
     obtain ⟨u1,u2,u3,_⟩:=Vz.row.rt _ _ e1
     exact ⟨t',fR.pb k _ _ e1,wz h1 h2 hk Vz.comp wG.comp fR (x1.comp u1.inv) (Fx.div x1 u1 x2 u2 hk u3) e2⟩
    have hqq:(s'.2.getD k []).getD (ap q k) none=some q:=r1.grow.pb k _ _ (by rw [KE,Zl,if_pos rfl])
    refine ⟨⟨fR.trans r1.grow (Nat.le_refl _),wK,r1.part,λx x1 x2 x3=>r1.Ci x x1 x2 (VR x x1 x2 x3),λy t ht=>?_⟩,q,hqq,?_⟩
    ·rcases r1.new y t ht with e1|e1
     ·rw [KE,Zl y] at e1
      split at e1
      ·cases e1
       refine .inr λg hg=>r2 _ (List.mem_map.2 ⟨some g,hg,rfl⟩)
      ·exact .inl e1
     ·exact .inr e1
    ·rw [gO hq]
     exact (Nb h1 h2 _ (k+1) s' (by omega) r1.part.comp _ (Pm.id h1 h2) (λi hi=>eB (by omega))).2 .id
end Go.Proofs.YtfolipnappekaaaGreat

namespace Go.Proofs.YtfolipnappekaaaGreat
open Go.RowKit
theorem CS {n f k:Nat} {p:List Int} {s:Av×Av} :eh n (f+1) k p s=if Dy s.2 (n-k) k p=true then s else
  ((known (s.2.getD k [])).map λu=>Aa u p).foldl (λs q=>aW n f k q s) (s.1.set k (s.1.getD k []++ [some p]),s.2):=by simp only [eh]
theorem CT {n f k:Nat} {p:List Int} {s:Av×Av} :aW n (f+1) k p s=match (s.2.getD k []).getD (ap p k) none with
  |some t=>eh n f (k+1) (Aa p (Af t)) s
  |none=>((s.1.getD k []).map λo=>Aa p (o.getD [])).foldl (λs q=>aW n f k q s) (s.1,s.2.set k ((s.2.getD k []).set (ap p k) (some p))):=by simp only [aW]<;>rfl
theorem TW {n k:Nat} (h2:n<=20):(n-k)*(n+2)<=440:=Nat.le_trans (Nat.mul_le_mul (show n-k<=20 by omega) (show n+2<=22 by omega)) (by omega)
theorem LW {n k f:Nat} (h2:n<=20) (hf:500<=f):EA n k<=f:=by have:=TW (k:=k) h2;unfold EA;omega
theorem XD {n k f:Nat} {s:Av×Av} (h2:n<=20) (hp:Part n k s) (hf:500<=f):gG n k s<=f:=by
 have:=TW (k:=k) h2
 have h:=cF (s.2.getD k [])
 have hr:=hp.row.rl
 unfold gG;omega
theorem UL {n k:Nat} (h1:1<=n) (h2:n<=20) {p:List Int} {s:Av×Av} (hk:k<=n) (hv:V n (n-k) k s) (hp:Pm n p) (hf:Fx k p):IV n (n-k) k s p (eh n 1000 k p s):=
 ((CU h1 h2 1000).1 k p s hk hv hp hf (LW h2 (by omega))).1
def cf (n k:Nat) (qs:List (List Int)) (s:Av×Av):Av×Av:=qs.foldl (λs q=>aW n 1000 k q s) s
theorem nc {n k:Nat} (h1:1<=n) (h2:n<=20) (hk:k<n) {qs:List (List Int)} {s:Av×Av} (hp:Part n k s) (hq: ∀q∈qs,Pm n q/\Fx k q/\Gn n (s.1.getD k []) q):
  Wd n k s (cf n k qs s)/\qs.foldl (λs q=>aW n 999 k q s) s=cf n k qs s:=by
 have h:=dC hk (f:=999) (gs:=s.1.getD k []) (λq s' ij Mf a b c d=>(CU h1 h2 999).2 k q s' hk ij a b (by rw [Mf];exact c) d) qs s hp rfl hq (XD h2 hp (by omega))
 have e:=h.2.2 1000 (by omega)
 refine ⟨?_,e.symm⟩
 unfold cf
 rw [e];exact h.1
theorem nd {n k:Nat} {qs:List (List Int)} {s:Av×Av} {j:Nat} (hj:j<qs.length):cf n k (qs.take (j+1)) s=aW n 1000 k qs[j] (cf n k (qs.take j) s):=by
 unfold cf
 rw [List.take_add_one,List.getElem?_eq_getElem hj,Option.toList_some,List.foldl_append]
 rfl
theorem vE {n k:Nat} (h1:1<=n) (h2:n<=20) {p:List Int} {s:Av×Av} (KH:k<n) (hv:V n (n-k) k s) (hp:Pm n p) (hf:Fx k p):
  Part n k (s.1.set k (s.1.getD k []++ [some p]),s.2)/\ ∀q∈(known (s.2.getD k [])).map (λu=>Aa u p),Pm n q/\Fx k q/\Gn n ((s.1.set k (s.1.getD k []++ [some p])).getD k []) q:=by
 obtain ⟨v1,v2,hc,rz⟩:=hv
 obtain ⟨m,hm⟩: ∃m,n-k=m+1:=⟨n-k-1,by omega⟩
 have wF:n-(k+1)=m:=by omega
 rw [hm] at hc rz
 obtain ⟨c1,c2,c3⟩:=hc
 generalize ig:s.1.getD k []++ [some p]=gs
 have Ss:some p∈gs:=by rw [<-ig];simp
 have Jy: ∀o∈s.1.getD k [],o∈gs:= λo ho=>by rw [<-ig];exact List.mem_append_left _ ho
 have hg:PG n k gs:= λo ho=>by
  rw [<-ig] at ho
  rcases List.mem_append.1 ho with ho|ho
  ·exact c2.pg o ho
  ·rw [List.mem_singleton] at ho;exact ⟨p,ho,hp,hf⟩
 have oq: ∀i,(s.1.set k gs).getD i []=if i=k then gs else s.1.getD i []:= λi=>by
  rw [Gk]
  by_cases e:k=i
  ·subst e;rw [if_pos ⟨rfl,by omega⟩,if_pos rfl]
  ·rw [if_neg (λhh=>e hh.1),if_neg (Ne.symm e)]
 have rF: ∀i,k+1<=i->(s.1.set k gs).getD i []=s.1.getD i []/\s.2.getD i []=s.2.getD i []:= λi hi=>⟨by rw [oq i,if_neg (by omega)],rfl⟩
 refine ⟨⟨by simpa using v1,v2,?_,?_,?_,?_,λg Mf=>?_⟩,λq hq=>?_⟩
 ·show PG n k ((s.1.set k gs).getD k []);rw [oq k,if_pos rfl];exact hg
 ·show Nu n k ((s.1.set k gs).getD k []) _
  rw [oq k,if_pos rfl]
  exact ⟨c2.rl,c2.r0,λy t e=>⟨(c2.rt y t e).1,(c2.rt y t e).2.1,(c2.rt y t e).2.2.1,(c2.rt y t e).2.2.2.mono λg hg=>Jy _ hg⟩⟩
 ·rw [wF];exact Nl m (k+1) rF c1
 ·rw [wF];exact Va m (k+1) rF rz.1
 ·have Mf:some g∈(s.1.set k gs).getD (k+1) []:=Mf
  rw [(rF (k+1) (Nat.le_refl _)).1] at Mf
  show Gn n ((s.1.set k gs).getD k []) g
  rw [oq k,if_pos rfl]
  exact (c3 g Mf).mono λg hg=>Jy _ hg
 ·rw [oq k,if_pos rfl]
  obtain ⟨u,hu,rfl⟩:=List.mem_map.1 hq
  obtain ⟨y,hy⟩:=dP.1 hu
  obtain ⟨t1,t2,t3,t4⟩:=c2.rt _ _ hy
  exact ⟨t1.comp hp,Fx.comp t1 hp t2 hf (by omega), .mul (t4.mono λg hg=>Jy _ hg) Ss⟩
theorem JE {n k:Nat} (h1:1<=n) (h2:n<=20) {p:List Int} {s:Av×Av} (KH:k<n) (hv:V n (n-k) k s) (hp:Pm n p) (hf:Fx k p) (hh: ¬Dy s.2 (n-k) k p=true):
  eh n 1000 k p s=cf n k ((known (s.2.getD k [])).map λu=>Aa u p) (s.1.set k (s.1.getD k []++ [some p]),s.2):=by
 obtain ⟨a1,a2⟩:=vE h1 h2 KH hv hp hf
 rw [<-(nc h1 h2 KH a1 a2).2]
 exact (CS (f:=999)).trans (if_neg hh)
theorem CR {n k:Nat} {p:List Int} {s:Av×Av} (hh:Dy s.2 (n-k) k p=true):eh n 1000 k p s=s:=by
 exact (CS (f:=999)).trans (if_pos hh)
theorem JG {n k:Nat} (h1:1<=n) (h2:n<=20) {q t:List Int} {s:Av×Av} (hk:k<n) (Vz:Part n k s) (hq:Pm n q) (hf:Fx k q) (Ge:(s.2.getD k []).getD (ap q k) none=some t):
  aW n 1000 k q s=eh n 1000 (k+1) (Aa q (Af t)) s:=by
 obtain ⟨t1,t2,t3,t4⟩:=Vz.row.rt _ _ Ge
 rw [((CU h1 h2 999).1 (k+1) _ s (by omega) Vz.v (hq.comp t1.inv) (Fx.div hq t1 hf t2 hk t3) (LW h2 (by omega))).2 1000 (by omega)]
 refine (CT (f:=999)).trans ?_
 rw [Ge]
theorem vF {n k:Nat} {q:List Int} {s:Av×Av} (hk:k<n) (Vz:Part n k s) (hq:Pm n q) (hf:Fx k q) (yJ:Gn n (s.1.getD k []) q) (Ge:(s.2.getD k []).getD (ap q k) none=none):
  Part n k (s.1,s.2.set k ((s.2.getD k []).set (ap q k) (some q)))/\ ∀x∈(s.1.getD k []).map (λo=>Aa q (o.getD [])),Pm n x/\Fx k x/\Gn n (s.1.getD k []) x:=by
 have TO:=Vz.row.rl
 have hy:ap q k<n:=hq.lt hk
 have hyk:ap q k≠k:= λh=>by rw [h,Vz.row.r0] at Ge;cases Ge
 have pv:=Vz.l2
 generalize kQ:(s.2.getD k []).set (ap q k) (some q)=Ps
 have Zl: ∀y,Ps.getD y none=if ap q k=y then some q else (s.2.getD k []).getD y none:= λy=>by
  rw [<-kQ,Gk]
  by_cases h:ap q k=y
  ·rw [if_pos ⟨h,by omega⟩,if_pos h]
  ·rw [if_neg λhh=>h hh.1,if_neg h]
 have UB: ∀i,(s.2.set k Ps).getD i []=if i=k then Ps else s.2.getD i []:= λi=>by
  rw [Gk]
  by_cases e:k=i
  ·subst e;rw [if_pos ⟨rfl,by omega⟩,if_pos rfl]
  ·rw [if_neg (λhh=>e hh.1),if_neg (Ne.symm e)]
 have rF: ∀i,k+1<=i->s.1.getD i []=s.1.getD i []/\(s.2.set k Ps).getD i []=s.2.getD i []:= λi hi=>⟨rfl,by rw [UB i,if_neg (by omega)]⟩
 have KE:((s.1,s.2.set k Ps):Av×Av).2.getD k []=Ps:=by show (s.2.set k Ps).getD k []=Ps;rw [UB k,if_pos rfl]
 refine ⟨⟨Vz.l1,by simpa using pv,Vz.pg,?_,Nl _ (k+1) rF Vz.comp,Va _ (k+1) rF Vz.gb,Vz.sub⟩,λx hx=>?_⟩
 ·rw [KE]
  refine ⟨by rw [<-kQ,List.length_set];exact TO,by rw [Zl k,if_neg hyk];exact Vz.row.r0,λy t e=>?_⟩
  rw [Zl y] at e
  split at e
  ·rename_i h
   cases e
   exact ⟨hq,hf,h,yJ⟩
  ·exact Vz.row.rt y t e
 ·obtain ⟨o,ho,rfl⟩:=List.mem_map.1 hx
  obtain ⟨g,rfl,g1,g2⟩:=Vz.pg o ho
  exact ⟨hq.comp g1,Fx.comp hq g1 hf g2 (by omega), .mul yJ ho⟩
theorem JF {n k:Nat} (h1:1<=n) (h2:n<=20) {q:List Int} {s:Av×Av} (hk:k<n) (Vz:Part n k s) (hq:Pm n q) (hf:Fx k q) (yJ:Gn n (s.1.getD k []) q) (Ge:(s.2.getD k []).getD (ap q k) none=none):
  aW n 1000 k q s=cf n k ((s.1.getD k []).map λo=>Aa q (o.getD [])) (s.1,s.2.set k ((s.2.getD k []).set (ap q k) (some q))):=by
 obtain ⟨a1,a2⟩:=vF hk Vz hq hf yJ Ge
 rw [<-(nc h1 h2 hk a1 a2).2]
 refine (CT (f:=999)).trans ?_
 rw [Ge]
def Jv (n:Nat) (gens:List PO):Av×Av:=gens.foldl (λs o=>eh n 1000 0 (o.getD []) s) (Mq n,Rg n)
theorem sF {n:Nat} {gens:List PO} {j:Nat} (hj:j<gens.length):Jv n (gens.take (j+1))=eh n 1000 0 (gens[j].getD []) (Jv n (gens.take j)):=by
 unfold Jv
 rw [List.take_add_one,List.getElem?_eq_getElem hj,Option.toList_some,List.foldl_append]
 rfl
theorem fD {n:Nat} (h1:1<=n) (h2:n<=20): ∀(gens:List PO) (s:Av×Av),UK n gens->V n n 0 s->V n n 0 (gens.foldl (λs o=>eh n 1000 0 (o.getD []) s) s)/\
  Ot 0 s (gens.foldl (λs o=>eh n 1000 0 (o.getD []) s) s)/\(∀g,some g∈gens->Gn n ((gens.foldl (λs o=>eh n 1000 0 (o.getD []) s) s).1.getD 0 []) g)/\ ∀o∈(gens.foldl (λs o=>eh n 1000 0 (o.getD []) s) s).1.getD 0 [],o∈s.1.getD 0 []\/o∈gens
 | [],s,_,hv=>⟨hv,Ot.refl _ _,(λ_ hg=>by cases hg),λ_ ho=> .inl ho⟩
 |o::gens,s,hg,hv=>by
  obtain ⟨g,rfl,Mu⟩:=hg o (by simp)
  have ha:=UL h1 h2 (k:=0) (Nat.zero_le _) (by rw [Nat.sub_zero];exact hv) Mu (λi hi=>absurd hi (Nat.not_lt_zero _))
  have DJ:=ha.v
  rw [Nat.sub_zero] at DJ
  obtain ⟨a1,a2,a3,a4⟩:=fD h1 h2 gens (eh n 1000 0 g s) (λo ho=>hg o (by simp [ho])) DJ
  refine ⟨a1,ha.grow.trans a2 (Nat.le_refl _),λg' Mf=>?_,λo ho=>?_⟩
  ·rcases List.mem_cons.1 Mf with e|Mf
   ·cases e;exact ha.WZ.mono λg hg=>a2.rk _ _ hg
   ·exact a3 g' Mf
  ·rcases a4 o ho with h|h
   ·rcases ha.gens o h with h|h
    ·exact .inl h
    ·exact .inr (by simp [h])
   ·exact .inr (by simp [h])
theorem qV {n:Nat} (h1:1<=n) (h2:n<=20) {gens:List PO} (hg:UK n gens):V n n 0 (Jv n gens):=(fD h1 h2 gens _ hg (mq h1 h2)).1
theorem wy {n:Nat} (h1:1<=n) (h2:n<=20) {gens:List PO} (hg:UK n gens) {p:List Int} (hp:Pm n p):Dy (Jv n gens).2 n 0 p=true↔Gn n gens p:=by
 obtain ⟨a1,a2,a3,a4⟩:=fD h1 h2 gens _ hg (mq h1 h2)
 have hS:vD n λg=>some g∈gens:=⟨⟨h1,h2⟩,λg Mf=>by obtain ⟨g',e,h⟩:=hg _ Mf;cases e;exact h⟩
 have Jy: ∀g,some g∈(Jv n gens).1.getD 0 []->some g∈gens:= λg Mf=>by
  rcases a4 _ Mf with h|h
  ·have h:some g∈(Mq n).getD 0 []:=h
   rw [Rf] at h;cases h
  ·exact h
 have VC:vD n λg=>some g∈(Jv n gens).1.getD 0 []:=⟨⟨h1,h2⟩,λg Mf=>hS.2 g (Jy g Mf)⟩
 refine (Nb h1 h2 n 0 (Jv n gens) (by omega) a1.2.2.1 p hp λi hi=>absurd hi (Nat.not_lt_zero _)).trans ⟨λh=>h.mono Jy,λh=>h.trans VC λg Mf=>a3 g Mf⟩
end Go.Proofs.YtfolipnappekaaaGreat

namespace Go.Proofs.YtfolipnappekaaaGreat
open Go.RowKit
def Is (T:Av):Nat->Nat->List Int->List Int×Int×Unit
 |0,l,p=>(p,(l:Int),())
 |k+1,l,p=>match (T.getD l []).getD (Ig p (l:Int)).toNat none with
  |none=>(p,(l:Int),())
  |some t=>Is T k (l+1) (Aa p (Af t))
theorem oA {T:Av} : ∀(k l:Nat) (p:List Int),(Is T k l p).2.1=((l+k:Nat):Int)↔Dy T k l p=true
 |0,l,p=>by simp [Is,Dy]
 |k+1,l,p=>by
  unfold Is Dy
  cases (T.getD l []).getD (Ig p (l:Int)).toNat none with
  |none=>
   constructor
   ·intro h
    have h:(l:Int)=((l+(k+1):Nat):Int):=h
    omega
   ·intro h;cases h
  |some t=>
   have h:=oA (T:=T) k (l+1) (Aa p (Af t))
   rw [show l+1+k=l+(k+1) by omega] at h
   exact h
theorem zI {row:Row} {y:Nat} (h:y<row.length):known (row.take (y+1))=known (row.take y)++(row[y]).toList:=by
 unfold known
 rw [List.take_succ_eq_append_getElem h,List.filterMap_append]
 cases row[y]<;>rfl
theorem rP (row:Row):(known row).length<=row.length:=List.length_filterMap_le _ _
theorem rj {n k:Nat} (h1:1<=n) (h2:n<=20) (hk:k<n) {qs:List (List Int)} {s:Av×Av} (hp:Part n k s) (hq: ∀q∈qs,Pm n q/\Fx k q/\Gn n (s.1.getD k []) q) (j:Nat):Wd n k s (cf n k (qs.take j) s):=
 (nc h1 h2 hk hp λq h=>hq q (List.mem_of_mem_take h)).1
theorem zQ {n k:Nat} {s:Av×Av} (hp:Part n k s):gG n k s<EA n k:=by
 have h:=cF (s.2.getD k [])
 have hr:=hp.row.rl
 unfold gG EA
 omega
theorem LX {n k:Nat} {s:Av×Av} (hk:k<n):EA n (k+1)<gG n k s:=by
 obtain ⟨m,hm⟩: ∃m,n-k=m+1:=⟨n-k-1,by omega⟩
 have wF:n-(k+1)=m:=by omega
 unfold EA gG
 rw [hm,wF,Nat.succ_mul]
 omega
theorem QS {n k y:Nat} {s:Av×Av} {q:List Int} (hk:k<s.2.length) (hy:y<(s.2.getD k []).length) (h:(s.2.getD k []).getD y none=none):
  gG n k (s.1,s.2.set k ((s.2.getD k []).set y (some q)))+1=gG n k s:=by
 have h1:=jP (t:=q) h hy
 have h2:(s.2.set k ((s.2.getD k []).set y (some q))).getD k []=(s.2.getD k []).set y (some q):=by
  rw [Gk,if_pos ⟨rfl,hk⟩]
 unfold gG
 show _+Gz ((s.2.set k ((s.2.getD k []).set y (some q))).getD k [])+1=_
 rw [h2]
 omega
def jq (n:Int) (g:List (List Int)):Av×Av:=Jv n.toNat (g.map some)
end Go.Proofs.YtfolipnappekaaaGreat

namespace Go.Proofs.YtfolipnappekaaaGreat
open Go.RowKit
abbrev BB:Type:=List TT×List (ByteArray->Option Int)×Unit
def HU:List (List Int)->List Int->(ByteArray->Option Int)->ByteArray->Option Int
 |x::xs,d::ds,m=>HU xs ds (dp m (Pw x) d)
 |_,_,m=>m
def Pb (t:TT):ByteArray->Option Int:=HU t.2.1 t.2.2.1 λ_=>none
def Vi (ts:List TT):BB:=(ts,ts.map Pb,())
structure IY (t:TT):Prop where
 sX:t.2.1.length<=3000
 len:t.2.2.1.length=t.2.1.length
 nodup:t.2.1.Nodup
 byte: ∀x∈t.2.1,aY x
 Ajd: ∀d∈t.2.2.1,0<=d/\d<=3000
 tl:t.1.length<=20
 pl: ∀x∈t.2.1,x.length<=20
def Zp (ts:List TT):Prop:=ts.length<=4/\ ∀t∈ts,IY t
def mj (t:TT) (s:List Int):Int:=t.2.2.1.getD (t.2.1.idxOf (Bx s t.1)) 0
def Li (ts:List TT) (s:List Int):List Int:=ts.map λt=>mj t s
def eW (ts:List TT) (s:List Int):Int:=(Li ts s).foldl max 0
def fz (ts:List TT) (s:List Int):Prop:=s.length<=20/\ ∀t∈ts,Ho s.length t.1/\Bx s t.1∈t.2.1
noncomputable abbrev Of:Spec:=Co (.pair yc .unit) (.optr aN) false false (λx=>Zp x.1) (λx=>some (Vi x.1))
def PC (b:Option BB) (s:List Int):Prop:= ∃ts,Zp ts/\b=some (Vi ts)/\fz ts s
def LQ (b:Option BB) (s:List Int):List Int:=match b with|some b=>Li b.1 s|none=> []
def zL (b:Option BB) (s:List Int):Int:=match b with|some b=>eW b.1 s|none=>0
noncomputable abbrev iM:Spec:=Co (.pair (.optr aN) (.pair tL .unit)) tL false true (λx=>PC x.1 x.2.1) (λx=>LQ x.1 x.2.1)
noncomputable abbrev dW:Spec:=Co (.pair (.optr aN) (.pair tL .unit)) tI false true (λx=>PC x.1 x.2.1) (λx=>zL x.1 x.2.1)
noncomputable abbrev Ph:Spec:=Co (.pair yc (.pair tL .unit)) tL false true (λx=>Zp x.1/\fz x.1 x.2.1) (λx=>Li x.1 x.2.1)
noncomputable abbrev dV:Spec:=Co (.pair yc (.pair tL .unit)) tI false true (λx=>Zp x.1/\fz x.1 x.2.1) (λx=>eW x.1 x.2.1)
abbrev j5:Type:=Int×List Int×List (List Int)×List Int×List (List Int×List (List Int)×List Int×PUnit)×(ByteArray->Option Int)×List (ByteArray->Option Int)×PUnit
abbrev j7:Type:=Int×List (List Int×List (List Int)×List Int×PUnit)×List (ByteArray->Option Int)×PUnit
theorem yw (ts:List (List Int×List (List Int)×List Int×Unit)) (P:Option (List (List Int×List (List Int)×List Int×Unit)×List (ByteArray->Option Int)×Unit)->Prop):(0=0/\0=([]:List Int).length/\Bk (λ(v2:j7) (k3:j7->Prop)=>Br (decide (v2.1<(↑ts.length:Int))) (∃(y4:List Int×List (List Int)×List Int×PUnit),idx ts v2.1=some y4/\0=0/\v2.2.2.1.length=v2.2.2.1.length/\Bk (λ(v5:j5) (k6:j5->Prop)=>Br (decide (v5.1<(↑y4.2.1.length:Int))) (∃(y7:List Int),idx y4.2.1 v5.1=some y7/\ ∃(y8:ByteArray),Fy.fn (y7,())=some y8/\ ∃(y9:Int),idx v5.2.2.2.1 v5.1=some y9/\0=0/\v5.2.2.2.2.2.2.1.length=v5.2.2.2.2.2.2.1.length/\k6 (IntKind.i64.wrap (v5.1+(1:Int)),v5.2.1,v5.2.2.1,v5.2.2.2.1,v5.2.2.2.2.1,dp v5.2.2.2.2.2.1 y8 y9,v5.2.2.2.2.2.2.1,())) (0=0/\v5.2.2.2.2.2.2.1.length=v5.2.2.2.2.2.2.1.length/\v5.2.2.2.2.2.2.1.length+(List.take 1 (List.drop 0 [v5.2.2.2.2.2.1])).length<=Bj/\0=0/\(v5.2.2.2.2.2.2.1++List.take 1 (List.drop 0 [v5.2.2.2.2.2.1])).length=(v5.2.2.2.2.2.2.1++List.take 1 (List.drop 0 [v5.2.2.2.2.2.1])).length/\k3 (IntKind.i64.wrap (v2.1+(1:Int)),v5.2.2.2.2.1,v5.2.2.2.2.2.2.1++List.take 1 (List.drop 0 [v5.2.2.2.2.2.1]),()))) ((0:Int),y4.1,y4.2.1,y4.2.2.1,v2.2.1,λ(_:ByteArray)=>none,v2.2.2.1,PUnit.unit)) (P (some (v2.2.1,List.take v2.2.2.1.length (List.drop 0 v2.2.2.1),())))) ((0:Int),ts,[],PUnit.unit))=fnW (NM [Sn+101101]) (look [(79,Fy)]) Of Tryz.f64 (ts,()) P:=by kernel_rfl
abbrev NH:Type:=List (List Int×List (List Int)×List Int×PUnit)×List (ByteArray->Option Int)×PUnit
theorem Aco (b:Option (List (List Int×List (List Int)×List Int×Unit)×List (ByteArray->Option Int)×Unit)) (s:List Int) (P:List Int->Prop):(∃(y3:NH),b=some y3/\0=0/\0=([]:List Int).length/\Bk (λ(v4:Int×List Int×PUnit) (k5:Int×List Int×PUnit->Prop)=>Br (decide (v4.1<(↑y3.1.length:Int))) (∃(y6:List Int×List (List Int)×List Int×PUnit),idx y3.1 v4.1=some y6/\ ∃(y7:NH),b=some y7/\ ∃(y8:ByteArray->Option Int),idx y7.2.1 v4.1=some y8/\ ∃(y9:List Int),Ui.fn (s,y6.1,())=some y9/\ ∃(Xy:ByteArray),Fy.fn (y9,())=some Xy/\0=0/\v4.2.1.length=v4.2.1.length/\v4.2.1.length+(List.take 1 (List.drop 0 [(y8 Xy).getD (Int.ofNat (nat_lit 0))])).length<=Bj/\0=0/\(v4.2.1++List.take 1 (List.drop 0 [(y8 Xy).getD (Int.ofNat (nat_lit 0))])).length=(v4.2.1++List.take 1 (List.drop 0 [(y8 Xy).getD (Int.ofNat (nat_lit 0))])).length/\k5 (IntKind.i64.wrap (v4.1+(1:Int)),v4.2.1++List.take 1 (List.drop 0 [(y8 Xy).getD (Int.ofNat (nat_lit 0))]),())) (P (List.take v4.2.1.length (List.drop 0 v4.2.1)))) ((0:Int),[],PUnit.unit))=fnW Cc (look [(79,Fy),(80,Ui)]) iM Tryz.f59 (b,s,()) P:=by kernel_rfl
theorem RU (b:Option (List (List Int×List (List Int)×List Int×Unit)×List (ByteArray->Option Int)×Unit)) (s:List Int) (P:Int->Prop):(∃(y3:List Int),iM.fn (b,s,())=some y3/\Bk (λ(v4:Int×Int×PUnit) (k5:Int×Int×PUnit->Prop)=>Br (decide (v4.2.1<(↑y3.length:Int))) (∃(y6:Int),idx y3 v4.2.1=some y6/\k5 (if true=true then if y6>v4.1 then y6 else v4.1 else if y6<v4.1 then y6 else v4.1,IntKind.i64.wrap (v4.2.1+(1:Int)),())) (P v4.1)) ((0:Int),(0:Int),PUnit.unit))=fnW Cc (look [(59,iM)]) dW Tryz.f52 (b,s,()) P:=by kernel_rfl
abbrev kz:Type:=List Int×List (List Int)×List Int×PUnit
theorem OE (ts:List (List Int×List (List Int)×List Int×Unit)) (s:List Int) (P:List Int->Prop):(0=0/\0=([]:List Int).length/\Bk (λ(v3:Int×List Int×PUnit) (k4:Int×List Int×PUnit->Prop)=>Br (decide (v3.1<(↑ts.length:Int))) (∃(y5:kz),idx ts v3.1=some y5/\ ∃(y6:kz),idx ts v3.1=some y6/\ ∃(y7:kz),idx ts v3.1=some y7/\ ∃(y8:List Int),Uj.fn (y7.1,s,())=some y8/\ ∃(y9:Int),Nr.fn (y6,y8,())=some y9/\ ∃(Xy:Int),idx y5.2.2.1 y9=some Xy/\0=0/\v3.2.1.length=v3.2.1.length/\v3.2.1.length+(List.take 1 (List.drop 0 [Xy])).length<=Bj/\0=0/\(v3.2.1++List.take 1 (List.drop 0 [Xy])).length=(v3.2.1++List.take 1 (List.drop 0 [Xy])).length/\k4 (IntKind.i64.wrap (v3.1+(1:Int)),v3.2.1++List.take 1 (List.drop 0 [Xy]),())) (P (List.take v3.2.1.length (List.drop 0 v3.2.1)))) ((0:Int),[],PUnit.unit))=fnW Cc (look [(78,Uj),(77,Nr)]) Ph Tryz.f57 (ts,s,()) P:=by kernel_rfl
theorem RT (ts:List (List Int×List (List Int)×List Int×Unit)) (s:List Int) (P:Int->Prop):(∃(y3:List Int),Ph.fn (ts,s,())=some y3/\Bk (λ(v4:Int×Int×PUnit) (k5:Int×Int×PUnit->Prop)=>Br (decide (v4.2.1<(↑y3.length:Int))) (∃(y6:Int),idx y3 v4.2.1=some y6/\k5 (if true=true then if y6>v4.1 then y6 else v4.1 else if y6<v4.1 then y6 else v4.1,IntKind.i64.wrap (v4.2.1+(1:Int)),())) (P v4.1)) ((0:Int),(0:Int),PUnit.unit))=fnW Cc (look [(57,Ph)]) dV Tryz.f48 (ts,s,()) P:=by kernel_rfl
theorem IY.short {t:TT} (h:IY t):Kf t:=by
 have h1:=h.sX;have h2:=h.len;have h3:=h.tl
 exact ⟨by unfold _root_.Go.Proofs.YtfolipnappekaaaGreat.short;omega,⟨by omega,λr hr=>by have:=h.pl r hr;unfold _root_.Go.Proofs.YtfolipnappekaaaGreat.short;omega⟩,by unfold _root_.Go.Proofs.YtfolipnappekaaaGreat.short;omega⟩
theorem sx {p:PP} {t:TT} (h:Dd p t=true):IY t/\Ct p t.1=true/\(Gf p.2.2.1 t.1).2.2=true/\t.2.1=fZ p t.1/\t.2.2.1=LR p t.1:=by
 obtain ⟨h1,h2⟩:=Bool.and_eq_true_iff.1 h
 obtain ⟨h3,h4⟩:=Yy.1 h1
 have h5:=jJ.1 h2
 unfold Dr at h5
 rw [if_pos h1] at h5
 have e1:t.2.1=fZ p t.1:=(congrArg (λz:TT=>z.2.1) h5).symm
 have e2:t.2.2.1=LR p t.1:=(congrArg (λz:TT=>z.2.2.1) h5).symm
 have hv:=(Lq.1 h3).1
 have hn:=(valid hv).n
 have eo:=u9 h3
 have pJ:=eo.ok.sX
 have hlen:=eo.len
 have yL:=eo.ok.short
 refine ⟨⟨by rw [e1];exact pJ,by rw [e1,e2];exact hlen,by rw [e1];exact eo.ok.nodup,λx hx=>?_,λd hd=>?_,(Et h3).1,λx hx=>?_⟩,h3,h4,e1,e2⟩
 ·rw [e1] at hx
  intro y hy
  have:=eo.row x hx y hy
  omega
 ·rw [e2] at hd
  obtain ⟨j,hj,rfl⟩:=List.mem_iff_getElem.1 hd
  have h6:=eo.dep j hj
  have th:j<(Gf p.2.2.1 t.1).2.1.length:=hj
  exact ⟨h6.1,by have:=h6.2;show (Gf p.2.2.1 t.1).2.1[j]<=3000;omega⟩
 ·rw [e1] at hx
  have:=eo.ok.len x hx
  omega
theorem dk {p:PP} {ts:List TT} (h:Cx p ts=true):Bv p=true/\Zp ts/\ ∀t∈ts,Dd p t=true:=by
 unfold Cx at h
 rw [Bool.and_eq_true,Bool.and_eq_true,List.all_eq_true,decide_eq_true_iff] at h
 exact ⟨h.1.1,⟨h.1.2,λt ht=>(sx (h.2 t ht)).1⟩,h.2⟩
theorem yf: ∀(xs:List (List Int)) (ds:List Int) (m:ByteArray->Option Int) (x:List Int),xs.length=ds.length->xs.Nodup->(∀y∈xs,aY y)->aY x->HU xs ds m (Pw x)=if x∈xs then some (ds.getD (xs.idxOf x) 0) else m (Pw x)
 | [],ds,m,x,_,_,_,_=>by cases ds<;>simp [HU]
 |y::xs,[],m,x,hl,_,_,_=>by simp at hl
 |y::xs,d::ds,m,x,hl,hn,hb,hx=>by
  obtain ⟨hy,hn⟩:=List.nodup_cons.1 hn
  simp only [HU]
  rw [yf xs ds _ x (by simpa using hl) hn (λz hz=>hb z (List.mem_cons_of_mem _ hz)) hx]
  by_cases hm:x∈xs
  ·have Ex:y≠x:= λe=>hy (e▸hm)
   have hi:(y::xs).idxOf x=xs.idxOf x+1:=by rw [List.idxOf_cons,show (y==x)=false by simpa using Ex];rfl
   rw [if_pos hm,if_pos (List.mem_cons_of_mem _ hm),hi]
   rfl
  ·rw [if_neg hm]
   unfold dp
   by_cases e:Pw x=Pw y
   ·have:=key_inj hx (hb y (by simp)) e
    subst this
    rw [if_pos e,if_pos (by simp),List.idxOf_cons_self]
    rfl
   ·have Ex:x≠y:= λh=>e (by rw [h])
    rw [if_neg e,if_neg (by simp [Ex,hm])]
theorem NX {t:TT} (h:IY t) {x:List Int} (hx:x∈t.2.1):Pb t (Pw x)=some (t.2.2.1.getD (t.2.1.idxOf x) 0):=by
 unfold Pb
 rw [yf _ _ _ _ h.len.symm h.nodup h.byte (h.byte x hx),if_pos hx]
theorem xA (ts:List TT) (h:Zp ts):fnW (NM [Sn+101101]) (look [(79,Fy)]) Of Tryz.f64 (ts,()) (λ(z:Option BB)=>z=some (Vi ts)):=by
 obtain ⟨h4,hd⟩:=h
 refine Eq.mp (yw ts _) ⟨rfl,rfl,?_⟩
 refine Ah ts.length (λv=>v.1) (λi v=>v=((i:Int),ts,(ts.take i).map Pb,())) rfl rfl ?_
 rintro i v K hi TA rfl hK
 dsimp only
 refine Br.dec (λhl=>?_) λhl=>?_
 ·have hl:i<ts.length:=by omega
  have FC:=hd _ (List.getElem_mem hl)
  have pJ:=FC.sX
  have hlen:=FC.len
  have WN:=FC.short
  refine ⟨_,Ap hl,rfl,rfl,?_⟩
  refine Ah (ts[i]).2.1.length (λv=>v.1) (λj v=> ∃m,v=((j:Int),(ts[i]).1,(ts[i]).2.1,(ts[i]).2.2.1,ts,m,(ts.take i).map Pb,())/\HU ((ts[i]).2.1.drop j) ((ts[i]).2.2.1.drop j) m=Pb ts[i]) rfl ⟨_,rfl,by rw [List.drop_zero,List.drop_zero];rfl⟩ ?_
  rintro j v K1 hj hjj ⟨m,rfl,hm⟩ hK1
  dsimp only
  refine Br.dec (λdJ=>?_) λdJ=>?_
  ·have dJ:j<(ts[i]).2.1.length:=by omega
   have pv:j<(ts[i]).2.2.1.length:=by omega
   rw [List.drop_eq_getElem_cons dJ,List.drop_eq_getElem_cons pv] at hm
   refine ⟨_,Ap dJ,_,if_pos (WN.2.1.2 _ (List.getElem_mem dJ)),_,Ap pv,rfl,rfl,?_⟩
   rw [Ag (by omega)]
   exact hK1 dJ _ rfl ⟨_,rfl,hm⟩
  ·have:j=(ts[i]).2.1.length:=by omega
   subst this
   rw [List.drop_length] at hm
   have hm:m=Pb ts[i]:=by
    rw [<-hm]
    cases List.drop (ts[i]).2.1.length (ts[i]).2.2.1<;>rfl
   subst hm
   refine ⟨rfl,rfl,by show ((ts.take i).map Pb).length+1<=4294967296;rw [List.length_map,List.length_take];omega,rfl,rfl,?_⟩
   rw [Ag (by omega)]
   have hmm:(ts.take (i+1)).map Pb=(ts.take i).map Pb++ [Pb ts[i]]:=by
    rw [List.take_add_one,List.getElem?_eq_getElem hl,Option.toList_some,List.map_append]
    rfl
   refine hK hl _ rfl ?_
   rw [hmm]
   rfl
 ·have:i=ts.length:=by omega
  subst this
  rw [Bi,List.take_length]
  rfl
theorem lU:Sound Tryz.prog 64 Of:=
 Sound.Co (NN [Sn+101101]) (Ae Vu Al) mixed Tryz.func64 (by kernel_rfl) (by kernel_rfl) λx h=>xA x.1 h
theorem Ya (ts:List TT) (s:List Int):(Li ts s).length=ts.length:=by unfold Li;rw [List.length_map]
theorem qZ {ts:List TT} {s:List Int} {i:Nat} (hl:i<ts.length):(Li (ts.take (i+1)) s)=Li (ts.take i) s++ [mj ts[i] s]:=by
 unfold Li
 rw [List.take_add_one,List.getElem?_eq_getElem hl,Option.toList_some,List.map_append]
 rfl
theorem Abz (b:Option BB) (s:List Int) (h:PC b s):fnW Cc (look [(79,Fy),(80,Ui)]) iM Tryz.f59 (b,s,()) (λ(z:List Int)=>z=LQ b s):=by
 obtain ⟨ts,⟨h4,hd⟩,rfl,hs⟩:=h
 refine Eq.mp (Aco _ s _) ⟨Vi ts,rfl,rfl,rfl,?_⟩
 show Bk _ _
 refine Ah ts.length (λv=>v.1) (λi v=>v=((i:Int),Li (ts.take i) s,())) rfl rfl ?_
 rintro i v K hi TA rfl hK
 dsimp only
 refine Br.dec (λhl=>?_) λhl=>?_
 ·have hl:i<ts.length:=by have hl:(i:Int)<(ts.length:Int):=hl;omega
  have FC:=hd _ (List.getElem_mem hl)
  obtain ⟨gD,px⟩:=hs.2 _ (List.getElem_mem hl)
  have htl:=FC.tl
  have dK:=FC.pl _ px
  refine ⟨ts[i],Ap hl,Vi ts,rfl,Pb ts[i],?_,_,if_pos ⟨by show (ts[i]).1.length<=4294967296;omega,gD⟩,_,if_pos (by show (Bx s (ts[i]).1).length<=4294967296;omega),rfl,rfl,?_,rfl,rfl,?_⟩
  ·show idx (ts.map Pb) (i:Int)=_
   rw [Ap (by rw [List.length_map];exact hl),List.getElem_map]
  ·show (Li (ts.take i) s).length+1<=4294967296
   rw [Ya,List.length_take];omega
  ·rw [Ag (by omega)]
   refine hK hl _ rfl ?_
   rw [qZ hl,show Pb ts[i] (Pw (Bx s (ts[i]).1))=some (mj ts[i] s) from NX FC px]
   rfl
 ·have:i=ts.length:=by have hl: ¬(i:Int)<(ts.length:Int):=hl;omega
  subst this
  rw [Bi,List.take_length]
  rfl
theorem sr:Sound Tryz.prog 59 iM:=
 Sound.Co Bg (Ae Vu (Ae qy Al)) mixed Tryz.func59 (by kernel_rfl) (by kernel_rfl) λx h=>Abz x.1 x.2.1 h
theorem LY (a b:Int):(if true=true then if b>a then b else a else if b<a then b else a)=max a b:=by
 rw [if_pos rfl]
 by_cases h:b>a
 ·rw [if_pos h,Int.max_eq_right (by omega)]
 ·rw [if_neg h,Int.max_eq_left (by omega)]
theorem QZ (b:Option BB) (s:List Int) (h:PC b s):fnW Cc (look [(59,iM)]) dW Tryz.f52 (b,s,()) (λ(z:Int)=>z=zL b s):=by
 obtain ⟨ts,ht,hb,hs⟩:=id h
 have hl4:=ht.1
 have hlen:=Ya ts s
 obtain ⟨xs,PA⟩: ∃xs,LQ b s=xs:=⟨_,rfl⟩
 have TQ:zL b s=xs.foldl max 0:=by rw [<-PA,hb];rfl
 have QN:xs.length=ts.length:=by rw [<-PA,hb];exact hlen
 refine Eq.mp (RU b s _) ⟨xs,(if_pos h).trans (congrArg some PA),?_⟩
 rw [TQ]
 refine Ah xs.length (λv=>v.2.1) (λi v=>v=((xs.take i).foldl max 0,(i:Int),())) rfl rfl ?_
 rintro i v K hi TA rfl hK
 dsimp only
 refine Br.dec (λhl=>?_) λhl=>?_
 ·have hl:i<xs.length:=by omega
  refine ⟨_,Ap hl,?_⟩
  rw [Ag (by omega)]
  refine hK hl _ rfl ?_
  rw [List.take_add_one,List.getElem?_eq_getElem hl,Option.toList_some,List.foldl_append,LY]
  rfl
 ·have:i=xs.length:=by omega
  subst this
  rw [List.take_length]
theorem xV:Sound Tryz.prog 52 dW:=
 Sound.Co Bg (Ae sr Al) mixed Tryz.func52 (by kernel_rfl) (by kernel_rfl) λx h=>QZ x.1 x.2.1 h
theorem zy {L:List (List Int)} {x:List Int} (hn:L.Nodup) (hx:x∈L):Ds (λq=>decide (q=x)) L 0=((L.idxOf x:Nat):Int):=by
 obtain ⟨k,hk,h1,h2,_⟩:=rH (P:= λq=>decide (q=x)) L 0 (List.any_eq_true.2 ⟨x,hx,decide_eq_true rfl⟩)
 have h3:L[k]=x:=of_decide_eq_true h2
 have h4:=zw hn hk
 rw [Tr hk,h3] at h4
 rw [h4,<-Nat.zero_add k]
 exact h1
theorem MG (ts:List TT) (s:List Int) (h:Zp ts/\fz ts s):fnW Cc (look [(78,Uj),(77,Nr)]) Ph Tryz.f57 (ts,s,()) (λ(z:List Int)=>z=Li ts s):=by
 obtain ⟨⟨h4,hd⟩,hs⟩:=h
 refine Eq.mp (OE ts s _) ⟨rfl,rfl,?_⟩
 refine Ah ts.length (λv=>v.1) (λi v=>v=((i:Int),Li (ts.take i) s,())) rfl rfl ?_
 rintro i v K hi TA rfl hK
 dsimp only
 refine Br.dec (λhl=>?_) λhl=>?_
 ·have hl:i<ts.length:=by omega
  have FC:=hd _ (List.getElem_mem hl)
  obtain ⟨gD,px⟩:=hs.2 _ (List.getElem_mem hl)
  have htl:=FC.tl
  have dK:=FC.pl _ px
  have hix:=List.idxOf_lt_length_of_mem px
  have hle:=FC.len
  have he:Nr.fn (((ts[i]).1,(ts[i]).2.1,(ts[i]).2.2.1,()),Bx s (ts[i]).1,())=some (((ts[i]).2.1.idxOf (Bx s (ts[i]).1):Nat):Int):=
   (if_pos ⟨FC.short,by show (Bx s (ts[i]).1).length<=4294967296;omega⟩).trans (congrArg some (zy FC.nodup px))
  refine ⟨_,Ap hl,_,Ap hl,_,Ap hl,_,if_pos ⟨by show (ts[i]).1.length<=4294967296;omega,gD⟩,_,he,_,Ap (by omega),rfl,rfl,?_,rfl,rfl,?_⟩
  ·show (Li (ts.take i) s).length+1<=4294967296
   rw [Ya,List.length_take];omega
  ·rw [Ag (by omega)]
   refine hK hl _ rfl ?_
   rw [qZ hl]
   unfold mj
   rw [Tr (by omega)]
   rfl
 ·have:i=ts.length:=by omega
  subst this
  rw [Bi,List.take_length]
theorem iW:Sound Tryz.prog 57 Ph:=
 Sound.Co Bg (Ae qz (Ae oU Al)) mixed Tryz.func57 (by kernel_rfl) (by kernel_rfl) λx h=>MG x.1 x.2.1 h
theorem QY (ts:List TT) (s:List Int) (h:Zp ts/\fz ts s):fnW Cc (look [(57,Ph)]) dV Tryz.f48 (ts,s,()) (λ(z:Int)=>z=eW ts s):=by
 have hl4:=h.1.1
 have hlen:=Ya ts s
 obtain ⟨xs,PA⟩: ∃xs,Li ts s=xs:=⟨_,rfl⟩
 have TQ:eW ts s=xs.foldl max 0:=by rw [<-PA];rfl
 have QN:xs.length=ts.length:=by rw [<-PA];exact hlen
 refine Eq.mp (RT ts s _) ⟨xs,(if_pos h).trans (congrArg some PA),?_⟩
 rw [TQ]
 refine Ah xs.length (λv=>v.2.1) (λi v=>v=((xs.take i).foldl max 0,(i:Int),())) rfl rfl ?_
 rintro i v K hi TA rfl hK
 dsimp only
 refine Br.dec (λhl=>?_) λhl=>?_
 ·have hl:i<xs.length:=by omega
  refine ⟨_,Ap hl,?_⟩
  rw [Ag (by omega)]
  refine hK hl _ rfl ?_
  rw [List.take_add_one,List.getElem?_eq_getElem hl,Option.toList_some,List.foldl_append,LY]
  rfl
 ·have:i=xs.length:=by omega
  subst this
  rw [List.take_length]
theorem xU:Sound Tryz.prog 48 dV:=
 Sound.Co Bg (Ae iW Al) mixed Tryz.func48 (by kernel_rfl) (by kernel_rfl) λx h=>QY x.1 x.2.1 h
end Go.Proofs.YtfolipnappekaaaGreat

namespace Go.Proofs.YtfolipnappekaaaGreat
open Go.RowKit
theorem MP {p:PP} {s:List Int} (h:Ka p s=true):Bv p=true/\Pm p.1.toNat s/\Gn p.1.toNat (p.2.2.1.map some) s:=by
 unfold Ka at h
 rw [Bool.and_eq_true,Bool.and_eq_true] at h
 obtain ⟨⟨hv,hg⟩,hh⟩:=h
 have hV:=valid hv
 have hn:=hV.n
 have hp:=UW hV hg
 exact ⟨hv,hp,(nk (by omega) (by omega) (cI (bT hV).2.2) hp).1 hh⟩
theorem zj {p:PP} {t s:List Int} (hv:Bv p=true) (hs:Pm p.1.toNat s) (ht:Ct p t=true):Ho s.length t:=by
 have h1:=hs.1
 have hn:=(valid hv).n
 intro y hy
 have:=(Et ht).2 y hy
 omega
theorem UX {p:PP} {t:List Int} (hv:Bv p=true) (ht:Ct p t=true) (hw:(Gf p.2.2.1 t).2.2=true) {s:List Int} (hs:Gn p.1.toNat (p.2.2.1.map some) s):Bx s t∈fZ p t:=by
 have hV:=valid hv
 have hc:mw p.2.2.1 (Cj p.2.2.1.length) (fZ p t):=pT hV (u9 ht) (yV hv (Et ht).1 (Et ht).2 hw)
 induction hs with
 |id=>rw [GR (yh ht)];exact (GQ ht).2
 |mul h hg ih=>
  have hp:Pm p.1.toNat _:=Wc.pm (wo hV) h
  obtain ⟨k,hk,rfl⟩:=List.mem_iff_getElem.1 (xR.1 hg)
  have:=hc.next _ ih _ (Ws hk).1
  rw [Qn hk] at this
  rw [cH (zj hv hp ht)]
  exact this
 |inv h hg ih=>
  have hp:Pm p.1.toNat _:=Wc.pm (wo hV) h
  obtain ⟨k,hk,rfl⟩:=List.mem_iff_getElem.1 (xR.1 hg)
  have:=hc.next _ ih _ (Ws hk).2
  rw [Qm hk] at this
  rw [cH (zj hv hp ht)]
  exact this
theorem AQ {p:PP} {ts:List TT} {s:List Int} (hr:Ka p s=true) (ht:Cx p ts=true):fz ts s:=by
 obtain ⟨hv,hp,hg⟩:=MP hr
 obtain ⟨_,_,Gw⟩:=dk ht
 have hn:=(valid hv).n
 refine ⟨by rw [hp.1];omega,λt nB=>?_⟩
 obtain ⟨_,h3,hw,e1,_⟩:=sx (Gw t nB)
 exact ⟨zj hv hp h3,by rw [e1];exact UX hv h3 hw hg⟩
end Go.Proofs.YtfolipnappekaaaGreat
